/- Several texts in one: Text. -/
import Derived.OrdersHeld
import Derived.StillTail
import Derived.KernelRfl
/- A region that draws its order, walked once: operations that yield their value whatever the others do may come first, reads of the world at hand may come in any order among themselves, and what changes the world comes in one order. Proved for any program. -/
namespace Go.Proofs.YtheijpjfpaghfaaGreatDoor
open Go

namespace Text
variable {P : Program} {ops : Array Oper} {Q : Exit → Act → World → Prop} {S : World → Prop}

/-- The operations that number j waits for. -/
def preds (ops : Array Oper) (j : Nat) : List Nat :=
 match ops[j]? with
 | some o => (o.after.toList.filter fun e => Region.binds .any e).map (·.on)
 | none => []

theorem mem_preds {j : Nat} {o : Oper} (ho : ops[j]? = some o) {e : Edge} (he : e ∈ o.after) (hb : Region.binds .any e = true) : e.on ∈ preds ops j := by
 unfold preds
 rw [ho]
 exact List.mem_map.2 ⟨e, List.mem_filter.2 ⟨by simpa using he, hb⟩, rfl⟩
theorem of_preds {j p : Nat} (h : p ∈ preds ops j) : ∃ o e, ops[j]? = some o ∧ e ∈ o.after ∧ Region.binds .any e = true ∧ e.on = p := by
 unfold preds at h
 split at h
 ·
  rename_i o ho
  obtain ⟨e, he, rfl⟩ := List.mem_map.1 h
  obtain ⟨h1, h2⟩ := List.mem_filter.1 he
  exact ⟨o, e, ho, by simpa using h1, h2, rfl⟩
 ·
  cases h

/-- All that number j waits for, through others too. -/
def arow (ops : Array Oper) (j : Nat) (T : List (List Nat)) : List Nat :=
 (List.range j).filter fun i => (preds ops j).contains i || (preds ops j).any fun p => (T.getD p []).contains i
def tbl (ops : Array Oper) : Nat → List (List Nat)
 | 0 => []
 | j + 1 => tbl ops j ++ [arow ops j (tbl ops j)]
theorem tbl_length (n : Nat) : (tbl ops n).length = n := by
 induction n with
 | zero => rfl
 | succ n ih => simp [tbl, ih]

/-- What has come up is shut downward. -/
def Closed (ops : Array Oper) (listed : Array Bool) : Prop := ∀ j p, p ∈ preds ops j → listed.getD j false = true → listed.getD p false = true

theorem tbl_sound {listed : Array Bool} (hc : Closed ops listed) : ∀ (n j i : Nat), i ∈ (tbl ops n).getD j [] → listed.getD j false = true → listed.getD i false = true := by
 intro n
 induction n with
 | zero => intro j i h; simp [tbl] at h
 | succ n ih =>
  intro j i h hj
  rw [tbl, List.getD_eq_getElem?_getD] at h
  by_cases hjn : j < n
  ·
   rw [List.getElem?_append_left (by rw [tbl_length]; exact hjn), ← List.getD_eq_getElem?_getD] at h
   exact ih j i h hj
  ·
   by_cases hjn2 : j = n
   ·
    subst hjn2
    rw [List.getElem?_append_right (by rw [tbl_length]; exact Nat.le_refl _), tbl_length, Nat.sub_self] at h
    simp only [List.getElem?_cons_zero, Option.getD_some] at h
    obtain ⟨_, h2⟩ := List.mem_filter.1 h
    rw [Bool.or_eq_true] at h2
    rcases h2 with h2 | h2
    ·
     exact hc j i (by simpa using h2) hj
    ·
     obtain ⟨p, hp, hi⟩ := List.any_eq_true.1 h2
     exact ih p i (by simpa using hi) (hc j p hp hj)
   ·
    rw [List.getElem?_eq_none (by rw [List.length_append, tbl_length]; simp; omega)] at h
    simp at h

/-- Kinds: 0 held (yields wherever S holds), 1 a read of the world at hand, 2 an effect that keeps S, 3 an effect behind which S is not wanted, 4 pure (yields in whatever world). May x stand before y where y does not wait for it? -/
def swapB (kx ky : Nat) : Bool := decide (4 ≤ kx) || (kx == 0 && ky != 3) || (kx == 1 && (decide (ky ≤ 1) || decide (4 ≤ ky)))
/-- May x stand before y? -/
def pairB (ops : Array Oper) (T : List (List Nat)) (x y : Nat × Nat) : Bool :=
 !(preds ops x.1).contains y.1 && !(x.2 == 3 && y.2 == 0) &&
 ((T.getD y.1 []).contains x.1 ||
  (swapB x.2 y.2 && (match ops[x.1]?, ops[y.1]? with | some ox, some oy => ox.apart ops oy | _, _ => false)))
def pairsB (ops : Array Oper) (T : List (List Nat)) : List (Nat × Nat) → Bool
 | [] => true
 | x :: r => r.all (pairB ops T x) && pairsB ops T r
def textB (ops : Array Oper) (L : List (Nat × Nat)) : Bool :=
 Region.noSelect ops && (List.range ops.size).all (fun i => (L.map (·.1)).contains i) && L.all (fun x => decide (x.1 < ops.size) && (preds ops x.1).all (fun p => decide (p < ops.size) && p != x.1)) &&
  decide (L.map (·.1)).Nodup && decide (L.length = ops.size) && pairsB ops (tbl ops ops.size) L

theorem pairsB_spec {T : List (List Nat)} : ∀ {L : List (Nat × Nat)}, pairsB ops T L = true → L.Pairwise (fun x y => pairB ops T x y = true)
 | [], _ => List.Pairwise.nil
 | x :: r, h => by
  simp only [pairsB, Bool.and_eq_true, List.all_eq_true] at h
  exact List.Pairwise.cons h.1 (pairsB_spec h.2)

/-- The walk in the order of L. -/
def wpText (P : Program) (ops : Array Oper) (Q : Exit → Act → World → Prop) (S : World → Prop) : List (Nat × Nat) → Act → World → Prop
 | [], a, w => Q .normal a w
 | (i, 0) :: r, a, w => ∃ o v, ops[i]? = some o ∧ YieldsIf P ops S o v a ∧ wpText P ops Q S r (a.put o.dst v) w
 | (i, 1) :: r, a, w => ∃ o v, ops[i]? = some o ∧ YieldsAt P ops w o v a ∧ wpText P ops Q S r (a.put o.dst v) w
 | (i, 2) :: r, a, w => wpOp P ops Q i (fun a' w' => S w' ∧ wpText P ops Q S r a' w') a w
 | (i, 3) :: r, a, w => wpOp P ops Q i (fun a' w' => wpText P ops Q S r a' w') a w
 | (i, _ + 4) :: r, a, w => ∃ o v, ops[i]? = some o ∧ Yields P ops o v a ∧ wpText P ops Q S r (a.put o.dst v) w

/-- What commutes: x stands before y and y does not wait for it. -/
def Swap (ops : Array Oper) (x y : Nat × Nat) : Prop :=
 swapB x.2 y.2 = true ∧ ∀ ox oy, ops[x.1]? = some ox → ops[y.1]? = some oy → ox.apart ops oy = true

/-- What an operation of kind k yields. -/
def Gives (P : Program) (ops : Array Oper) (S : World → Prop) (w : World) (k : Nat) (o : Oper) (v : Value) (a : Act) : Prop :=
 (k = 0 → YieldsIf P ops S o v a) ∧ (k = 1 → YieldsAt P ops w o v a) ∧ (4 ≤ k → Yields P ops o v a)
theorem Gives.of_same {w : World} {k : Nat} {o : Oper} {v : Value} {a a' : Act} (h : Gives P ops S w k o v a) (he : execOp a'.eval o = execOp a.eval o)
  (hw : Region.wanted o (yielded ops a'.tmps) = Region.wanted o (yielded ops a.tmps)) : Gives P ops S w k o v a' :=
 ⟨fun e => (h.1 e).of_same he hw, fun e => (h.2.1 e).of_same he hw, fun e => (h.2.2 e).of_same he hw⟩
theorem text_gives {w : World} {i k : Nat} (hk : k ≤ 1 ∨ 4 ≤ k) {r : List (Nat × Nat)} {a : Act} :
  wpText P ops Q S ((i, k) :: r) a w ↔ ∃ o v, ops[i]? = some o ∧ Gives P ops S w k o v a ∧ wpText P ops Q S r (a.put o.dst v) w := by
 match k, hk with
 | 0, _ => exact ⟨fun ⟨o, v, h1, h2, h3⟩ => ⟨o, v, h1, ⟨fun _ => h2, (fun h => absurd h (by decide)), (fun h => absurd h (by decide))⟩, h3⟩, fun ⟨o, v, h1, h2, h3⟩ => ⟨o, v, h1, h2.1 rfl, h3⟩⟩
 | 1, _ => exact ⟨fun ⟨o, v, h1, h2, h3⟩ => ⟨o, v, h1, ⟨(fun h => absurd h (by decide)), fun _ => h2, (fun h => absurd h (by decide))⟩, h3⟩, fun ⟨o, v, h1, h2, h3⟩ => ⟨o, v, h1, h2.2.1 rfl, h3⟩⟩
 | 2, h => exact absurd h (by omega)
 | 3, h => exact absurd h (by omega)
 | k + 4, _ => exact ⟨fun ⟨o, v, h1, h2, h3⟩ => ⟨o, v, h1, ⟨(fun h => absurd h (by omega)), (fun h => absurd h (by omega)), fun _ => h2⟩, h3⟩, fun ⟨o, v, h1, h2, h3⟩ => ⟨o, v, h1, h2.2.2 (by omega), h3⟩⟩

theorem swapB_still {kx ky : Nat} (h : swapB kx ky = true) : kx ≤ 1 ∨ 4 ≤ kx := by
 simp only [swapB, Bool.or_eq_true, Bool.and_eq_true, decide_eq_true_eq, beq_iff_eq, bne_iff_ne] at h
 omega

/-- A held operation, a read or a pure one may be brought to the front. -/
theorem front_still (i k : Nat) (hk : k ≤ 1 ∨ 4 ≤ k) (oi : Oper) (hoi : ops[i]? = some oi) (hsel : ∀ (j : Nat) (o : Oper) cs b, ops[j]? = some o → o.op ≠ .select cs b) (w : World) :
  ∀ (L1 L2 : List (Nat × Nat)) (a : Act), (∀ x ∈ L1, Swap ops x (i, k)) → wpText P ops Q S (L1 ++ (i, k) :: L2) a w →
   ∃ v, Gives P ops S w k oi v a ∧ wpText P ops Q S (L1 ++ L2) (a.put oi.dst v) w := by
 intro L1
 induction L1 with
 | nil =>
  intro L2 a _ h
  obtain ⟨o, v, ho, hy, hr⟩ := (text_gives hk).1 h
  obtain rfl : o = oi := Option.some.inj (ho.symm.trans hoi)
  exact ⟨v, hy, hr⟩
 | cons x L1 ih =>
  intro L2 a hs h
  obtain ⟨j, kj⟩ := x
  have hsw := hs (j, kj) (by simp)
  have hkj := swapB_still hsw.1
  obtain ⟨oj, vj, hoj, hy, hr⟩ := (text_gives hkj).1 h
  have hap := hsw.2 oj oi hoj hoi
  obtain ⟨h1, h2, h3⟩ := Oper.apart_spec hap
  obtain ⟨v, y0, hr'⟩ := ih L2 _ (fun x hx => hs x (by simp [hx])) hr
  have hsi := fun cs b => hsel i oi cs b hoi
  refine ⟨v, y0.of_same (execOp_put oi hsi a oj.dst vj h1).symm (wanted_put oi a oj.dst vj h1).symm, (text_gives hkj).2 ⟨oj, vj, hoj, hy.of_same (execOp_put oj (fun cs b => hsel j oj cs b hoj) a oi.dst v h3) (wanted_put oj a oi.dst v h3), ?_⟩⟩
  rw [← Act.put_comm a vj v h2]
  exact hr'

/-- An effect may be brought to the front past held and pure operations. -/
theorem front_eff (i : Nat) (oi : Oper) (hoi : ops[i]? = some oi) (hsel : ∀ (j : Nat) (o : Oper) cs b, ops[j]? = some o → o.op ≠ .select cs b)
  (hQ : ∀ c a w (d : Tmp) v, Q (.panic c) (a.put (some d) v) w → Q (.panic c) a w) (w : World) :
  ∀ (L1 L2 : List (Nat × Nat)) (a : Act), (∀ x ∈ L1, Swap ops x (i, 2)) → wpText P ops Q S (L1 ++ (i, 2) :: L2) a w →
   wpOp P ops Q i (fun a' w' => S w' ∧ wpText P ops Q S (L1 ++ L2) a' w') a w := by
 intro L1
 induction L1 with
 | nil => intro L2 a _ h; exact h
 | cons x L1 ih =>
  intro L2 a hs h
  obtain ⟨j, kj⟩ := x
  have hsw := hs (j, kj) (by simp)
  have hkj : kj = 0 ∨ 4 ≤ kj := by
   have := hsw.1
   simp only [swapB, Bool.or_eq_true, Bool.and_eq_true, decide_eq_true_eq, beq_iff_eq, bne_iff_ne] at this
   omega
  obtain ⟨oj, vj, hoj, hy, hr⟩ := (text_gives (by omega)).1 h
  have hr' := ih L2 _ (fun x hx => hs x (by simp [hx])) hr
  have hap := hsw.2 oj oi hoj hoi
  have hq : ∀ c a w, Q (.panic c) (a.put oj.dst vj) w → Q (.panic c) a w := fun c a w hq => by
   cases hd : oj.dst with
   | none => rw [hd] at hq; exact hq
   | some d => rw [hd] at hq; exact hQ c a w d _ hq
  have hsj := fun cs b => hsel j oj cs b hoj
  have hsi := fun cs b => hsel i oi cs b hoi
  rcases hkj with rfl | h4
  ·
   have h2 := wpOp_putIf (S := S) hoi hap hsj hsi hq (hy.1 rfl) hr'
   exact wpOp_mono (fun a' w' h3 => ⟨h3.2.1, oj, vj, hoj, h3.1, h3.2.2⟩) h2
  ·
   have h2 := wpOp_put hoi hap hsj hsi hq (hy.2.2 h4) hr'
   exact wpOp_mono (fun a' w' h3 => ⟨h3.2.1, (text_gives (.inr h4)).2 ⟨oj, vj, hoj, ⟨fun e => absurd e (by omega), fun e => absurd e (by omega), fun _ => h3.1⟩, h3.2.2⟩⟩) h2
/-- An effect behind which S is not wanted, past pure operations. -/
theorem front_last (i : Nat) (oi : Oper) (hoi : ops[i]? = some oi) (hsel : ∀ (j : Nat) (o : Oper) cs b, ops[j]? = some o → o.op ≠ .select cs b)
  (hQ : ∀ c a w (d : Tmp) v, Q (.panic c) (a.put (some d) v) w → Q (.panic c) a w) (w : World) :
  ∀ (L1 L2 : List (Nat × Nat)) (a : Act), (∀ x ∈ L1, Swap ops x (i, 3)) → wpText P ops Q S (L1 ++ (i, 3) :: L2) a w →
   wpOp P ops Q i (fun a' w' => wpText P ops Q S (L1 ++ L2) a' w') a w := by
 intro L1
 induction L1 with
 | nil => intro L2 a _ h; exact h
 | cons x L1 ih =>
  intro L2 a hs h
  obtain ⟨j, kj⟩ := x
  have hsw := hs (j, kj) (by simp)
  have h4 : 4 ≤ kj := by
   have := hsw.1
   simp only [swapB, Bool.or_eq_true, Bool.and_eq_true, decide_eq_true_eq, beq_iff_eq, bne_iff_ne] at this
   omega
  obtain ⟨oj, vj, hoj, hy, hr⟩ := (text_gives (.inr h4)).1 h
  have hr' := ih L2 _ (fun x hx => hs x (by simp [hx])) hr
  have hap := hsw.2 oj oi hoj hoi
  have hq : ∀ c a w, Q (.panic c) (a.put oj.dst vj) w → Q (.panic c) a w := fun c a w hq => by
   cases hd : oj.dst with
   | none => rw [hd] at hq; exact hq
   | some d => rw [hd] at hq; exact hQ c a w d _ hq
  have h2 := wpOp_put hoi hap (fun cs b => hsel j oj cs b hoj) (fun cs b => hsel i oi cs b hoi) hq (hy.2.2 h4) hr'
  exact wpOp_mono (fun a' w' h3 => (text_gives (.inr h4)).2 ⟨oj, vj, hoj, ⟨fun e => absurd e (by omega), fun e => absurd e (by omega), fun _ => h3.1⟩, h3.2⟩) h2

theorem wpOp_of_yieldsAt {i : Nat} {o : Oper} {v : Value} {a : Act} {w : World} {K : Act → World → Prop} (hi : ops[i]? = some o) (hy : YieldsAt P ops w o v a) (h : K (a.put o.dst v) w) : wpOp P ops Q i K a w :=
 wpOp_of_stOp (fun _ h' => h') (hy.stOp hi (K := fun a' => K a' w) h)

/-- What L and the list of what has come up say of one another. -/
structure Inv (ops : Array Oper) (L : List (Nat × Nat)) (listed : Array Bool) : Prop where
 size : listed.size = ops.size
 mem : ∀ i, i ∈ L.map (·.1) ↔ i < ops.size ∧ listed.getD i false = false
 nodup : (L.map (·.1)).Nodup
 closed : Closed ops listed
 pairs : L.Pairwise (fun x y => pairB ops (tbl ops ops.size) x y = true)
 inside : ∀ x ∈ L, ∀ p ∈ preds ops x.1, p < ops.size ∧ p ≠ x.1

theorem getD_true_false {listed : Array Bool} {i : Nat} (hi : i < listed.size) : listed.getD i true = listed.getD i false := by simp [hi]

theorem Inv.ready_of_head {x : Nat × Nat} {r : List (Nat × Nat)} {listed : Array Bool} (h : Inv ops (x :: r) listed) : x.1 ∈ Region.ready .any ops listed := by
 have hx := (h.mem x.1).1 (by simp)
 obtain ⟨o, ho⟩ : ∃ o, ops[x.1]? = some o := ⟨_, Array.getElem?_eq_getElem hx.1⟩
 refine mem_ready.2 ⟨by rw [getD_true_false (by rw [h.size]; exact hx.1)]; exact hx.2, o, ho, fun e he hb => ?_⟩
 have hp := mem_preds ho he hb
 obtain ⟨h1, h2⟩ := h.inside x (by simp) e.on hp
 cases hl : listed.getD e.on false with
 | true => rfl
 | false =>
  have hm := (h.mem e.on).2 ⟨h1, hl⟩
  simp only [List.map_cons, List.mem_cons] at hm
  rcases hm with hm | hm
  ·
   exact absurd hm h2
  ·
   obtain ⟨y, hy, hye⟩ := List.mem_map.1 hm
   have := (List.pairwise_cons.1 h.pairs).1 y hy
   simp only [pairB, Bool.and_eq_true, Bool.not_eq_true'] at this
   rw [hye] at this
   have h3 := this.1.1
   rw [List.contains_iff_mem.2 hp] at h3
   cases h3

theorem Inv.step {L1 L2 : List (Nat × Nat)} {i k : Nat} {listed : Array Bool} (h : Inv ops (L1 ++ (i, k) :: L2) listed) (hr : i ∈ Region.ready .any ops listed) : Inv ops (L1 ++ L2) (listed.setIfInBounds i true) := by
 have hil : i < ops.size := ((h.mem i).1 (by simp)).1
 have hnd := h.nodup
 have hsub : (L1 ++ L2).Sublist (L1 ++ (i, k) :: L2) := List.Sublist.append (List.Sublist.refl _) (List.sublist_cons_self _ _)
 refine ⟨by simp [h.size], fun j => ?_, hnd.sublist (hsub.map _), ?_, h.pairs.sublist hsub, fun x hx => h.inside x (hsub.subset hx)⟩
 ·
  have hj := h.mem j
  have hni : i ∉ (L1 ++ L2).map (·.1) := by
   rw [List.map_append, List.map_cons, List.nodup_append] at hnd
   obtain ⟨_, n2, n3⟩ := hnd
   rw [List.nodup_cons] at n2
   rw [List.map_append, List.mem_append]
   rintro (hm | hm)
   ·
    exact n3 i hm i (by simp) rfl
   ·
    exact n2.1 hm
  by_cases e : i = j
  ·
   subst e
   constructor
   ·
    intro hm; exact absurd hm hni
   ·
    rintro ⟨_, h2⟩
    simp [h.size, hil] at h2
  ·
   rw [getD_set_ne false e]
   rw [← hj]
   simp only [List.map_append, List.map_cons, List.mem_append, List.mem_cons]
   constructor
   ·
    rintro (hm | hm)
    ·
     exact .inl hm
    ·
     exact .inr (.inr hm)
   ·
    rintro (hm | hm | hm)
    ·
     exact .inl hm
    ·
     exact absurd hm.symm e
    ·
     exact .inr hm
 ·
  intro j p hp hl
  by_cases e : i = j
  ·
   subst e
   obtain ⟨_, o, ho, hall⟩ := mem_ready.1 hr
   obtain ⟨o', ed, ho', he, hb, rfl⟩ := of_preds hp
   obtain rfl : o = o' := Option.some.inj (ho.symm.trans ho')
   exact getD_set_true (hall ed he hb)
  ·
   rw [getD_set_ne false e] at hl
   exact getD_set_true (h.closed j p hp hl)

theorem Inv.swap {L1 L2 : List (Nat × Nat)} {i k : Nat} {listed : Array Bool} (h : Inv ops (L1 ++ (i, k) :: L2) listed) (hr : i ∈ Region.ready .any ops listed) : ∀ x ∈ L1, Swap ops x (i, k) := by
 intro x hx
 have hp := (List.pairwise_append.1 h.pairs).2.2 x hx (i, k) (by simp)
 have hxl := (h.mem x.1).1 (by rw [List.map_append, List.mem_append]; exact .inl (List.mem_map_of_mem hx))
 simp only [pairB, Bool.and_eq_true, Bool.or_eq_true, Bool.not_eq_true'] at hp
 rcases hp.2 with ha | hb
 ·
  exfalso
  have hmem : x.1 ∈ (tbl ops ops.size).getD i [] := by simpa using ha
  have hc2 := (h.step hr).closed
  have hl := tbl_sound hc2 _ i x.1 hmem (by
   have hil : i < ops.size := ((h.mem i).1 (by simp)).1
   simp [h.size, hil])
  by_cases e : i = x.1
  ·
   have hnd := h.nodup
   rw [List.map_append, List.map_cons, List.nodup_append] at hnd
   exact hnd.2.2 x.1 (List.mem_map_of_mem hx) i (by simp) e.symm
  ·
   rw [getD_set_ne false e, hxl.2] at hl
   cases hl
 ·
  refine ⟨hb.1, fun ox oy hox hoy => ?_⟩
  ·
   have := hb.2
   simp only [hox, hoy] at this
   exact this

theorem wpAny_of_text (hsel : ∀ (j : Nat) (o : Oper) cs b, ops[j]? = some o → o.op ≠ .select cs b) (hQ : ∀ c a w (d : Tmp) v, Q (.panic c) (a.put (some d) v) w → Q (.panic c) a w) :
  ∀ (n : Nat) (L : List (Nat × Nat)) (listed : Array Bool) (a : Act) (w : World), L.length = n → Inv ops L listed → ((∃ x ∈ L, x.2 = 0) → S w) → wpText P ops Q S L a w → wpAny P .any ops Q n listed a w
 | 0, L, listed, a, w, hn, inv, _, h => by
  obtain rfl : L = [] := List.eq_nil_of_length_eq_zero hn
  refine ⟨?_, h⟩
  cases hrd : Region.ready .any ops listed with
  | nil => rfl
  | cons j js =>
   have hj : j ∈ Region.ready .any ops listed := by rw [hrd]; simp
   obtain ⟨h1, o, ho, _⟩ := mem_ready.1 hj
   have hlt : j < ops.size := (Array.getElem?_eq_some_iff.1 ho).1
   have := (inv.mem j).2 ⟨hlt, by rw [← getD_true_false (by rw [inv.size]; exact hlt)]; exact h1⟩
   simp at this
 | n + 1, L, listed, a, w, hn, inv, hS, h => by
  refine ⟨fun h0 => ?_, fun i hi => ?_⟩
  ·
   cases L with
   | nil => exact h
   | cons x r => have := inv.ready_of_head; rw [h0] at this; cases this
  ·
   obtain ⟨h1, oi, hoi, _⟩ := mem_ready.1 hi
   have hlt : i < ops.size := (Array.getElem?_eq_some_iff.1 hoi).1
   have hm := (inv.mem i).2 ⟨hlt, by rw [← getD_true_false (by rw [inv.size]; exact hlt)]; exact h1⟩
   obtain ⟨⟨i', k⟩, hx, rfl⟩ := List.mem_map.1 hm
   obtain ⟨L1, L2, rfl⟩ := List.append_of_mem hx
   have hsw := inv.swap hi
   have inv' := inv.step hi
   have hn' : (L1 ++ L2).length = n := by simp only [List.length_append, List.length_cons] at hn ⊢; omega
   have hall := fun x (hx : x ∈ L1) => (List.pairwise_append.1 inv.pairs).2.2 x hx (i', k) (by simp)
   have hL2 := (List.pairwise_cons.1 (List.pairwise_append.1 inv.pairs).2.1).1
   have hpass : (∃ x ∈ L1 ++ L2, x.2 = 0) → S w := fun ⟨x, hx, hx0⟩ => hS ⟨x, by simp only [List.mem_append, List.mem_cons] at hx ⊢; exact hx.imp id .inr, hx0⟩
   have go : wpOp P ops Q i' (fun a' w' => ((∃ x ∈ L1 ++ L2, x.2 = 0) → S w') ∧ wpText P ops Q S (L1 ++ L2) a' w') a w := by
    match k, hsw, h, hL2, hS with
    | 0, hsw, h, _, hS =>
     obtain ⟨v, y0, hr⟩ := front_still i' 0 (by omega) oi hoi hsel w L1 L2 a hsw h
     exact (y0.1 rfl).wpOp hoi (hS ⟨(i', 0), by simp, rfl⟩) ⟨hpass, hr⟩
    | 1, hsw, h, _, _ =>
     obtain ⟨v, y1, hr⟩ := front_still i' 1 (by omega) oi hoi hsel w L1 L2 a hsw h
     exact wpOp_of_yieldsAt hoi (y1.2.1 rfl) ⟨hpass, hr⟩
    | 2, hsw, h, _, _ => exact wpOp_mono (fun a' w' h' => ⟨fun _ => h'.1, h'.2⟩) (front_eff i' oi hoi hsel hQ w L1 L2 a hsw h)
    | 3, hsw, h, hL2, _ =>
     refine wpOp_mono (fun a' w' h' => ⟨fun ⟨x, hx, hx0⟩ => ?_, h'⟩) (front_last i' oi hoi hsel hQ w L1 L2 a hsw h)
     exfalso
     rcases List.mem_append.1 hx with hx | hx
     ·
      have := (hsw x hx).1
      rw [hx0] at this
      simp [swapB] at this
     ·
      have := hL2 x hx
      simp [pairB, hx0] at this
    | k + 4, hsw, h, _, _ =>
     obtain ⟨v, y1, hr⟩ := front_still i' (k + 4) (by omega) oi hoi hsel w L1 L2 a hsw h
     exact (y1.2.2 (by omega)).wpOp hoi ⟨hpass, hr⟩
   exact wpOp_mono (fun a' w' h' => wpAny_of_text hsel hQ n (L1 ++ L2) _ a' w' hn' inv' h'.1 h'.2) go

/-- THE RULE. -/
theorem wp_region_text {id : Nat} {a : Act} {w : World} (S : World → Prop) (L : List (Nat × Nat)) (hm : P.follows .mixedOrders = true) (hB : textB ops L = true)
  (hQ : ∀ c a w (d : Tmp) v, Q (.panic c) (a.put (some d) v) w → Q (.panic c) a w) (hS : S w.drew) (h : wpText P ops Q S L a w.drew) : (Code.region id ops true).wp P Q a w := by
 simp only [textB, Bool.and_eq_true, decide_eq_true_eq] at hB
 obtain ⟨⟨⟨⟨⟨h1, h2⟩, h3⟩, h4⟩, hlen⟩, h5⟩ := hB
 refine wp_region_any hm ?_
 refine wpAny_of_text (S := S) (Region.noSelect_spec h1) hQ ops.size L _ a _ hlen ⟨by simp, fun i => ?_, h4, fun j p hp hl => ?_, pairsB_spec h5, fun x hx p hp => ?_⟩ (fun _ => hS) h
 ·
  rw [getD_replicate_false]
  constructor
  ·
   intro hi
   obtain ⟨x, hx, rfl⟩ := List.mem_map.1 hi
   have := List.all_eq_true.1 h3 x hx
   simp only [Bool.and_eq_true, decide_eq_true_eq] at this
   exact ⟨this.1, rfl⟩
  ·
   rintro ⟨hi, _⟩
   have := List.all_eq_true.1 h2 i (List.mem_range.2 hi)
   simpa using this
 ·
  rw [getD_replicate_false] at hl; cases hl
 ·
  have := List.all_eq_true.1 h3 x hx
  simp only [Bool.and_eq_true] at this
  have h6 := List.all_eq_true.1 this.2 p hp
  simp only [Bool.and_eq_true, decide_eq_true_eq] at h6
  exact ⟨h6.1, by simpa using h6.2⟩

section steps
variable {a : Act} {w : World} {r : List (Nat × Nat)} {i : Nat}
theorem held {o : Oper} {v : Value} (ho : ops[i]? = some o) (hw : Region.wanted o (yielded ops a.tmps) = true) (hv : ∀ w, S w → (execOp a.eval o).run P w = .ok (.value v) w)
  (h : wpText P ops Q S r (a.put o.dst v) w) : wpText P ops Q S ((i, 0) :: r) a w := ⟨o, v, ho, .inl ⟨hw, hv⟩, h⟩
theorem pure {o : Oper} {v : Value} (ho : ops[i]? = some o) (hw : Region.wanted o (yielded ops a.tmps) = true) (hv : ∀ w, (execOp a.eval o).run P w = .ok (.value v) w)
  (h : wpText P ops Q S r (a.put o.dst v) w) : wpText P ops Q S ((i, 4) :: r) a w := ⟨o, v, ho, .inl ⟨hw, hv⟩, h⟩
theorem read {o : Oper} {v : Value} (ho : ops[i]? = some o) (hw : Region.wanted o (yielded ops a.tmps) = true) (hv : (execOp a.eval o).run P w = .ok (.value v) w)
  (h : wpText P ops Q S r (a.put o.dst v) w) : wpText P ops Q S ((i, 1) :: r) a w := ⟨o, v, ho, .inl ⟨hw, .inl hv⟩, h⟩
/-- No way out but the normal one. -/
def NoQ : Exit → Act → World → Prop := fun _ _ _ => False
theorem wp_of_noQ {o : Oper} {K : Act → World → Prop} (h : o.wp P a w K NoQ) : o.wp P a w K Q := by
 unfold Oper.wp at *
 generalize (execOp a.eval o).run P w = r at *
 cases r with
 | ok n w' =>
  cases n <;> simp only [Oper.upon] at h ⊢ <;>
   first
    | exact h
    | exact Calls.mono h (fun e w'' he => by cases e <;> first | exact he | exact he.elim | (obtain ⟨_, _, hf⟩ := he; exact hf.elim))
 | halt x w' => cases x <;> simp only [Oper.upon] at h ⊢ <;> exact h.elim
theorem eff {o : Oper} (ho : ops[i]? = some o) (hg : o.guard = none) (h : ∀ K : Act → World → Prop, (∀ a w, S w → wpText P ops Q S r a w → K a w) → o.wp P a w K NoQ) : wpText P ops Q S ((i, 2) :: r) a w := by
 show wpOp P ops Q i (fun a' w' => S w' ∧ wpText P ops Q S r a' w') a w
 unfold wpOp
 simp only [ho]
 rw [if_pos (by simp [Region.wanted, hg])]
 exact .inl (wp_of_noQ (h _ fun _ _ h1 h2 => ⟨h1, h2⟩))
theorem last {o : Oper} (ho : ops[i]? = some o) (hg : o.guard = none) (h : ∀ K : Act → World → Prop, (∀ a w, wpText P ops Q S r a w → K a w) → o.wp P a w K NoQ) : wpText P ops Q S ((i, 3) :: r) a w := by
 show wpOp P ops Q i (fun a' w' => wpText P ops Q S r a' w') a w
 unfold wpOp
 simp only [ho]
 rw [if_pos (by simp [Region.wanted, hg])]
 exact .inl (wp_of_noQ (h _ fun _ _ h2 => h2))
theorem purek {o : Oper} (ho : ops[i]? = some o) (hw : Region.wanted o (yielded ops a.tmps) = true)
  (h : ∀ K : Act → Prop, (∀ a, wpText P ops Q S r a w → K a) → ∃ v, (∀ w, (execOp a.eval o).run P w = .ok (.value v) w) ∧ K (a.put o.dst v)) : wpText P ops Q S ((i, 4) :: r) a w := by
 obtain ⟨v, h1, h2⟩ := h _ (fun _ h => h)
 exact pure ho hw h1 h2
theorem heldk {o : Oper} (ho : ops[i]? = some o) (hw : Region.wanted o (yielded ops a.tmps) = true)
  (h : ∀ K : Act → Prop, (∀ a, wpText P ops Q S r a w → K a) → ∃ v, (∀ w, S w → (execOp a.eval o).run P w = .ok (.value v) w) ∧ K (a.put o.dst v)) : wpText P ops Q S ((i, 0) :: r) a w := by
 obtain ⟨v, h1, h2⟩ := h _ (fun _ h => h)
 exact held ho hw h1 h2
theorem readk {o : Oper} (ho : ops[i]? = some o) (hw : Region.wanted o (yielded ops a.tmps) = true)
  (h : ∀ K : Act → Prop, (∀ a, wpText P ops Q S r a w → K a) → ∃ v, (execOp a.eval o).run P w = .ok (.value v) w ∧ K (a.put o.dst v)) : wpText P ops Q S ((i, 1) :: r) a w := by
 obtain ⟨v, h1, h2⟩ := h _ (fun _ h => h)
 exact read ho hw h1 h2
theorem done (h : Q .normal a w) : wpText P ops Q S [] a w := h
end steps
attribute [irreducible] wpText
end Text
end Go.Proofs.YtheijpjfpaghfaaGreatDoor
