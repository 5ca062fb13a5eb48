/- Several texts in one: Text, Text3, Text2, Free. -/
import Derived.OrdersHeld
import Derived.StillTail
import Derived.KernelRfl
import Derived.Test.YtboglaokdgnpaaaA1
/- A region that draws its order, walked once: operations that yield their value whatever the others do may come first, reads of the world at hand may come in any order among themselves, and what changes the world comes in one order. Proved for any program. -/
namespace Go.Proofs.Ytboglaokdgnpaaa
open Go

namespace Text
variable {P : Program} {ops : Array Oper} {Q : Exit → Act → World → Prop} {S : World → Prop}

/-- The operations that number j waits for. -/
def preds (ops : Array Oper) (j : Nat) : List Nat :=
 match ops[j]? with
 | some o => (o.after.toList.filter fun e => Region.binds .any e).map (·.on)
 | none => []

theorem mem_preds {j : Nat} {o : Oper} (ho : ops[j]? = some o) {e : Edge} (he : e ∈ o.after) (hb : Region.binds .any e = true) : e.on ∈ preds ops j := by
 unfold preds
 rw [ho]
 exact List.mem_map.2 ⟨e, List.mem_filter.2 ⟨by simpa using he, hb⟩, rfl⟩
theorem of_preds {j p : Nat} (h : p ∈ preds ops j) : ∃ o e, ops[j]? = some o ∧ e ∈ o.after ∧ Region.binds .any e = true ∧ e.on = p := by
 unfold preds at h
 split at h
 ·
  rename_i o ho
  obtain ⟨e, he, rfl⟩ := List.mem_map.1 h
  obtain ⟨h1, h2⟩ := List.mem_filter.1 he
  exact ⟨o, e, ho, by simpa using h1, h2, rfl⟩
 ·
  cases h

/-- All that number j waits for, through others too. -/
def arow (ops : Array Oper) (j : Nat) (T : List (List Nat)) : List Nat :=
 (List.range j).filter fun i => (preds ops j).contains i || (preds ops j).any fun p => (T.getD p []).contains i
def tbl (ops : Array Oper) : Nat → List (List Nat)
 | 0 => []
 | j + 1 => tbl ops j ++ [arow ops j (tbl ops j)]
theorem tbl_length (n : Nat) : (tbl ops n).length = n := by
 induction n with
 | zero => rfl
 | succ n ih => simp [tbl, ih]

/-- What has come up is shut downward. -/
def Closed (ops : Array Oper) (listed : Array Bool) : Prop := ∀ j p, p ∈ preds ops j → listed.getD j false = true → listed.getD p false = true

theorem tbl_sound {listed : Array Bool} (hc : Closed ops listed) : ∀ (n j i : Nat), i ∈ (tbl ops n).getD j [] → listed.getD j false = true → listed.getD i false = true := by
 intro n
 induction n with
 | zero => intro j i h; simp [tbl] at h
 | succ n ih =>
  intro j i h hj
  rw [tbl, List.getD_eq_getElem?_getD] at h
  by_cases hjn : j < n
  ·
   rw [List.getElem?_append_left (by rw [tbl_length]; exact hjn), ← List.getD_eq_getElem?_getD] at h
   exact ih j i h hj
  ·
   by_cases hjn2 : j = n
   ·
    subst hjn2
    rw [List.getElem?_append_right (by rw [tbl_length]; exact Nat.le_refl _), tbl_length, Nat.sub_self] at h
    simp only [List.getElem?_cons_zero, Option.getD_some] at h
    obtain ⟨_, h2⟩ := List.mem_filter.1 h
    rw [Bool.or_eq_true] at h2
    rcases h2 with h2 | h2
    ·
     exact hc j i (by simpa using h2) hj
    ·
     obtain ⟨p, hp, hi⟩ := List.any_eq_true.1 h2
     exact ih p i (by simpa using hi) (hc j p hp hj)
   ·
    rw [List.getElem?_eq_none (by rw [List.length_append, tbl_length]; simp; omega)] at h
    simp at h

/-- Kinds: 0 held (yields wherever S holds), 1 a read of the world at hand, 2 an effect that keeps S, 3 an effect behind which S is not wanted, 4 pure (yields in whatever world). May x stand before y where y does not wait for it? -/
def swapB (kx ky : Nat) : Bool := decide (4 ≤ kx) || (kx == 0 && ky != 3) || (kx == 1 && (decide (ky ≤ 1) || decide (4 ≤ ky)))
/-- May x stand before y? -/
def pairB (ops : Array Oper) (T : List (List Nat)) (x y : Nat × Nat) : Bool :=
 !(preds ops x.1).contains y.1 && !(x.2 == 3 && y.2 == 0) &&
 ((T.getD y.1 []).contains x.1 ||
  (swapB x.2 y.2 && (match ops[x.1]?, ops[y.1]? with | some ox, some oy => ox.apart ops oy | _, _ => false)))
def pairsB (ops : Array Oper) (T : List (List Nat)) : List (Nat × Nat) → Bool
 | [] => true
 | x :: r => r.all (pairB ops T x) && pairsB ops T r
def textB (ops : Array Oper) (L : List (Nat × Nat)) : Bool :=
 Region.noSelect ops && (List.range ops.size).all (fun i => (L.map (·.1)).contains i) && L.all (fun x => decide (x.1 < ops.size) && (preds ops x.1).all (fun p => decide (p < ops.size) && p != x.1)) &&
  decide (L.map (·.1)).Nodup && decide (L.length = ops.size) && pairsB ops (tbl ops ops.size) L

theorem pairsB_spec {T : List (List Nat)} : ∀ {L : List (Nat × Nat)}, pairsB ops T L = true → L.Pairwise (fun x y => pairB ops T x y = true)
 | [], _ => List.Pairwise.nil
 | x :: r, h => by
  simp only [pairsB, Bool.and_eq_true, List.all_eq_true] at h
  exact List.Pairwise.cons h.1 (pairsB_spec h.2)

/-- The walk in the order of L. -/
def wpText (P : Program) (ops : Array Oper) (Q : Exit → Act → World → Prop) (S : World → Prop) : List (Nat × Nat) → Act → World → Prop
 | [], a, w => Q .normal a w
 | (i, 0) :: r, a, w => ∃ o v, ops[i]? = some o ∧ YieldsIf P ops S o v a ∧ wpText P ops Q S r (a.put o.dst v) w
 | (i, 1) :: r, a, w => ∃ o v, ops[i]? = some o ∧ YieldsAt P ops w o v a ∧ wpText P ops Q S r (a.put o.dst v) w
 | (i, 2) :: r, a, w => wpOp P ops Q i (fun a' w' => S w' ∧ wpText P ops Q S r a' w') a w
 | (i, 3) :: r, a, w => wpOp P ops Q i (fun a' w' => wpText P ops Q S r a' w') a w
 | (i, _ + 4) :: r, a, w => ∃ o v, ops[i]? = some o ∧ Yields P ops o v a ∧ wpText P ops Q S r (a.put o.dst v) w

/-- What commutes: x stands before y and y does not wait for it. -/
def Swap (ops : Array Oper) (x y : Nat × Nat) : Prop :=
 swapB x.2 y.2 = true ∧ ∀ ox oy, ops[x.1]? = some ox → ops[y.1]? = some oy → ox.apart ops oy = true

/-- What an operation of kind k yields. -/
def Gives (P : Program) (ops : Array Oper) (S : World → Prop) (w : World) (k : Nat) (o : Oper) (v : Value) (a : Act) : Prop :=
 (k = 0 → YieldsIf P ops S o v a) ∧ (k = 1 → YieldsAt P ops w o v a) ∧ (4 ≤ k → Yields P ops o v a)
theorem Gives.of_same {w : World} {k : Nat} {o : Oper} {v : Value} {a a' : Act} (h : Gives P ops S w k o v a) (he : execOp a'.eval o = execOp a.eval o)
  (hw : Region.wanted o (yielded ops a'.tmps) = Region.wanted o (yielded ops a.tmps)) : Gives P ops S w k o v a' :=
 ⟨fun e => (h.1 e).of_same he hw, fun e => (h.2.1 e).of_same he hw, fun e => (h.2.2 e).of_same he hw⟩
theorem text_gives {w : World} {i k : Nat} (hk : k ≤ 1 ∨ 4 ≤ k) {r : List (Nat × Nat)} {a : Act} :
  wpText P ops Q S ((i, k) :: r) a w ↔ ∃ o v, ops[i]? = some o ∧ Gives P ops S w k o v a ∧ wpText P ops Q S r (a.put o.dst v) w := by
 match k, hk with
 | 0, _ => exact ⟨fun ⟨o, v, h1, h2, h3⟩ => ⟨o, v, h1, ⟨fun _ => h2, (fun h => absurd h (by decide)), (fun h => absurd h (by decide))⟩, h3⟩, fun ⟨o, v, h1, h2, h3⟩ => ⟨o, v, h1, h2.1 rfl, h3⟩⟩
 | 1, _ => exact ⟨fun ⟨o, v, h1, h2, h3⟩ => ⟨o, v, h1, ⟨(fun h => absurd h (by decide)), fun _ => h2, (fun h => absurd h (by decide))⟩, h3⟩, fun ⟨o, v, h1, h2, h3⟩ => ⟨o, v, h1, h2.2.1 rfl, h3⟩⟩
 | 2, h => exact absurd h (by omega)
 | 3, h => exact absurd h (by omega)
 | k + 4, _ => exact ⟨fun ⟨o, v, h1, h2, h3⟩ => ⟨o, v, h1, ⟨(fun h => absurd h (by omega)), (fun h => absurd h (by omega)), fun _ => h2⟩, h3⟩, fun ⟨o, v, h1, h2, h3⟩ => ⟨o, v, h1, h2.2.2 (by omega), h3⟩⟩

theorem swapB_still {kx ky : Nat} (h : swapB kx ky = true) : kx ≤ 1 ∨ 4 ≤ kx := by
 simp only [swapB, Bool.or_eq_true, Bool.and_eq_true, decide_eq_true_eq, beq_iff_eq, bne_iff_ne] at h
 omega

/-- A held operation, a read or a pure one may be brought to the front. -/
theorem front_still (i k : Nat) (hk : k ≤ 1 ∨ 4 ≤ k) (oi : Oper) (hoi : ops[i]? = some oi) (hsel : ∀ (j : Nat) (o : Oper) cs b, ops[j]? = some o → o.op ≠ .select cs b) (w : World) :
  ∀ (L1 L2 : List (Nat × Nat)) (a : Act), (∀ x ∈ L1, Swap ops x (i, k)) → wpText P ops Q S (L1 ++ (i, k) :: L2) a w →
   ∃ v, Gives P ops S w k oi v a ∧ wpText P ops Q S (L1 ++ L2) (a.put oi.dst v) w := by
 intro L1
 induction L1 with
 | nil =>
  intro L2 a _ h
  obtain ⟨o, v, ho, hy, hr⟩ := (text_gives hk).1 h
  obtain rfl : o = oi := Option.some.inj (ho.symm.trans hoi)
  exact ⟨v, hy, hr⟩
 | cons x L1 ih =>
  intro L2 a hs h
  obtain ⟨j, kj⟩ := x
  have hsw := hs (j, kj) (by simp)
  have hkj := swapB_still hsw.1
  obtain ⟨oj, vj, hoj, hy, hr⟩ := (text_gives hkj).1 h
  have hap := hsw.2 oj oi hoj hoi
  obtain ⟨h1, h2, h3⟩ := Oper.apart_spec hap
  obtain ⟨v, y0, hr'⟩ := ih L2 _ (fun x hx => hs x (by simp [hx])) hr
  have hsi := fun cs b => hsel i oi cs b hoi
  refine ⟨v, y0.of_same (execOp_put oi hsi a oj.dst vj h1).symm (wanted_put oi a oj.dst vj h1).symm, (text_gives hkj).2 ⟨oj, vj, hoj, hy.of_same (execOp_put oj (fun cs b => hsel j oj cs b hoj) a oi.dst v h3) (wanted_put oj a oi.dst v h3), ?_⟩⟩
  rw [← Act.put_comm a vj v h2]
  exact hr'

/-- An effect may be brought to the front past held and pure operations. -/
theorem front_eff (i : Nat) (oi : Oper) (hoi : ops[i]? = some oi) (hsel : ∀ (j : Nat) (o : Oper) cs b, ops[j]? = some o → o.op ≠ .select cs b)
  (hQ : ∀ c a w (d : Tmp) v, Q (.panic c) (a.put (some d) v) w → Q (.panic c) a w) (w : World) :
  ∀ (L1 L2 : List (Nat × Nat)) (a : Act), (∀ x ∈ L1, Swap ops x (i, 2)) → wpText P ops Q S (L1 ++ (i, 2) :: L2) a w →
   wpOp P ops Q i (fun a' w' => S w' ∧ wpText P ops Q S (L1 ++ L2) a' w') a w := by
 intro L1
 induction L1 with
 | nil => intro L2 a _ h; exact h
 | cons x L1 ih =>
  intro L2 a hs h
  obtain ⟨j, kj⟩ := x
  have hsw := hs (j, kj) (by simp)
  have hkj : kj = 0 ∨ 4 ≤ kj := by
   have := hsw.1
   simp only [swapB, Bool.or_eq_true, Bool.and_eq_true, decide_eq_true_eq, beq_iff_eq, bne_iff_ne] at this
   omega
  obtain ⟨oj, vj, hoj, hy, hr⟩ := (text_gives (by omega)).1 h
  have hr' := ih L2 _ (fun x hx => hs x (by simp [hx])) hr
  have hap := hsw.2 oj oi hoj hoi
  have hq : ∀ c a w, Q (.panic c) (a.put oj.dst vj) w → Q (.panic c) a w := fun c a w hq => by
   cases hd : oj.dst with
   | none => rw [hd] at hq; exact hq
   | some d => rw [hd] at hq; exact hQ c a w d _ hq
  have hsj := fun cs b => hsel j oj cs b hoj
  have hsi := fun cs b => hsel i oi cs b hoi
  rcases hkj with rfl | h4
  ·
   have h2 := wpOp_putIf (S := S) hoi hap hsj hsi hq (hy.1 rfl) hr'
   exact wpOp_mono (fun a' w' h3 => ⟨h3.2.1, oj, vj, hoj, h3.1, h3.2.2⟩) h2
  ·
   have h2 := wpOp_put hoi hap hsj hsi hq (hy.2.2 h4) hr'
   exact wpOp_mono (fun a' w' h3 => ⟨h3.2.1, (text_gives (.inr h4)).2 ⟨oj, vj, hoj, ⟨fun e => absurd e (by omega), fun e => absurd e (by omega), fun _ => h3.1⟩, h3.2.2⟩⟩) h2
/-- An effect behind which S is not wanted, past pure operations. -/
theorem front_last (i : Nat) (oi : Oper) (hoi : ops[i]? = some oi) (hsel : ∀ (j : Nat) (o : Oper) cs b, ops[j]? = some o → o.op ≠ .select cs b)
  (hQ : ∀ c a w (d : Tmp) v, Q (.panic c) (a.put (some d) v) w → Q (.panic c) a w) (w : World) :
  ∀ (L1 L2 : List (Nat × Nat)) (a : Act), (∀ x ∈ L1, Swap ops x (i, 3)) → wpText P ops Q S (L1 ++ (i, 3) :: L2) a w →
   wpOp P ops Q i (fun a' w' => wpText P ops Q S (L1 ++ L2) a' w') a w := by
 intro L1
 induction L1 with
 | nil => intro L2 a _ h; exact h
 | cons x L1 ih =>
  intro L2 a hs h
  obtain ⟨j, kj⟩ := x
  have hsw := hs (j, kj) (by simp)
  have h4 : 4 ≤ kj := by
   have := hsw.1
   simp only [swapB, Bool.or_eq_true, Bool.and_eq_true, decide_eq_true_eq, beq_iff_eq, bne_iff_ne] at this
   omega
  obtain ⟨oj, vj, hoj, hy, hr⟩ := (text_gives (.inr h4)).1 h
  have hr' := ih L2 _ (fun x hx => hs x (by simp [hx])) hr
  have hap := hsw.2 oj oi hoj hoi
  have hq : ∀ c a w, Q (.panic c) (a.put oj.dst vj) w → Q (.panic c) a w := fun c a w hq => by
   cases hd : oj.dst with
   | none => rw [hd] at hq; exact hq
   | some d => rw [hd] at hq; exact hQ c a w d _ hq
  have h2 := wpOp_put hoi hap (fun cs b => hsel j oj cs b hoj) (fun cs b => hsel i oi cs b hoi) hq (hy.2.2 h4) hr'
  exact wpOp_mono (fun a' w' h3 => (text_gives (.inr h4)).2 ⟨oj, vj, hoj, ⟨fun e => absurd e (by omega), fun e => absurd e (by omega), fun _ => h3.1⟩, h3.2⟩) h2

theorem wpOp_of_yieldsAt {i : Nat} {o : Oper} {v : Value} {a : Act} {w : World} {K : Act → World → Prop} (hi : ops[i]? = some o) (hy : YieldsAt P ops w o v a) (h : K (a.put o.dst v) w) : wpOp P ops Q i K a w :=
 wpOp_of_stOp (fun _ h' => h') (hy.stOp hi (K := fun a' => K a' w) h)

/-- What L and the list of what has come up say of one another. -/
structure Inv (ops : Array Oper) (L : List (Nat × Nat)) (listed : Array Bool) : Prop where
 size : listed.size = ops.size
 mem : ∀ i, i ∈ L.map (·.1) ↔ i < ops.size ∧ listed.getD i false = false
 nodup : (L.map (·.1)).Nodup
 closed : Closed ops listed
 pairs : L.Pairwise (fun x y => pairB ops (tbl ops ops.size) x y = true)
 inside : ∀ x ∈ L, ∀ p ∈ preds ops x.1, p < ops.size ∧ p ≠ x.1

theorem getD_true_false {listed : Array Bool} {i : Nat} (hi : i < listed.size) : listed.getD i true = listed.getD i false := by simp [hi]

theorem Inv.ready_of_head {x : Nat × Nat} {r : List (Nat × Nat)} {listed : Array Bool} (h : Inv ops (x :: r) listed) : x.1 ∈ Region.ready .any ops listed := by
 have hx := (h.mem x.1).1 (by simp)
 obtain ⟨o, ho⟩ : ∃ o, ops[x.1]? = some o := ⟨_, Array.getElem?_eq_getElem hx.1⟩
 refine mem_ready.2 ⟨by rw [getD_true_false (by rw [h.size]; exact hx.1)]; exact hx.2, o, ho, fun e he hb => ?_⟩
 have hp := mem_preds ho he hb
 obtain ⟨h1, h2⟩ := h.inside x (by simp) e.on hp
 cases hl : listed.getD e.on false with
 | true => rfl
 | false =>
  have hm := (h.mem e.on).2 ⟨h1, hl⟩
  simp only [List.map_cons, List.mem_cons] at hm
  rcases hm with hm | hm
  ·
   exact absurd hm h2
  ·
   obtain ⟨y, hy, hye⟩ := List.mem_map.1 hm
   have := (List.pairwise_cons.1 h.pairs).1 y hy
   simp only [pairB, Bool.and_eq_true, Bool.not_eq_true'] at this
   rw [hye] at this
   have h3 := this.1.1
   rw [List.contains_iff_mem.2 hp] at h3
   cases h3

theorem Inv.step {L1 L2 : List (Nat × Nat)} {i k : Nat} {listed : Array Bool} (h : Inv ops (L1 ++ (i, k) :: L2) listed) (hr : i ∈ Region.ready .any ops listed) : Inv ops (L1 ++ L2) (listed.setIfInBounds i true) := by
 have hil : i < ops.size := ((h.mem i).1 (by simp)).1
 have hnd := h.nodup
 have hsub : (L1 ++ L2).Sublist (L1 ++ (i, k) :: L2) := List.Sublist.append (List.Sublist.refl _) (List.sublist_cons_self _ _)
 refine ⟨by simp [h.size], fun j => ?_, hnd.sublist (hsub.map _), ?_, h.pairs.sublist hsub, fun x hx => h.inside x (hsub.subset hx)⟩
 ·
  have hj := h.mem j
  have hni : i ∉ (L1 ++ L2).map (·.1) := by
   rw [List.map_append, List.map_cons, List.nodup_append] at hnd
   obtain ⟨_, n2, n3⟩ := hnd
   rw [List.nodup_cons] at n2
   rw [List.map_append, List.mem_append]
   rintro (hm | hm)
   ·
    exact n3 i hm i (by simp) rfl
   ·
    exact n2.1 hm
  by_cases e : i = j
  ·
   subst e
   constructor
   ·
    intro hm; exact absurd hm hni
   ·
    rintro ⟨_, h2⟩
    simp [h.size, hil] at h2
  ·
   rw [getD_set_ne false e]
   rw [← hj]
   simp only [List.map_append, List.map_cons, List.mem_append, List.mem_cons]
   constructor
   ·
    rintro (hm | hm)
    ·
     exact .inl hm
    ·
     exact .inr (.inr hm)
   ·
    rintro (hm | hm | hm)
    ·
     exact .inl hm
    ·
     exact absurd hm.symm e
    ·
     exact .inr hm
 ·
  intro j p hp hl
  by_cases e : i = j
  ·
   subst e
   obtain ⟨_, o, ho, hall⟩ := mem_ready.1 hr
   obtain ⟨o', ed, ho', he, hb, rfl⟩ := of_preds hp
   obtain rfl : o = o' := Option.some.inj (ho.symm.trans ho')
   exact getD_set_true (hall ed he hb)
  ·
   rw [getD_set_ne false e] at hl
   exact getD_set_true (h.closed j p hp hl)

theorem Inv.swap {L1 L2 : List (Nat × Nat)} {i k : Nat} {listed : Array Bool} (h : Inv ops (L1 ++ (i, k) :: L2) listed) (hr : i ∈ Region.ready .any ops listed) : ∀ x ∈ L1, Swap ops x (i, k) := by
 intro x hx
 have hp := (List.pairwise_append.1 h.pairs).2.2 x hx (i, k) (by simp)
 have hxl := (h.mem x.1).1 (by rw [List.map_append, List.mem_append]; exact .inl (List.mem_map_of_mem hx))
 simp only [pairB, Bool.and_eq_true, Bool.or_eq_true, Bool.not_eq_true'] at hp
 rcases hp.2 with ha | hb
 ·
  exfalso
  have hmem : x.1 ∈ (tbl ops ops.size).getD i [] := by simpa using ha
  have hc2 := (h.step hr).closed
  have hl := tbl_sound hc2 _ i x.1 hmem (by
   have hil : i < ops.size := ((h.mem i).1 (by simp)).1
   simp [h.size, hil])
  by_cases e : i = x.1
  ·
   have hnd := h.nodup
   rw [List.map_append, List.map_cons, List.nodup_append] at hnd
   exact hnd.2.2 x.1 (List.mem_map_of_mem hx) i (by simp) e.symm
  ·
   rw [getD_set_ne false e, hxl.2] at hl
   cases hl
 ·
  refine ⟨hb.1, fun ox oy hox hoy => ?_⟩
  ·
   have := hb.2
   simp only [hox, hoy] at this
   exact this

theorem wpAny_of_text (hsel : ∀ (j : Nat) (o : Oper) cs b, ops[j]? = some o → o.op ≠ .select cs b) (hQ : ∀ c a w (d : Tmp) v, Q (.panic c) (a.put (some d) v) w → Q (.panic c) a w) :
  ∀ (n : Nat) (L : List (Nat × Nat)) (listed : Array Bool) (a : Act) (w : World), L.length = n → Inv ops L listed → ((∃ x ∈ L, x.2 = 0) → S w) → wpText P ops Q S L a w → wpAny P .any ops Q n listed a w
 | 0, L, listed, a, w, hn, inv, _, h => by
  obtain rfl : L = [] := List.eq_nil_of_length_eq_zero hn
  refine ⟨?_, h⟩
  cases hrd : Region.ready .any ops listed with
  | nil => rfl
  | cons j js =>
   have hj : j ∈ Region.ready .any ops listed := by rw [hrd]; simp
   obtain ⟨h1, o, ho, _⟩ := mem_ready.1 hj
   have hlt : j < ops.size := (Array.getElem?_eq_some_iff.1 ho).1
   have := (inv.mem j).2 ⟨hlt, by rw [← getD_true_false (by rw [inv.size]; exact hlt)]; exact h1⟩
   simp at this
 | n + 1, L, listed, a, w, hn, inv, hS, h => by
  refine ⟨fun h0 => ?_, fun i hi => ?_⟩
  ·
   cases L with
   | nil => exact h
   | cons x r => have := inv.ready_of_head; rw [h0] at this; cases this
  ·
   obtain ⟨h1, oi, hoi, _⟩ := mem_ready.1 hi
   have hlt : i < ops.size := (Array.getElem?_eq_some_iff.1 hoi).1
   have hm := (inv.mem i).2 ⟨hlt, by rw [← getD_true_false (by rw [inv.size]; exact hlt)]; exact h1⟩
   obtain ⟨⟨i', k⟩, hx, rfl⟩ := List.mem_map.1 hm
   obtain ⟨L1, L2, rfl⟩ := List.append_of_mem hx
   have hsw := inv.swap hi
   have inv' := inv.step hi
   have hn' : (L1 ++ L2).length = n := by simp only [List.length_append, List.length_cons] at hn ⊢; omega
   have hall := fun x (hx : x ∈ L1) => (List.pairwise_append.1 inv.pairs).2.2 x hx (i', k) (by simp)
   have hL2 := (List.pairwise_cons.1 (List.pairwise_append.1 inv.pairs).2.1).1
   have hpass : (∃ x ∈ L1 ++ L2, x.2 = 0) → S w := fun ⟨x, hx, hx0⟩ => hS ⟨x, by simp only [List.mem_append, List.mem_cons] at hx ⊢; exact hx.imp id .inr, hx0⟩
   have go : wpOp P ops Q i' (fun a' w' => ((∃ x ∈ L1 ++ L2, x.2 = 0) → S w') ∧ wpText P ops Q S (L1 ++ L2) a' w') a w := by
    match k, hsw, h, hL2, hS with
    | 0, hsw, h, _, hS =>
     obtain ⟨v, y0, hr⟩ := front_still i' 0 (by omega) oi hoi hsel w L1 L2 a hsw h
     exact (y0.1 rfl).wpOp hoi (hS ⟨(i', 0), by simp, rfl⟩) ⟨hpass, hr⟩
    | 1, hsw, h, _, _ =>
     obtain ⟨v, y1, hr⟩ := front_still i' 1 (by omega) oi hoi hsel w L1 L2 a hsw h
     exact wpOp_of_yieldsAt hoi (y1.2.1 rfl) ⟨hpass, hr⟩
    | 2, hsw, h, _, _ => exact wpOp_mono (fun a' w' h' => ⟨fun _ => h'.1, h'.2⟩) (front_eff i' oi hoi hsel hQ w L1 L2 a hsw h)
    | 3, hsw, h, hL2, _ =>
     refine wpOp_mono (fun a' w' h' => ⟨fun ⟨x, hx, hx0⟩ => ?_, h'⟩) (front_last i' oi hoi hsel hQ w L1 L2 a hsw h)
     exfalso
     rcases List.mem_append.1 hx with hx | hx
     ·
      have := (hsw x hx).1
      rw [hx0] at this
      simp [swapB] at this
     ·
      have := hL2 x hx
      simp [pairB, hx0] at this
    | k + 4, hsw, h, _, _ =>
     obtain ⟨v, y1, hr⟩ := front_still i' (k + 4) (by omega) oi hoi hsel w L1 L2 a hsw h
     exact (y1.2.2 (by omega)).wpOp hoi ⟨hpass, hr⟩
   exact wpOp_mono (fun a' w' h' => wpAny_of_text hsel hQ n (L1 ++ L2) _ a' w' hn' inv' h'.1 h'.2) go

/-- THE RULE. -/
theorem wp_region_text {id : Nat} {a : Act} {w : World} (S : World → Prop) (L : List (Nat × Nat)) (hm : P.follows .mixedOrders = true) (hB : textB ops L = true)
  (hQ : ∀ c a w (d : Tmp) v, Q (.panic c) (a.put (some d) v) w → Q (.panic c) a w) (hS : S w.drew) (h : wpText P ops Q S L a w.drew) : (Code.region id ops true).wp P Q a w := by
 simp only [textB, Bool.and_eq_true, decide_eq_true_eq] at hB
 obtain ⟨⟨⟨⟨⟨h1, h2⟩, h3⟩, h4⟩, hlen⟩, h5⟩ := hB
 refine wp_region_any hm ?_
 refine wpAny_of_text (S := S) (Region.noSelect_spec h1) hQ ops.size L _ a _ hlen ⟨by simp, fun i => ?_, h4, fun j p hp hl => ?_, pairsB_spec h5, fun x hx p hp => ?_⟩ (fun _ => hS) h
 ·
  rw [getD_replicate_false]
  constructor
  ·
   intro hi
   obtain ⟨x, hx, rfl⟩ := List.mem_map.1 hi
   have := List.all_eq_true.1 h3 x hx
   simp only [Bool.and_eq_true, decide_eq_true_eq] at this
   exact ⟨this.1, rfl⟩
  ·
   rintro ⟨hi, _⟩
   have := List.all_eq_true.1 h2 i (List.mem_range.2 hi)
   simpa using this
 ·
  rw [getD_replicate_false] at hl; cases hl
 ·
  have := List.all_eq_true.1 h3 x hx
  simp only [Bool.and_eq_true] at this
  have h6 := List.all_eq_true.1 this.2 p hp
  simp only [Bool.and_eq_true, decide_eq_true_eq] at h6
  exact ⟨h6.1, by simpa using h6.2⟩

section steps
variable {a : Act} {w : World} {r : List (Nat × Nat)} {i : Nat}
theorem held {o : Oper} {v : Value} (ho : ops[i]? = some o) (hw : Region.wanted o (yielded ops a.tmps) = true) (hv : ∀ w, S w → (execOp a.eval o).run P w = .ok (.value v) w)
  (h : wpText P ops Q S r (a.put o.dst v) w) : wpText P ops Q S ((i, 0) :: r) a w := ⟨o, v, ho, .inl ⟨hw, hv⟩, h⟩
theorem pure {o : Oper} {v : Value} (ho : ops[i]? = some o) (hw : Region.wanted o (yielded ops a.tmps) = true) (hv : ∀ w, (execOp a.eval o).run P w = .ok (.value v) w)
  (h : wpText P ops Q S r (a.put o.dst v) w) : wpText P ops Q S ((i, 4) :: r) a w := ⟨o, v, ho, .inl ⟨hw, hv⟩, h⟩
theorem skip4 {o : Oper} (ho : ops[i]? = some o) (hw : Region.wanted o (yielded ops a.tmps) = false)
  (h : wpText P ops Q S r (a.put o.dst undef) w) : wpText P ops Q S ((i, 4) :: r) a w := ⟨o, undef, ho, .inr ⟨hw, rfl⟩, h⟩
theorem skip0 {o : Oper} (ho : ops[i]? = some o) (hw : Region.wanted o (yielded ops a.tmps) = false)
  (h : wpText P ops Q S r (a.put o.dst undef) w) : wpText P ops Q S ((i, 0) :: r) a w := ⟨o, undef, ho, .inr ⟨hw, rfl⟩, h⟩
theorem read {o : Oper} {v : Value} (ho : ops[i]? = some o) (hw : Region.wanted o (yielded ops a.tmps) = true) (hv : (execOp a.eval o).run P w = .ok (.value v) w)
  (h : wpText P ops Q S r (a.put o.dst v) w) : wpText P ops Q S ((i, 1) :: r) a w := ⟨o, v, ho, .inl ⟨hw, .inl hv⟩, h⟩
theorem skip1 {o : Oper} (ho : ops[i]? = some o) (hw : Region.wanted o (yielded ops a.tmps) = false)
  (h : wpText P ops Q S r (a.put o.dst undef) w) : wpText P ops Q S ((i, 1) :: r) a w := ⟨o, undef, ho, .inr ⟨hw, rfl⟩, h⟩
/-- No way out but the normal one. -/
def NoQ : Exit → Act → World → Prop := fun _ _ _ => False
theorem wp_of_noQ {o : Oper} {K : Act → World → Prop} (h : o.wp P a w K NoQ) : o.wp P a w K Q := by
 unfold Oper.wp at *
 generalize (execOp a.eval o).run P w = r at *
 cases r with
 | ok n w' =>
  cases n <;> simp only [Oper.upon] at h ⊢ <;>
   first
    | exact h
    | exact Calls.mono h (fun e w'' he => by cases e <;> first | exact he | exact he.elim | (obtain ⟨_, _, hf⟩ := he; exact hf.elim))
 | halt x w' => cases x <;> simp only [Oper.upon] at h ⊢ <;> exact h.elim
theorem eff {o : Oper} (ho : ops[i]? = some o) (hg : o.guard = none) (h : ∀ K : Act → World → Prop, (∀ a w, S w → wpText P ops Q S r a w → K a w) → o.wp P a w K NoQ) : wpText P ops Q S ((i, 2) :: r) a w := by
 show wpOp P ops Q i (fun a' w' => S w' ∧ wpText P ops Q S r a' w') a w
 unfold wpOp
 simp only [ho]
 rw [if_pos (by simp [Region.wanted, hg])]
 exact .inl (wp_of_noQ (h _ fun _ _ h1 h2 => ⟨h1, h2⟩))
theorem last {o : Oper} (ho : ops[i]? = some o) (hg : o.guard = none) (h : ∀ K : Act → World → Prop, (∀ a w, wpText P ops Q S r a w → K a w) → o.wp P a w K NoQ) : wpText P ops Q S ((i, 3) :: r) a w := by
 show wpOp P ops Q i (fun a' w' => wpText P ops Q S r a' w') a w
 unfold wpOp
 simp only [ho]
 rw [if_pos (by simp [Region.wanted, hg])]
 exact .inl (wp_of_noQ (h _ fun _ _ h2 => h2))
theorem purek {o : Oper} (ho : ops[i]? = some o) (hw : Region.wanted o (yielded ops a.tmps) = true)
  (h : ∀ K : Act → Prop, (∀ a, wpText P ops Q S r a w → K a) → ∃ v, (∀ w, (execOp a.eval o).run P w = .ok (.value v) w) ∧ K (a.put o.dst v)) : wpText P ops Q S ((i, 4) :: r) a w := by
 obtain ⟨v, h1, h2⟩ := h _ (fun _ h => h)
 exact pure ho hw h1 h2
theorem heldk {o : Oper} (ho : ops[i]? = some o) (hw : Region.wanted o (yielded ops a.tmps) = true)
  (h : ∀ K : Act → Prop, (∀ a, wpText P ops Q S r a w → K a) → ∃ v, (∀ w, S w → (execOp a.eval o).run P w = .ok (.value v) w) ∧ K (a.put o.dst v)) : wpText P ops Q S ((i, 0) :: r) a w := by
 obtain ⟨v, h1, h2⟩ := h _ (fun _ h => h)
 exact held ho hw h1 h2
theorem readk {o : Oper} (ho : ops[i]? = some o) (hw : Region.wanted o (yielded ops a.tmps) = true)
  (h : ∀ K : Act → Prop, (∀ a, wpText P ops Q S r a w → K a) → ∃ v, (execOp a.eval o).run P w = .ok (.value v) w ∧ K (a.put o.dst v)) : wpText P ops Q S ((i, 1) :: r) a w := by
 obtain ⟨v, h1, h2⟩ := h _ (fun _ h => h)
 exact read ho hw h1 h2
theorem skipk {o : Oper} {k : Nat} (hk : k = 0 ∨ k = 1 ∨ k = 4) (ho : ops[i]? = some o) (hw : Region.wanted o (yielded ops a.tmps) = false)
  (h : ∀ K : Act → Prop, (∀ a, wpText P ops Q S r a w → K a) → K (a.put o.dst undef)) : wpText P ops Q S ((i, k) :: r) a w := by
 have h2 := h _ (fun _ h => h)
 rcases hk with rfl | rfl | rfl
 ·
  exact skip0 ho hw h2
 ·
  exact skip1 ho hw h2
 ·
  exact skip4 ho hw h2
theorem done (h : Q .normal a w) : wpText P ops Q S [] a w := h
end steps
attribute [irreducible] wpText
end Text
end Go.Proofs.Ytboglaokdgnpaaa
/- A guarded effect in a text whose guard is met. -/
namespace Go.Proofs.Ytboglaokdgnpaaa
open Go
namespace Text
variable {P : Program} {ops : Array Oper} {Q : Exit → Act → World → Prop} {S : World → Prop} {a : Act} {w : World} {r : List (Nat × Nat)} {i : Nat}
theorem effw {o : Oper} (ho : ops[i]? = some o) (hw : Region.wanted o (yielded ops a.tmps) = true) (h : ∀ K : Act → World → Prop, (∀ a w, S w → wpText P ops Q S r a w → K a w) → o.wp P a w K NoQ) : wpText P ops Q S ((i, 2) :: r) a w := by
 have key : wpOp P ops Q i (fun a' w' => S w' ∧ wpText P ops Q S r a' w') a w := by
  unfold wpOp
  simp only [ho]
  rw [if_pos hw]
  exact .inl (wp_of_noQ (h _ fun _ _ h1 h2 => ⟨h1, h2⟩))
 with_unfolding_all exact key
end Text
end Go.Proofs.Ytboglaokdgnpaaa
/- A region that draws its order in which two effects may change places: a text that forks. Proved for any program. -/
namespace Go.Proofs.Ytboglaokdgnpaaa
open Go

namespace Text
variable {P : Program} {ops : Array Oper} {Q : Exit → Act → World → Prop} {S : World → Prop}

/-- A text that forks: operations that change nothing, an effect, or two effects of which either may come first. -/
inductive BT where
 | leaf : BT
 | still : Nat → Nat → BT → BT
 | eff : Nat → BT → BT
 | br : Nat → BT → Nat → BT → BT

/-- What is still to come, with its kind. -/
def BT.rem : BT → List (Nat × Nat)
 | .leaf => []
 | .still i k t => (i, k) :: t.rem
 | .eff i t => (i, 2) :: t.rem
 | .br i t _ _ => (i, 2) :: t.rem

def BT.okB (ops : Array Oper) (T : List (List Nat)) : BT → Bool
 | .leaf => true
 | .still i k t => (decide (k ≤ 1) || decide (4 ≤ k)) && t.rem.all (pairB ops T (i, k)) && t.okB ops T
 | .eff i t => t.rem.all (fun y => (T.getD y.1 []).contains i && !(preds ops i).contains y.1) && t.okB ops T
 | .br i t j u => i != j && t.rem.all (fun y => !(preds ops i).contains y.1 && (y.1 == j || (T.getD y.1 []).contains i || (T.getD y.1 []).contains j)) &&
   t.rem.contains (j, 2) && u.rem.contains (i, 2) && !(u.rem.map (·.1)).contains j &&
   t.rem.all (fun y => y.1 == j || u.rem.contains y) && u.rem.all (fun y => y.1 == i || t.rem.contains y) &&
   decide (u.rem.map (·.1)).Nodup && t.okB ops T && u.okB ops T

def wpBT (P : Program) (ops : Array Oper) (Q : Exit → Act → World → Prop) (S : World → Prop) : BT → Act → World → Prop
 | .leaf, a, w => Q .normal a w
 | .still i k t, a, w => ∃ o v, ops[i]? = some o ∧ Gives P ops S w k o v a ∧ wpBT P ops Q S t (a.put o.dst v) w
 | .eff i t, a, w => wpOp P ops Q i (fun a' w' => S w' ∧ wpBT P ops Q S t a' w') a w
 | .br i t j u, a, w => wpOp P ops Q i (fun a' w' => S w' ∧ wpBT P ops Q S t a' w') a w ∧ wpOp P ops Q j (fun a' w' => S w' ∧ wpBT P ops Q S u a' w') a w

/-- What is left of the text where i came first. -/
def BT.choose (i : Nat) : BT → BT
 | .leaf => .leaf
 | .still j k t => if i = j then t else .still j k (t.choose i)
 | .eff _ t => t
 | .br j t _ u => if i = j then t else u

theorem fst_inj {L : List (Nat × Nat)} (h : (L.map (·.1)).Nodup) {x y : Nat × Nat} (hx : x ∈ L) (hy : y ∈ L) (e : x.1 = y.1) : x = y := by
 induction L with
 | nil => cases hx
 | cons z L ih =>
  rw [List.map_cons, List.nodup_cons] at h
  rcases List.mem_cons.1 hx with ex | hx' <;> rcases List.mem_cons.1 hy with ey | hy'
  ·
   rw [ex, ey]
  ·
   subst ex; exact absurd (List.mem_map.2 ⟨y, hy', e.symm⟩) h.1
  ·
   subst ey; exact absurd (List.mem_map.2 ⟨x, hx', e⟩) h.1
  ·
   exact ih h.2 hx' hy'
theorem nodup_of_fst {L : List (Nat × Nat)} (h : (L.map (·.1)).Nodup) : L.Nodup := List.Pairwise.of_map (·.1) (fun _ _ h e => h (by rw [e])) h

theorem choose_spec {T : List (List Nat)} (i k : Nat) : ∀ (t : BT), t.okB ops T = true → (t.rem.map (·.1)).Nodup → (i, k) ∈ t.rem → (∀ x ∈ t.rem, x.1 ≠ i → (T.getD i []).contains x.1 = false) →
  (∀ y, y ∈ (t.choose i).rem ↔ y ∈ t.rem ∧ y.1 ≠ i) ∧ (t.choose i).okB ops T = true ∧ ((t.choose i).rem.map (·.1)).Nodup := by
 intro t
 induction t with
 | leaf => intro _ _ hm; cases hm
 | still j kj t ih =>
  intro hok hnd hm hfr
  simp only [BT.okB, Bool.and_eq_true, List.all_eq_true] at hok
  have hnd' := hnd
  simp only [BT.rem, List.map_cons, List.nodup_cons] at hnd
  by_cases e : i = j
  ·
   subst e
   simp only [BT.choose, if_true]
   refine ⟨fun y => ⟨fun hy => ⟨List.mem_cons_of_mem _ hy, fun e => hnd.1 (e ▸ List.mem_map_of_mem hy)⟩, fun ⟨hy, hne⟩ => ?_⟩, hok.2, hnd.2⟩
   rcases List.mem_cons.1 hy with rfl | hy
   ·
    exact absurd rfl hne
   ·
    exact hy
  ·
   have hm' : (i, k) ∈ t.rem := by
    rcases List.mem_cons.1 hm with h | h
    ·
     injection h with h _; exact absurd h e
    ·
     exact h
   obtain ⟨h1, h2, h3⟩ := ih hok.2 hnd.2 hm' (fun x hx => hfr x (List.mem_cons_of_mem _ hx))
   simp only [BT.choose, if_neg e]
   refine ⟨fun y => ?_, ?_, ?_⟩
   ·
    simp only [BT.rem, List.mem_cons, h1]
    constructor
    ·
     rintro (rfl | ⟨h, h'⟩)
     ·
      exact ⟨.inl rfl, fun e' => e e'.symm⟩
     ·
      exact ⟨.inr h, h'⟩
    ·
     rintro ⟨rfl | h, h'⟩
     ·
      exact .inl rfl
     ·
      exact .inr ⟨h, h'⟩
   ·
    simp only [BT.okB, Bool.and_eq_true, List.all_eq_true]
    exact ⟨⟨hok.1.1, fun y hy => hok.1.2 y ((h1 y).1 hy).1⟩, h2⟩
   ·
    simp only [BT.rem, List.map_cons, List.nodup_cons]
    refine ⟨fun hj => hnd.1 ?_, h3⟩
    obtain ⟨y, hy, hye⟩ := List.mem_map.1 hj
    exact hye ▸ List.mem_map_of_mem ((h1 y).1 hy).1
 | eff j t ih =>
  intro hok hnd hm hfr
  simp only [BT.okB, Bool.and_eq_true, List.all_eq_true] at hok
  simp only [BT.rem, List.map_cons, List.nodup_cons] at hnd
  have e : i = j := by
   rcases List.mem_cons.1 hm with h | h
   ·
    injection h
   ·
    by_cases e : i = j
    ·
     exact e
    ·
     have := hfr (j, 2) (by simp [BT.rem]) (fun e' => e e'.symm)
     rw [(hok.1 _ h).1] at this
     cases this
  subst e
  refine ⟨fun y => ⟨fun hy => ⟨List.mem_cons_of_mem _ hy, fun e => hnd.1 (e ▸ List.mem_map_of_mem hy)⟩, fun ⟨hy, hne⟩ => ?_⟩, hok.2, hnd.2⟩
  rcases List.mem_cons.1 hy with rfl | hy
  ·
   exact absurd rfl hne
  ·
   exact hy
 | br j t l u iht ihu =>
  intro hok hnd hm hfr
  simp only [BT.okB, Bool.and_eq_true, List.all_eq_true, decide_eq_true_eq, Bool.or_eq_true, beq_iff_eq, bne_iff_ne, List.contains_iff_mem, Bool.not_eq_true'] at hok
  obtain ⟨⟨⟨⟨⟨⟨⟨⟨⟨hjl, hall⟩, hlt⟩, hju⟩, hlu⟩, htu⟩, hut⟩, hndu⟩, hokt⟩, hoku⟩ := hok
  simp only [BT.rem, List.map_cons, List.nodup_cons] at hnd
  by_cases e : i = j
  ·
   subst e
   simp only [BT.choose, if_true]
   refine ⟨fun y => ⟨fun hy => ⟨List.mem_cons_of_mem _ hy, fun e => hnd.1 (e ▸ List.mem_map_of_mem hy)⟩, fun ⟨hy, hne⟩ => ?_⟩, hokt, hnd.2⟩
   rcases List.mem_cons.1 hy with rfl | hy
   ·
    exact absurd rfl hne
   ·
    exact hy
  ·
   have hm' : (i, k) ∈ t.rem := by
    rcases List.mem_cons.1 hm with h | h
    ·
     injection h with h _; exact absurd h e
    ·
     exact h
   have e2 : i = l := by
    by_cases e2 : i = l
    ·
     exact e2
    ·
     exfalso
     rcases (hall _ hm').2 with (h | h) | h
     ·
      exact e2 h
     ·
      have := hfr (j, 2) (by simp [BT.rem]) (fun e' => e e'.symm)
      rw [List.contains_iff_mem.2 h] at this; cases this
     ·
      have := hfr (l, 2) (List.mem_cons_of_mem _ hlt) (fun e' => e2 e'.symm)
      rw [List.contains_iff_mem.2 h] at this; cases this
   subst e2
   simp only [BT.choose, if_neg e]
   refine ⟨fun y => ⟨fun hy => ?_, fun ⟨hy, hne⟩ => ?_⟩, hoku, hndu⟩
   ·
    have hyi : y.1 ≠ i := fun e' => by
     have := List.mem_map_of_mem (f := (·.1)) hy
     rw [e', ← List.contains_iff_mem, hlu] at this; cases this
    rcases hut y hy with h | h
    ·
     have : y = (j, 2) := fst_inj hndu hy hju h
     exact ⟨by rw [this]; simp [BT.rem], hyi⟩
    ·
     exact ⟨List.mem_cons_of_mem _ h, hyi⟩
   ·
    rcases List.mem_cons.1 hy with rfl | hy
    ·
     exact hju
    ·
     rcases htu y hy with h | h
     ·
      exact absurd h hne
     ·
      exact h

theorem front_bt {T : List (List Nat)} (i k : Nat) (hk : k ≤ 1 ∨ 4 ≤ k) (oi : Oper) (hoi : ops[i]? = some oi) (hsel : ∀ (j : Nat) (o : Oper) cs b, ops[j]? = some o → o.op ≠ .select cs b) (w : World) :
  ∀ (t : BT) (a : Act), t.okB ops T = true → (t.rem.map (·.1)).Nodup → (i, k) ∈ t.rem → (∀ x ∈ t.rem, x.1 ≠ i → (T.getD i []).contains x.1 = false) → wpBT P ops Q S t a w →
   ∃ v, Gives P ops S w k oi v a ∧ wpBT P ops Q S (t.choose i) (a.put oi.dst v) w := by
 intro t
 induction t with
 | leaf => intro _ _ _ hm; cases hm
 | still j kj t ih =>
  intro a hok hnd hm hfr h
  simp only [BT.okB, Bool.and_eq_true, List.all_eq_true] at hok
  have hnd0 := hnd
  simp only [BT.rem, List.map_cons, List.nodup_cons] at hnd
  obtain ⟨oj, vj, hoj, hy, hr⟩ := h
  by_cases e : i = j
  ·
   subst e
   obtain rfl : k = kj := by
    have := fst_inj hnd0 hm (show (i, kj) ∈ BT.rem (.still i kj t) by simp [BT.rem]) rfl
    injection this
   obtain rfl : oj = oi := Option.some.inj (hoj.symm.trans hoi)
   simp only [BT.choose, if_true]
   exact ⟨vj, hy, hr⟩
  ·
   have hm' : (i, k) ∈ t.rem := by
    rcases List.mem_cons.1 hm with h | h
    ·
     injection h with h _; exact absurd h e
    ·
     exact h
   have hp := hok.1.2 _ hm'
   simp only [pairB, Bool.and_eq_true, Bool.or_eq_true, hoi, hoj] at hp
   have hap : oj.apart ops oi = true := by
    rcases hp.2 with h | h
    ·
     have := hfr (j, kj) (by simp [BT.rem]) (fun e' => e e'.symm)
     rw [h] at this; cases this
    ·
     exact h.2
   obtain ⟨h1, h2, h3⟩ := Oper.apart_spec hap
   obtain ⟨v, y0, hr'⟩ := ih _ hok.2 hnd.2 hm' (fun x hx => hfr x (List.mem_cons_of_mem _ hx)) hr
   have hsi := fun cs b => hsel i oi cs b hoi
   simp only [BT.choose, if_neg e]
   refine ⟨v, y0.of_same (execOp_put oi hsi a oj.dst vj h1).symm (wanted_put oi a oj.dst vj h1).symm, oj, vj, hoj, hy.of_same (execOp_put oj (fun cs b => hsel j oj cs b hoj) a oi.dst v h3) (wanted_put oj a oi.dst v h3), ?_⟩
   rw [← Act.put_comm a vj v h2]
   exact hr'
 | eff j t ih =>
  intro a hok hnd hm hfr h
  exfalso
  simp only [BT.okB, Bool.and_eq_true, List.all_eq_true] at hok
  rcases List.mem_cons.1 hm with h | h
  ·
   injection h with _ h; omega
  ·
   have := hfr (j, 2) (by simp [BT.rem]) (fun e' => by
    simp only [BT.rem, List.map_cons, List.nodup_cons] at hnd
    exact hnd.1 (List.mem_map.2 ⟨_, h, e'.symm⟩))
   rw [(hok.1 _ h).1] at this
   cases this
 | br j t l u iht ihu =>
  intro a hok hnd hm hfr h
  exfalso
  simp only [BT.okB, Bool.and_eq_true, List.all_eq_true, decide_eq_true_eq, Bool.or_eq_true, beq_iff_eq, bne_iff_ne, List.contains_iff_mem, Bool.not_eq_true'] at hok
  obtain ⟨⟨⟨⟨⟨⟨⟨⟨⟨hjl, hall⟩, hlt⟩, hju⟩, hlu⟩, htu⟩, hut⟩, hndu⟩, hokt⟩, hoku⟩ := hok
  have hnd0 := hnd
  simp only [BT.rem, List.map_cons, List.nodup_cons] at hnd
  rcases List.mem_cons.1 hm with h | h
  ·
   injection h with _ h; omega
  ·
   have hij : i ≠ j := fun e => hnd.1 (List.mem_map.2 ⟨_, h, e⟩)
   have hil : i ≠ l := fun e => by
    have := fst_inj hnd.2 h hlt e
    injection this with _ this; omega
   rcases (hall _ h).2 with (h' | h') | h'
   ·
    exact hil h'
   ·
    have := hfr (j, 2) (by simp [BT.rem]) (fun e' => hij e'.symm)
    rw [List.contains_iff_mem.2 h'] at this; cases this
   ·
    have := hfr (l, 2) (List.mem_cons_of_mem _ hlt) (fun e' => hil e'.symm)
    rw [List.contains_iff_mem.2 h'] at this; cases this

theorem front_be {T : List (List Nat)} (i : Nat) (oi : Oper) (hoi : ops[i]? = some oi) (hsel : ∀ (j : Nat) (o : Oper) cs b, ops[j]? = some o → o.op ≠ .select cs b)
  (hQ : ∀ c a w (d : Tmp) v, Q (.panic c) (a.put (some d) v) w → Q (.panic c) a w) (w : World) :
  ∀ (t : BT) (a : Act), t.okB ops T = true → (t.rem.map (·.1)).Nodup → (i, 2) ∈ t.rem → (∀ x ∈ t.rem, x.1 ≠ i → (T.getD i []).contains x.1 = false) → wpBT P ops Q S t a w →
   wpOp P ops Q i (fun a' w' => S w' ∧ wpBT P ops Q S (t.choose i) a' w') a w := by
 intro t
 induction t with
 | leaf => intro _ _ _ hm; cases hm
 | still j kj t ih =>
  intro a hok hnd hm hfr h
  simp only [BT.okB, Bool.and_eq_true, List.all_eq_true, Bool.or_eq_true, decide_eq_true_eq] at hok
  simp only [BT.rem, List.map_cons, List.nodup_cons] at hnd
  obtain ⟨oj, vj, hoj, hy, hr⟩ := h
  have e : i ≠ j := fun e => by
   rcases List.mem_cons.1 hm with h | h
   ·
    injection h with _ h; omega
   ·
    exact hnd.1 (List.mem_map.2 ⟨_, h, e⟩)
  have hm' : (i, 2) ∈ t.rem := by
   rcases List.mem_cons.1 hm with h | h
   ·
    injection h with h _; exact absurd h e
   ·
    exact h
  have hp := hok.1.2 _ hm'
  simp only [pairB, Bool.and_eq_true, Bool.or_eq_true, hoi, hoj] at hp
  have hsw : swapB kj 2 = true ∧ oj.apart ops oi = true := by
   rcases hp.2 with h | h
   ·
    have := hfr (j, kj) (by simp [BT.rem]) (fun e' => e e'.symm)
    rw [h] at this; cases this
   ·
    exact h
  have hap := hsw.2
  have hkj : kj = 0 ∨ 4 ≤ kj := by
   have := hsw.1
   simp only [swapB, Bool.or_eq_true, Bool.and_eq_true, decide_eq_true_eq, beq_iff_eq, bne_iff_ne] at this
   omega
  have hr' := ih _ hok.2 hnd.2 hm' (fun x hx => hfr x (List.mem_cons_of_mem _ hx)) hr
  have hq : ∀ c a w, Q (.panic c) (a.put oj.dst vj) w → Q (.panic c) a w := fun c a w hq => by
   cases hd : oj.dst with
   | none => rw [hd] at hq; exact hq
   | some d => rw [hd] at hq; exact hQ c a w d _ hq
  have hsj := fun cs b => hsel j oj cs b hoj
  have hsi := fun cs b => hsel i oi cs b hoi
  simp only [BT.choose, if_neg e]
  rcases hkj with rfl | h4
  ·
   have h2 := wpOp_putIf (S := S) hoi hap hsj hsi hq (hy.1 rfl) hr'
   exact wpOp_mono (fun a' w' h3 => ⟨h3.2.1, oj, vj, hoj, ⟨fun _ => h3.1, fun e => absurd e (by omega), fun e => absurd e (by omega)⟩, h3.2.2⟩) h2
  ·
   have h2 := wpOp_put hoi hap hsj hsi hq (hy.2.2 h4) hr'
   exact wpOp_mono (fun a' w' h3 => ⟨h3.2.1, oj, vj, hoj, ⟨fun e => absurd e (by omega), fun e => absurd e (by omega), fun _ => h3.1⟩, h3.2.2⟩) h2
 | eff j t ih =>
  intro a hok hnd hm hfr h
  simp only [BT.okB, Bool.and_eq_true, List.all_eq_true] at hok
  have e : i = j := by
   rcases List.mem_cons.1 hm with h | h
   ·
    injection h
   ·
    by_cases e : i = j
    ·
     exact e
    ·
     have := hfr (j, 2) (by simp [BT.rem]) (fun e' => e e'.symm)
     rw [(hok.1 _ h).1] at this
     cases this
  subst e
  exact h
 | br j t l u iht ihu =>
  intro a hok hnd hm hfr h
  simp only [BT.okB, Bool.and_eq_true, List.all_eq_true, decide_eq_true_eq, Bool.or_eq_true, beq_iff_eq, bne_iff_ne, List.contains_iff_mem, Bool.not_eq_true'] at hok
  obtain ⟨⟨⟨⟨⟨⟨⟨⟨⟨hjl, hall⟩, hlt⟩, hju⟩, hlu⟩, htu⟩, hut⟩, hndu⟩, hokt⟩, hoku⟩ := hok
  by_cases e : i = j
  ·
   subst e
   simp only [BT.choose, if_true]
   exact h.1
  ·
   have hm' : (i, 2) ∈ t.rem := by
    rcases List.mem_cons.1 hm with h | h
    ·
     injection h with h _; exact absurd h e
    ·
     exact h
   have e2 : i = l := by
    by_cases e2 : i = l
    ·
     exact e2
    ·
     exfalso
     rcases (hall _ hm').2 with (h | h) | h
     ·
      exact e2 h
     ·
      have := hfr (j, 2) (by simp [BT.rem]) (fun e' => e e'.symm)
      rw [List.contains_iff_mem.2 h] at this; cases this
     ·
      have := hfr (l, 2) (List.mem_cons_of_mem _ hlt) (fun e' => e2 e'.symm)
      rw [List.contains_iff_mem.2 h] at this; cases this
   subst e2
   simp only [BT.choose, if_neg e]
   exact h.2

structure InvT (ops : Array Oper) (t : BT) (listed : Array Bool) : Prop where
 size : listed.size = ops.size
 mem : ∀ i, i ∈ t.rem.map (·.1) ↔ i < ops.size ∧ listed.getD i false = false
 nodup : (t.rem.map (·.1)).Nodup
 closed : Closed ops listed
 ok : t.okB ops (tbl ops ops.size) = true
 inside : ∀ x ∈ t.rem, ∀ p ∈ preds ops x.1, p < ops.size ∧ p ≠ x.1
 kinds : ∀ x ∈ t.rem, x.2 ≤ 2 ∨ 4 ≤ x.2

theorem InvT.head {t : BT} {listed : Array Bool} (h : InvT ops t listed) (x : Nat × Nat) (hx : x ∈ t.rem) (hp : ∀ y ∈ t.rem, y.1 ≠ x.1 → (preds ops x.1).contains y.1 = false) : x.1 ∈ Region.ready .any ops listed := by
 have hx' := (h.mem x.1).1 (List.mem_map_of_mem hx)
 obtain ⟨o, ho⟩ : ∃ o, ops[x.1]? = some o := ⟨_, Array.getElem?_eq_getElem hx'.1⟩
 refine mem_ready.2 ⟨by rw [getD_true_false (by rw [h.size]; exact hx'.1)]; exact hx'.2, o, ho, fun e he hb => ?_⟩
 have hpm := mem_preds ho he hb
 obtain ⟨h1, h2⟩ := h.inside x hx e.on hpm
 cases hl : listed.getD e.on false with
 | true => rfl
 | false =>
  obtain ⟨y, hy, hye⟩ := List.mem_map.1 ((h.mem e.on).2 ⟨h1, hl⟩)
  have := hp y hy (by show y.1 ≠ x.1; rw [hye]; exact h2)
  rw [hye, List.contains_iff_mem.2 hpm] at this
  cases this

theorem InvT.ready {t : BT} {listed : Array Bool} (h : InvT ops t listed) (hne : t.rem ≠ []) : Region.ready .any ops listed ≠ [] := by
 have hok := h.ok
 have : ∃ i, i ∈ Region.ready .any ops listed := by
  cases t with
  | leaf => exact absurd rfl hne
  | still i k t =>
   simp only [BT.okB, Bool.and_eq_true, List.all_eq_true] at hok
   refine ⟨i, h.head (i, k) (by simp [BT.rem]) (fun y hy hy' => ?_)⟩
   rcases List.mem_cons.1 hy with rfl | hy
   ·
    exact absurd rfl hy'
   ·
    have := hok.1.2 y hy
    simp only [pairB, Bool.and_eq_true, Bool.not_eq_true'] at this
    exact this.1.1
  | eff i t =>
   simp only [BT.okB, Bool.and_eq_true, List.all_eq_true, Bool.not_eq_true'] at hok
   refine ⟨i, h.head (i, 2) (by simp [BT.rem]) (fun y hy hy' => ?_)⟩
   rcases List.mem_cons.1 hy with rfl | hy
   ·
    exact absurd rfl hy'
   ·
    exact (hok.1 y hy).2
  | br i t j u =>
   simp only [BT.okB, Bool.and_eq_true, List.all_eq_true, Bool.not_eq_true'] at hok
   refine ⟨i, h.head (i, 2) (by simp [BT.rem]) (fun y hy hy' => ?_)⟩
   rcases List.mem_cons.1 hy with rfl | hy
   ·
    exact absurd rfl hy'
   ·
    exact (hok.1.1.1.1.1.1.1.1.2 y hy).1
 obtain ⟨i, hi⟩ := this
 intro e
 rw [e] at hi
 cases hi

theorem InvT.front {t : BT} {listed : Array Bool} {i : Nat} (h : InvT ops t listed) (hr : i ∈ Region.ready .any ops listed) (hil : i < ops.size) :
  Closed ops (listed.setIfInBounds i true) ∧ ∀ x ∈ t.rem, x.1 ≠ i → ((tbl ops ops.size).getD i []).contains x.1 = false := by
 have hc2 : Closed ops (listed.setIfInBounds i true) := by
  intro j p hp hl
  by_cases e : i = j
  ·
   subst e
   obtain ⟨_, o, ho, hall⟩ := mem_ready.1 hr
   obtain ⟨o', ed, ho', he, hb, rfl⟩ := of_preds hp
   obtain rfl : o = o' := Option.some.inj (ho.symm.trans ho')
   exact getD_set_true (hall ed he hb)
  ·
   rw [getD_set_ne false e] at hl
   exact getD_set_true (h.closed j p hp hl)
 refine ⟨hc2, fun x hx hne => ?_⟩
 rw [Bool.eq_false_iff]
 intro hmem
 have hl := tbl_sound hc2 _ i x.1 (List.contains_iff_mem.1 hmem) (by simp [h.size, hil])
 have hxl := (h.mem x.1).1 (List.mem_map_of_mem hx)
 rw [getD_set_ne false (fun e => hne e.symm), hxl.2] at hl
 cases hl

theorem InvT.step {t : BT} {listed : Array Bool} {i k : Nat} (h : InvT ops t listed) (hm : (i, k) ∈ t.rem) (hr : i ∈ Region.ready .any ops listed) : InvT ops (t.choose i) (listed.setIfInBounds i true) ∧ (t.choose i).rem.length + 1 = t.rem.length := by
 have hil : i < ops.size := ((h.mem i).1 (List.mem_map.2 ⟨_, hm, rfl⟩)).1
 obtain ⟨hc2, hfr⟩ := h.front hr hil
 obtain ⟨h1, h2, h3⟩ := choose_spec i k t h.ok h.nodup hm hfr
 refine ⟨⟨by simp [h.size], fun j => ?_, h3, hc2, h2, fun x hx => h.inside x ((h1 x).1 hx).1, fun x hx => h.kinds x ((h1 x).1 hx).1⟩, ?_⟩
 ·
  constructor
  ·
   intro hj
   obtain ⟨y, hy, rfl⟩ := List.mem_map.1 hj
   obtain ⟨hy1, hy2⟩ := (h1 y).1 hy
   have := (h.mem y.1).1 (List.mem_map_of_mem hy1)
   exact ⟨this.1, by rw [getD_set_ne false (fun e => hy2 e.symm)]; exact this.2⟩
  ·
   rintro ⟨hj, hl⟩
   have hne : j ≠ i := fun e => by
    subst e
    simp [h.size, hj] at hl
   rw [getD_set_ne false (fun e => hne e.symm)] at hl
   obtain ⟨y, hy, rfl⟩ := List.mem_map.1 ((h.mem j).2 ⟨hj, hl⟩)
   exact List.mem_map_of_mem ((h1 y).2 ⟨hy, hne⟩)
 ·
  have hp : t.rem.Perm ((i, k) :: (t.choose i).rem) := by
   have n1 : t.rem.Nodup := nodup_of_fst h.nodup
   have n2 : (t.choose i).rem.Nodup := nodup_of_fst h3
   refine (List.perm_ext_iff_of_nodup n1 (List.nodup_cons.2 ⟨fun hh => ((h1 _).1 hh).2 rfl, n2⟩)).2 (fun y => ?_)
   simp only [List.mem_cons, h1]
   constructor
   ·
    intro hy
    by_cases e : y.1 = i
    ·
     exact .inl (fst_inj h.nodup hy hm e)
    ·
     exact .inr ⟨hy, e⟩
   ·
    rintro (rfl | ⟨hy, _⟩)
    ·
     exact hm
    ·
     exact hy
  have := hp.length_eq
  simp only [List.length_cons] at this
  omega

theorem wpAny_of_bt (hsel : ∀ (j : Nat) (o : Oper) cs b, ops[j]? = some o → o.op ≠ .select cs b) (hQ : ∀ c a w (d : Tmp) v, Q (.panic c) (a.put (some d) v) w → Q (.panic c) a w) :
  ∀ (n : Nat) (t : BT) (listed : Array Bool) (a : Act) (w : World), t.rem.length = n → InvT ops t listed → S w → wpBT P ops Q S t a w → wpAny P .any ops Q n listed a w
 | 0, t, listed, a, w, hn, inv, _, h => by
  have hnil := List.eq_nil_of_length_eq_zero hn
  have hleaf : t = .leaf := by cases t <;> simp [BT.rem] at hnil; rfl
  subst hleaf
  refine ⟨?_, h⟩
  cases hrd : Region.ready .any ops listed with
  | nil => rfl
  | cons j js =>
   have hj : j ∈ Region.ready .any ops listed := by rw [hrd]; simp
   obtain ⟨h1, o, ho, _⟩ := mem_ready.1 hj
   have hlt : j < ops.size := (Array.getElem?_eq_some_iff.1 ho).1
   have := (inv.mem j).2 ⟨hlt, by rw [← getD_true_false (by rw [inv.size]; exact hlt)]; exact h1⟩
   simp [BT.rem] at this
 | n + 1, t, listed, a, w, hn, inv, hS, h => by
  refine ⟨fun h0 => absurd h0 (inv.ready (fun e => by rw [e] at hn; cases hn)), fun i hi => ?_⟩
  obtain ⟨h1, oi, hoi, _⟩ := mem_ready.1 hi
  have hlt : i < ops.size := (Array.getElem?_eq_some_iff.1 hoi).1
  obtain ⟨⟨i', k⟩, hx, rfl⟩ := List.mem_map.1 ((inv.mem i).2 ⟨hlt, by rw [← getD_true_false (by rw [inv.size]; exact hlt)]; exact h1⟩)
  obtain ⟨inv', hlen⟩ := inv.step hx hi
  have hfr := (inv.front hi hlt).2
  have go : wpOp P ops Q i' (fun a' w' => S w' ∧ wpBT P ops Q S (t.choose i') a' w') a w := by
   by_cases hk : k ≤ 1 ∨ 4 ≤ k
   ·
    obtain ⟨v, y0, hr⟩ := front_bt i' k hk oi hoi hsel w t a inv.ok inv.nodup hx hfr h
    rcases hk with hk | hk
    ·
     rcases Nat.le_one_iff_eq_zero_or_eq_one.1 hk with rfl | rfl
     ·
      exact (y0.1 rfl).wpOp hoi hS ⟨hS, hr⟩
     ·
      exact wpOp_of_yieldsAt hoi (y0.2.1 rfl) ⟨hS, hr⟩
    ·
     exact (y0.2.2 hk).wpOp hoi ⟨hS, hr⟩
   ·
    have hk2 : k = 2 := by
     have := inv.kinds _ hx
     simp only at this
     omega
    subst hk2
    exact front_be i' oi hoi hsel hQ w t a inv.ok inv.nodup hx hfr h
  exact wpOp_mono (fun a' w' h' => wpAny_of_bt hsel hQ n (t.choose i') _ a' w' (by omega) inv' h'.1 h'.2) go

def btB (ops : Array Oper) (t : BT) : Bool :=
 Region.noSelect ops && (List.range ops.size).all (fun i => (t.rem.map (·.1)).contains i) && t.rem.all (fun x => decide (x.1 < ops.size) && (decide (x.2 ≤ 2) || decide (4 ≤ x.2)) && (preds ops x.1).all (fun p => decide (p < ops.size) && p != x.1)) &&
  decide (t.rem.map (·.1)).Nodup && decide (t.rem.length = ops.size) && t.okB ops (tbl ops ops.size)

/-- THE RULE. -/
theorem wp_region_bt {id : Nat} {a : Act} {w : World} (S : World → Prop) (t : BT) (hm : P.follows .mixedOrders = true) (hB : btB ops t = true)
  (hQ : ∀ c a w (d : Tmp) v, Q (.panic c) (a.put (some d) v) w → Q (.panic c) a w) (hS : S w.drew) (h : wpBT P ops Q S t a w.drew) : (Code.region id ops true).wp P Q a w := by
 simp only [btB, Bool.and_eq_true, decide_eq_true_eq] at hB
 obtain ⟨⟨⟨⟨⟨h1, h2⟩, h3⟩, h4⟩, hlen⟩, h5⟩ := hB
 refine wp_region_any hm ?_
 refine wpAny_of_bt (S := S) (Region.noSelect_spec h1) hQ ops.size t _ a _ hlen ⟨by simp, fun i => ?_, h4, fun j p hp hl => ?_, h5, fun x hx p hp => ?_, fun x hx => ?_⟩ hS h
 ·
  rw [getD_replicate_false]
  constructor
  ·
   intro hi
   obtain ⟨x, hx, rfl⟩ := List.mem_map.1 hi
   have := List.all_eq_true.1 h3 x hx
   simp only [Bool.and_eq_true, decide_eq_true_eq] at this
   exact ⟨this.1.1, rfl⟩
  ·
   rintro ⟨hi, _⟩
   have := List.all_eq_true.1 h2 i (List.mem_range.2 hi)
   simpa using this
 ·
  rw [getD_replicate_false] at hl; cases hl
 ·
  have := List.all_eq_true.1 h3 x hx
  simp only [Bool.and_eq_true] at this
  have h6 := List.all_eq_true.1 this.2 p hp
  simp only [Bool.and_eq_true, decide_eq_true_eq] at h6
  exact ⟨h6.1, by simpa using h6.2⟩
 ·
  have := List.all_eq_true.1 h3 x hx
  simp only [Bool.and_eq_true, Bool.or_eq_true, decide_eq_true_eq] at this
  exact this.1.2

section bsteps
variable {a : Act} {w : World} {t u : BT} {i j : Nat}
theorem bpurek {o : Oper} (ho : ops[i]? = some o) (hw : Region.wanted o (yielded ops a.tmps) = true)
  (h : ∀ K : Act → Prop, (∀ a, wpBT P ops Q S t a w → K a) → ∃ v, (∀ w, (execOp a.eval o).run P w = .ok (.value v) w) ∧ K (a.put o.dst v)) : wpBT P ops Q S (.still i 4 t) a w := by
 obtain ⟨v, h1, h2⟩ := h _ (fun _ h => h)
 exact ⟨o, v, ho, ⟨fun e => absurd e (by decide), fun e => absurd e (by decide), fun _ => .inl ⟨hw, h1⟩⟩, h2⟩
theorem bheldk {o : Oper} (ho : ops[i]? = some o) (hw : Region.wanted o (yielded ops a.tmps) = true)
  (h : ∀ K : Act → Prop, (∀ a, wpBT P ops Q S t a w → K a) → ∃ v, (∀ w, S w → (execOp a.eval o).run P w = .ok (.value v) w) ∧ K (a.put o.dst v)) : wpBT P ops Q S (.still i 0 t) a w := by
 obtain ⟨v, h1, h2⟩ := h _ (fun _ h => h)
 exact ⟨o, v, ho, ⟨fun _ => .inl ⟨hw, h1⟩, fun e => absurd e (by decide), fun e => absurd e (by decide)⟩, h2⟩
theorem beff {o : Oper} (ho : ops[i]? = some o) (hg : o.guard = none) (h : ∀ K : Act → World → Prop, (∀ a w, S w → wpBT P ops Q S t a w → K a w) → o.wp P a w K NoQ) : wpBT P ops Q S (.eff i t) a w := by
 show wpOp P ops Q i (fun a' w' => S w' ∧ wpBT P ops Q S t a' w') a w
 unfold wpOp
 simp only [ho]
 rw [if_pos (by simp [Region.wanted, hg])]
 exact .inl (wp_of_noQ (h _ fun _ _ h1 h2 => ⟨h1, h2⟩))
theorem bfork (h1 : wpBT P ops Q S (.eff i t) a w) (h2 : wpBT P ops Q S (.eff j u) a w) : wpBT P ops Q S (.br i t j u) a w := ⟨h1, h2⟩
theorem bdone (h : Q .normal a w) : wpBT P ops Q S .leaf a w := h
end bsteps
attribute [irreducible] wpBT
end Text
end Go.Proofs.Ytboglaokdgnpaaa
/- A region that draws its order, whose first operations (the bag) each only add to the world, in whatever order: each is told by a relation on its value that stays while nothing old turns. Behind the bag the rest is walked as a text. For any program. -/
namespace Go.Proofs.Ytboglaokdgnpaaa
open Go Go.RowKit

namespace Text
variable {P : Program} {ops : Array Oper} {Q : Exit → Act → World → Prop} {S : World → Prop}

def dstOf (ops : Array Oper) (i : Nat) : Option Tmp := (ops[i]?).bind (·.dst)
/-- The act in which those of the bag that have come up have written. -/
def bagPut (ops : Array Oper) (listed : Array Bool) (vs : Nat → Value) : List Nat → Act → Act
 | [], a => a
 | i :: r, a => bagPut ops listed vs r (if listed.getD i false = true then a.put (dstOf ops i) (vs i) else a)
def bagB (ops : Array Oper) (B : List Nat) (L : List (Nat × Nat)) : Bool :=
 Region.noSelect ops && (List.range ops.size).all (fun i => B.contains i || (L.map (·.1)).contains i) &&
  L.all (fun x => decide (x.1 < ops.size) && ((preds ops x.1).all (fun p => decide (p < ops.size) && p != x.1) && (B.all (fun b => ((tbl ops ops.size).getD x.1 []).contains b) && !B.contains x.1))) &&
  decide (L.map (·.1)).Nodup && decide B.Nodup && pairsB ops (tbl ops ops.size) L &&
  B.all (fun i => decide (i < ops.size) && ((match ops[i]? with | some o => o.guard.isNone | none => false) && (preds ops i).all (fun p => decide (p < i) && B.contains p))) &&
  B.all (fun i => B.all fun j => i == j || (match dstOf ops i with | some d => dstOf ops j != some d | none => true))
def roomB (ops : Array Oper) (B : List Nat) (n : Nat) : Bool := B.all fun i => match dstOf ops i with | some d => decide (d < n) | none => true

theorem bagPut_put {listed : Array Bool} {vs : Nat → Value} (d : Option Tmp) (v : Value) : ∀ (l : List Nat) (a : Act), (∀ j ∈ l, ∀ e, d = some e → dstOf ops j ≠ some e) → (bagPut ops listed vs l a).put d v = bagPut ops listed vs l (a.put d v)
 | [], _, _ => rfl
 | j :: r, a, h => by
  rw [bagPut, bagPut, bagPut_put d v r _ (fun k hk => h k (by simp [hk]))]
  congr 1
  by_cases hl : listed.getD j false = true
  ·
   rw [if_pos hl, if_pos hl]
   exact (Act.put_comm a v (vs j) (h j (by simp))).symm
  ·
   rw [if_neg hl, if_neg hl]
theorem bagPut_same {listed listed' : Array Bool} {vs vs' : Nat → Value} : ∀ (l : List Nat) (a : Act), (∀ j ∈ l, listed.getD j false = listed'.getD j false ∧ (listed.getD j false = true → vs j = vs' j)) → bagPut ops listed vs l a = bagPut ops listed' vs' l a
 | [], _, _ => rfl
 | j :: r, a, h => by
  rw [bagPut, bagPut, bagPut_same r _ (fun k hk => h k (by simp [hk]))]
  congr 1
  obtain ⟨h1, h2⟩ := h j (by simp)
  by_cases hl : listed.getD j false = true
  ·
   rw [if_pos hl, if_pos (h1 ▸ hl), h2 hl]
  ·
   rw [if_neg hl, if_neg (h1 ▸ hl)]
theorem bagPut_next {listed : Array Bool} {vs : Nat → Value} {i : Nat} {v : Value} (hi : i < listed.size) (hn : listed.getD i false = false) : ∀ (l : List Nat) (a : Act), l.Nodup → i ∈ l → (∀ x ∈ l, ∀ y ∈ l, x ≠ y → ∀ e, dstOf ops x = some e → dstOf ops y ≠ some e) →
  (bagPut ops listed vs l a).put (dstOf ops i) v = bagPut ops (listed.setIfInBounds i true) (fun j => if j = i then v else vs j) l a
 | [], _, _, h, _ => by cases h
 | j :: r, a, hnd, hm, hd => by
  rw [List.nodup_cons] at hnd
  by_cases e : j = i
  ·
   subst e
   have hmn : ∀ k ∈ r, k ≠ j := fun k hk e => hnd.1 (e ▸ hk)
   have h1 : (listed.setIfInBounds j true).getD j false = true := by simp [hi]
   rw [bagPut, bagPut, if_neg (by rw [hn]; decide), if_pos h1, if_pos rfl, bagPut_put _ _ _ _ (fun k hk e he => hd j (by simp) k (by simp [hk]) (fun e => hmn k hk e.symm) e he)]
   exact bagPut_same r _ (fun k hk => ⟨(getD_set_ne false (fun e => hmn k hk e.symm)).symm, fun _ => by rw [if_neg (hmn k hk)]⟩)
  ·
   have hm' : i ∈ r := by
    rcases List.mem_cons.1 hm with h | h
    ·
     exact absurd h.symm e
    ·
     exact h
   rw [bagPut, bagPut, bagPut_next hi hn r _ hnd.2 hm' (fun x hx y hy => hd x (by simp [hx]) y (by simp [hy])), getD_set_ne false (fun h => e h.symm), if_neg e]
theorem put_size (a : Act) (d : Option Tmp) (v : Value) : (a.put d v).tmps.size = a.tmps.size := by
 cases d with
 | none => rfl
 | some d => simp [Act.put]
theorem bagPut_old {listed : Array Bool} {vs : Nat → Value} {t : Tmp} : ∀ (l : List Nat) (a : Act), (∀ j ∈ l, dstOf ops j ≠ some t) → (bagPut ops listed vs l a).tmps.getD t undef = a.tmps.getD t undef
 | [], _, _ => rfl
 | j :: r, a, h => by
  rw [bagPut, bagPut_old r _ (fun k hk => h k (by simp [hk]))]
  by_cases hl : listed.getD j false = true
  ·
   rw [if_pos hl]
   have hj := h j (by simp)
   cases hd : dstOf ops j with
   | none => rfl
   | some d =>
    have hne : d ≠ t := fun e => hj (by rw [hd, e])
    simp [Act.put, Array.getElem?_setIfInBounds_ne hne]
  ·
   rw [if_neg hl]
theorem bagPut_slot {listed : Array Bool} {vs : Nat → Value} {i : Nat} {d : Tmp} (hd : dstOf ops i = some d) (hl : listed.getD i false = true) : ∀ (l : List Nat) (a : Act), l.Nodup → i ∈ l → d < a.tmps.size → (∀ x ∈ l, ∀ y ∈ l, x ≠ y → ∀ e, dstOf ops x = some e → dstOf ops y ≠ some e) →
  (bagPut ops listed vs l a).tmps.getD d undef = vs i
 | [], _, _, h, _, _ => by cases h
 | j :: r, a, hnd, hm, hs, hx => by
  rw [List.nodup_cons] at hnd
  rw [bagPut]
  by_cases e : j = i
  ·
   subst e
   rw [if_pos hl, bagPut_old r _ (fun k hk => hx j (by simp) k (by simp [hk]) (fun e => hnd.1 (e ▸ hk)) d hd), hd]
   simp [Act.put, hs]
  ·
   have hm' : i ∈ r := by
    rcases List.mem_cons.1 hm with h | h
    ·
     exact absurd h.symm e
    ·
     exact h
   refine bagPut_slot hd hl r _ hnd.2 hm' ?_ (fun x hx' y hy => hx x (by simp [hx']) y (by simp [hy]))
   split
   ·
    rw [put_size]; exact hs
   ·
    exact hs

/-- What the bag's step number i may take, and what it owes. -/
def BagStep (P : Program) (ops : Array Oper) (B : List Nat) (RR : Nat → World → Value → Prop) (ow : Value → Option Nat) (a : Act) (w : World) (i : Nat) : Prop :=
 ∀ (o : Oper), ops[i]? = some o → ∀ (vs : Nat → Value) (a' : Act) (w' : World), Below w.heap.size w w' → (∀ t, (B.all fun j => dstOf ops j != some t) = true → a'.tmps.getD t undef = a.tmps.getD t undef) →
  (∀ j, (preds ops i).contains j = true → (∀ d, dstOf ops j = some d → a'.tmps.getD d undef = vs j) ∧ RR j w' (vs j)) → ∀ K : Act → World → Prop, (∀ v w'', Below w'.heap.size w' w'' → RR i w'' v → (∀ b, ow v = some b → w'.heap.size ≤ b ∧ b < w''.heap.size) → K (a'.put o.dst v) w'') → o.wp P a' w' K NoQ

structure BI (ops : Array Oper) (B : List Nat) (RR : Nat → World → Value → Prop) (ow : Value → Option Nat) (a : Act) (w : World) (listed : Array Bool) (vs : Nat → Value) (a' : Act) (w' : World) : Prop where
 size : listed.size = ops.size
 closed : Closed ops listed
 sub : ∀ i, listed.getD i false = true → i ∈ B
 act : a' = bagPut ops listed vs B a
 below : Below w.heap.size w w'
 rel : ∀ i, listed.getD i false = true → RR i w' (vs i)
 lt : ∀ i, listed.getD i false = true → ∀ b, ow (vs i) = some b → b < w'.heap.size
 dis : ∀ i j, listed.getD i false = true → listed.getD j false = true → i ≠ j → ∀ b, ow (vs i) = some b → ow (vs j) ≠ some b

theorem least {p : Nat → Prop} [DecidablePred p] : ∀ (n : Nat), p n → ∃ m, p m ∧ ∀ k, k < m → ¬ p k := by
 intro n
 induction n using Nat.strongRecOn with
 | _ n ih =>
  intro hn
  by_cases h : ∃ k, k < n ∧ p k
  ·
   obtain ⟨k, h1, h2⟩ := h
   exact ih k h1 h2
  ·
   exact ⟨n, hn, fun k hk hp => h ⟨k, hk, hp⟩⟩

theorem count_next {listed : Array Bool} {i : Nat} (hi : i < listed.size) (hn : listed.getD i false = false) : ∀ (l : List Nat), l.Nodup → i ∈ l →
  (l.filter fun j => !listed.getD j false).length = (l.filter fun j => !(listed.setIfInBounds i true).getD j false).length + 1
 | [], _, h => by cases h
 | j :: r, hnd, hm => by
  rw [List.nodup_cons] at hnd
  by_cases e : j = i
  ·
   subst e
   have h1 : (listed.setIfInBounds j true).getD j false = true := by simp [hi]
   rw [List.filter_cons_of_pos (by rw [hn]; rfl), List.filter_cons_of_neg (by rw [h1]; decide), List.length_cons]
   congr 2
   refine List.filter_congr fun k hk => ?_
   rw [getD_set_ne false (fun (e : j = k) => hnd.1 (by rw [e]; exact hk))]
  ·
   have hm' : i ∈ r := by
    rcases List.mem_cons.1 hm with h | h
    ·
     exact absurd h.symm e
    ·
     exact h
   have := count_next hi hn r hnd.2 hm'
   simp only [List.filter_cons, getD_set_ne false (fun h => e h.symm)]
   split <;> simp_all

theorem wpAny_of_bag {B : List Nat} {L : List (Nat × Nat)} {RR : Nat → World → Value → Prop} {ow : Value → Option Nat} {a : Act} {w : World} (hB : bagB ops B L = true) (hroom : roomB ops B a.tmps.size = true)
  (hQ : ∀ c a w (d : Tmp) v, Q (.panic c) (a.put (some d) v) w → Q (.panic c) a w) (hR : ∀ i w w' v, RR i w v → Below w.heap.size w w' → RR i w' v) (hop : ∀ i ∈ B, BagStep P ops B RR ow a w i)
  (hend : ∀ vs w', Below w.heap.size w w' → (∀ i ∈ B, RR i w' (vs i)) → (∀ i ∈ B, ∀ j ∈ B, i ≠ j → ∀ b, ow (vs i) = some b → ow (vs j) ≠ some b) → ((∃ x ∈ L, x.2 = 0) → S w') ∧ wpText P ops Q S L (bagPut ops (Array.replicate ops.size true) vs B a) w') :
  ∀ (n : Nat) (listed : Array Bool) (vs : Nat → Value) (a' : Act) (w' : World), (B.filter fun j => !listed.getD j false).length + L.length = n → BI ops B RR ow a w listed vs a' w' → wpAny P .any ops Q n listed a' w' := by
 simp only [bagB, Bool.and_eq_true, decide_eq_true_eq] at hB
 obtain ⟨⟨⟨⟨⟨⟨⟨b1, b2⟩, b3⟩, b4⟩, b5⟩, b6⟩, b7⟩, b8⟩ := hB
 have inB : ∀ i ∈ B, i < ops.size ∧ (∃ o, ops[i]? = some o ∧ o.guard = none) ∧ ∀ p ∈ preds ops i, p < i ∧ p ∈ B := fun i hi => by
  have := List.all_eq_true.1 b7 i hi
  simp only [Bool.and_eq_true, decide_eq_true_eq, List.all_eq_true] at this
  obtain ⟨h1, h2, h3⟩ := this
  refine ⟨h1, ?_, fun p hp => ?_⟩
  ·
   cases ho : ops[i]? with
   | none => rw [ho] at h2; cases h2
   | some o => rw [ho] at h2; exact ⟨o, rfl, Option.isNone_iff_eq_none.1 h2⟩
  ·
   have := h3 p hp
   exact ⟨this.1, by simpa using this.2⟩
 have dis : ∀ x ∈ B, ∀ y ∈ B, x ≠ y → ∀ e, dstOf ops x = some e → dstOf ops y ≠ some e := fun x hx y hy hne e he => by
  have := List.all_eq_true.1 (List.all_eq_true.1 b8 x hx) y hy
  rw [he] at this
  simpa [hne] using this
 have inL : ∀ x ∈ L, x.1 < ops.size ∧ (∀ p ∈ preds ops x.1, p < ops.size ∧ p ≠ x.1) ∧ (∀ b ∈ B, b ∈ (tbl ops ops.size).getD x.1 []) ∧ x.1 ∉ B := fun x hx => by
  have := List.all_eq_true.1 b3 x hx
  simp only [Bool.and_eq_true, decide_eq_true_eq, List.all_eq_true, Bool.not_eq_true'] at this
  obtain ⟨h1, h2, h3, h4⟩ := this
  refine ⟨h1, fun p hp => ?_, fun b hb => by simpa using h3 b hb, fun h => by rw [List.contains_iff_mem.2 h] at h4; cases h4⟩
  have := h2 p hp
  exact ⟨this.1, by simpa using this.2⟩
 intro n
 induction n with
 | zero =>
  intro listed vs a' w' hn bi
  have hL : L = [] := List.eq_nil_of_length_eq_zero (by omega)
  have hall : ∀ i ∈ B, listed.getD i false = true := fun i hi => by
   cases hl : listed.getD i false with
   | true => rfl
   | false =>
    have : i ∈ B.filter fun j => !listed.getD j false := List.mem_filter.2 ⟨hi, by rw [hl]; rfl⟩
    have h0 := List.length_pos_of_mem this
    omega
  subst hL
  obtain ⟨_, h9⟩ := hend vs w' bi.below (fun i hi => bi.rel i (hall i hi)) (fun i hi j hj => bi.dis i j (hall i hi) (hall j hj))
  have e : a' = bagPut ops (Array.replicate ops.size true) vs B a := by
   rw [bi.act]
   exact bagPut_same B a (fun j hj => ⟨by rw [hall j hj]; simp [(inB j hj).1], fun _ => rfl⟩)
  rw [← e] at h9
  refine ⟨?_, by with_unfolding_all exact h9⟩
  cases hrd : Region.ready .any ops listed with
  | nil => rfl
  | cons j js =>
   have hj : j ∈ Region.ready .any ops listed := by rw [hrd]; simp
   obtain ⟨h1, o, ho, _⟩ := mem_ready.1 hj
   have hlt : j < ops.size := (Array.getElem?_eq_some_iff.1 ho).1
   have := List.all_eq_true.1 b2 j (List.mem_range.2 hlt)
   have hjB : j ∈ B := by simpa using this
   rw [getD_true_false (by rw [bi.size]; exact hlt), hall j hjB] at h1
   cases h1
 | succ n ih =>
  intro listed vs a' w' hn bi
  by_cases hdone : ∀ i ∈ B, listed.getD i false = true
  ·
   have hfil : (B.filter fun j => !listed.getD j false) = [] := List.filter_eq_nil_iff.2 (fun i hi => by rw [hdone i hi]; decide)
   rw [hfil, List.length_nil, Nat.zero_add] at hn
   obtain ⟨hS, h9⟩ := hend vs w' bi.below (fun i hi => bi.rel i (hdone i hi)) (fun i hi j hj => bi.dis i j (hdone i hi) (hdone j hj))
   have e : a' = bagPut ops (Array.replicate ops.size true) vs B a := by
    rw [bi.act]
    exact bagPut_same B a (fun j hj => ⟨by rw [hdone j hj]; simp [(inB j hj).1], fun _ => rfl⟩)
   rw [← e] at h9
   refine wpAny_of_text (S := S) (Region.noSelect_spec b1) hQ (n + 1) L listed a' w' hn ⟨bi.size, fun i => ?_, b4, bi.closed, pairsB_spec b6, fun x hx => (inL x hx).2.1⟩ hS h9
   constructor
   ·
    intro hi
    obtain ⟨x, hx, rfl⟩ := List.mem_map.1 hi
    refine ⟨(inL x hx).1, ?_⟩
    cases hl : listed.getD x.1 false with
    | false => rfl
    | true => exact absurd (bi.sub _ hl) (inL x hx).2.2.2
   ·
    rintro ⟨h1, h2⟩
    have := List.all_eq_true.1 b2 i (List.mem_range.2 h1)
    rw [Bool.or_eq_true] at this
    rcases this with h | h
    ·
     have := hdone i (by simpa using h)
     rw [h2] at this; cases this
    ·
     simpa using h
  ·
   have hex : ∃ i, i ∈ B ∧ listed.getD i false = false := by
    apply Classical.byContradiction
    intro hno
    exact hdone fun i hi => by
     cases hl : listed.getD i false with
     | true => rfl
     | false => exact absurd ⟨i, hi, hl⟩ hno
   refine ⟨fun h0 => ?_, fun i hi => ?_⟩
   ·
    exfalso
    obtain ⟨i0, hi0⟩ := hex
    obtain ⟨i, ⟨hiB, hil⟩, hmin⟩ := least (p := fun i => i ∈ B ∧ listed.getD i false = false) i0 hi0
    obtain ⟨hlt, ⟨o, ho, _⟩, hpr⟩ := inB i hiB
    have : i ∈ Region.ready .any ops listed := by
     refine mem_ready.2 ⟨by rw [getD_true_false (by rw [bi.size]; exact hlt)]; exact hil, o, ho, fun e he hb => ?_⟩
     obtain ⟨h1, h2⟩ := hpr _ (mem_preds ho he hb)
     cases hl : listed.getD e.on false with
     | true => rfl
     | false => exact absurd ⟨h2, hl⟩ (hmin _ h1)
    rw [h0] at this
    cases this
   ·
    obtain ⟨h1, oi, hoi, hall⟩ := mem_ready.1 hi
    have hlt : i < ops.size := (Array.getElem?_eq_some_iff.1 hoi).1
    have hil : listed.getD i false = false := by rw [← getD_true_false (by rw [bi.size]; exact hlt)]; exact h1
    have hcl : Closed ops (listed.setIfInBounds i true) := by
     intro j p hp hl
     by_cases e : i = j
     ·
      subst e
      obtain ⟨o', ed, ho', he, hb, rfl⟩ := of_preds hp
      obtain rfl : oi = o' := Option.some.inj (hoi.symm.trans ho')
      exact getD_set_true (hall ed he hb)
     ·
      rw [getD_set_ne false e] at hl
      exact getD_set_true (bi.closed j p hp hl)
    have hset : (listed.setIfInBounds i true).getD i false = true := by simp [bi.size, hlt]
    have hiB : i ∈ B := by
     have := List.all_eq_true.1 b2 i (List.mem_range.2 hlt)
     rw [Bool.or_eq_true] at this
     rcases this with h | h
     ·
      simpa using h
     ·
      exfalso
      obtain ⟨x, hx, hxe⟩ := List.mem_map.1 (show i ∈ L.map (·.1) by simpa using h)
      obtain ⟨i1, hi1, hl1⟩ := hex
      have h2 := (inL x hx).2.2.1 i1 hi1
      rw [hxe] at h2
      have h3 := tbl_sound hcl _ i i1 h2 hset
      have hne : i ≠ i1 := fun e => (inL x hx).2.2.2 (by rw [hxe, e]; exact hi1)
      rw [getD_set_ne false hne, hl1] at h3
      cases h3
    obtain ⟨_, ⟨o, ho, hg⟩, hpr⟩ := inB i hiB
    obtain rfl : oi = o := Option.some.inj (hoi.symm.trans ho)
    show wpOp P ops Q i _ a' w'
    unfold wpOp
    simp only [hoi]
    rw [if_pos (by simp [Region.wanted, hg])]
    refine .inl (wp_of_noQ (hop i hiB oi hoi vs a' w' bi.below (fun t ht => ?_) (fun j hj => ?_) _ (fun v w'' hb hr ho => ?_)))
    ·
     rw [bi.act]
     exact bagPut_old B a (fun j hj => by have := List.all_eq_true.1 ht j hj; simpa using this)
    ·
     have hj' : j ∈ preds ops i := by simpa using hj
     obtain ⟨_, hjB⟩ := hpr j hj'
     have hjl : listed.getD j false = true := by
      obtain ⟨o', ed, ho', he, hb, rfl⟩ := of_preds hj'
      obtain rfl : oi = o' := Option.some.inj (hoi.symm.trans ho')
      exact hall ed he hb
     refine ⟨fun d hd => ?_, bi.rel j hjl⟩
     rw [bi.act]
     refine bagPut_slot hd hjl B a b5 hjB ?_ dis
     have := List.all_eq_true.1 hroom j hjB
     rw [hd] at this
     simpa using this
    ·
     have hdo : oi.dst = dstOf ops i := by simp [dstOf, hoi]
     refine ih _ (fun j => if j = i then v else vs j) _ _ ?_ ⟨by simp [bi.size], hcl, fun j hj => ?_, ?_, ?_, fun j hj => ?_, fun j hj b hb' => ?_, fun j k hj hk hjk b hb' => ?_⟩
     ·
      have := count_next (by rw [bi.size]; exact hlt) hil B b5 hiB
      omega
     ·
      by_cases e : i = j
      ·
       subst e; exact hiB
      ·
       rw [getD_set_ne false e] at hj
       exact bi.sub j hj
     ·
      rw [hdo, bi.act]
      exact bagPut_next (by rw [bi.size]; exact hlt) hil B a b5 hiB dis
     ·
      exact below_thenB bi.below bi.below.size hb
     ·
      by_cases e : j = i
      ·
       subst e; simp only [if_true]; exact hr
      ·
       rw [getD_set_ne false (fun h => e h.symm)] at hj
       simp only [if_neg e]
       exact hR _ _ _ _ (bi.rel j hj) hb
     ·
      by_cases e : j = i
      ·
       simp only [if_pos e] at hb'; exact (ho b hb').2
      ·
       rw [getD_set_ne false (fun h => e h.symm)] at hj
       simp only [if_neg e] at hb'
       exact Nat.lt_of_lt_of_le (bi.lt j hj b hb') hb.size
     ·
      by_cases e : j = i
      ·
       have e2 : ¬ k = i := fun h => hjk (e.trans h.symm)
       rw [getD_set_ne false (fun h => e2 h.symm)] at hk
       simp only [if_pos e] at hb'
       simp only [if_neg e2]
       intro hc
       have := (ho b hb').1
       have := bi.lt k hk b hc
       omega
      ·
       rw [getD_set_ne false (fun h => e h.symm)] at hj
       simp only [if_neg e] at hb'
       by_cases e2 : k = i
       ·
        simp only [if_pos e2]
        intro hc
        have := (ho b hc).1
        have := bi.lt j hj b hb'
        omega
       ·
        rw [getD_set_ne false (fun h => e2 h.symm)] at hk
        simp only [if_neg e2]
        exact bi.dis j k hj hk hjk b hb'

/-- The act behind the whole bag. -/
def putAll (ops : Array Oper) (vs : Nat → Value) : List Nat → Act → Act
 | [], a => a
 | i :: r, a => putAll ops vs r (a.put (dstOf ops i) (vs i))
theorem bagPut_all {n : Nat} {vs : Nat → Value} : ∀ (l : List Nat) (a : Act), (l.all fun i => decide (i < n)) = true → bagPut ops (Array.replicate n true) vs l a = putAll ops vs l a
 | [], _, _ => rfl
 | i :: r, a, h => by
  rw [List.all_cons, Bool.and_eq_true, decide_eq_true_eq] at h
  rw [bagPut, putAll, if_pos (by simp [h.1]), bagPut_all r _ h.2]
/-- A relation on a value that stays. -/
def StayS (R : World → Value → Prop) : Prop := ∀ w w' v, R w v → Below w.heap.size w w' → R w' v
def spec (l : List (World → Value → Prop)) (i : Nat) : World → Value → Prop := l.getD i (fun _ _ => False)
theorem spec_stay {l : List (World → Value → Prop)} (h : ∀ R ∈ l, StayS R) (i : Nat) : StayS (spec l i) := by
 intro w w' v hv hb
 unfold spec at *
 rw [List.getD_eq_getElem?_getD] at *
 cases hi : l[i]? with
 | none => rw [hi] at hv; exact hv.elim
 | some R => rw [hi] at hv; exact h R (List.mem_of_getElem? hi) w w' v hv hb
theorem stayS_const (x : Value) : StayS (fun _ v => v = x) := fun _ _ _ h _ => h
def mapOf : Value → Option Nat
 | .map (some b) => some b
 | _ => none

/-- THE RULE. -/
theorem wp_region_bag {id : Nat} {a : Act} {w : World} (S : World → Prop) (B : List Nat) (L : List (Nat × Nat)) (RR : Nat → World → Value → Prop) (ow : Value → Option Nat) (hm : P.follows .mixedOrders = true) (hB : bagB ops B L = true) (hlen : B.length + L.length = ops.size) (hroom : roomB ops B a.tmps.size = true)
  (hQ : ∀ c a w (d : Tmp) v, Q (.panic c) (a.put (some d) v) w → Q (.panic c) a w) (hR : ∀ i w w' v, RR i w v → Below w.heap.size w w' → RR i w' v) (hop : ∀ i ∈ B, BagStep P ops B RR ow a w.drew i)
  (hend : ∀ vs w', Below w.heap.size w w' → (∀ i ∈ B, RR i w' (vs i)) → (∀ i ∈ B, ∀ j ∈ B, i ≠ j → ∀ b, ow (vs i) = some b → ow (vs j) ≠ some b) → ((∃ x ∈ L, x.2 = 0) → S w') ∧ wpText P ops Q S L (putAll ops vs B a) w') : (Code.region id ops true).wp P Q a w := by
 refine wp_region_any hm ?_
 have hlt : (B.all fun i => decide (i < ops.size)) = true := List.all_eq_true.2 fun i hi => by
  have h9 := hB
  simp only [bagB, Bool.and_eq_true] at h9
  have := List.all_eq_true.1 h9.1.2 i hi
  simp only [Bool.and_eq_true] at this
  exact this.1
 have hf : ∀ i, (Array.replicate ops.size false).getD i false = false := fun i => getD_replicate_false _ _
 refine wpAny_of_bag (L := L) (S := S) (RR := RR) (ow := ow) (a := a) (w := w.drew) hB hroom hQ hR hop (fun vs w' hb hr hd => by rw [bagPut_all B a hlt]; exact hend vs w' (below_thenB (Below.refl w.heap.size w).drew (Nat.le_refl _) hb) hr hd) ops.size _ (fun _ => undef) a w.drew ?_ ⟨by simp, fun j p hp hl => ?_, fun i hi => ?_, ?_, Below.refl _ _, fun i hi => ?_, fun i hi => ?_, fun i j hi => ?_⟩
 ·
  rw [List.filter_eq_self.2 (fun i _ => by rw [hf]; rfl)]
  exact hlen
 ·
  rw [hf] at hl; cases hl
 ·
  rw [hf] at hi; cases hi
 ·
  have : ∀ (l : List Nat) (a : Act), bagPut ops (Array.replicate ops.size false) (fun _ => undef) l a = a := by
   intro l
   induction l with
   | nil => intro a; rfl
   | cons j r ih => intro a; rw [bagPut, if_neg (by rw [hf]; decide), ih]
  exact (this B a).symm
 ·
  rw [hf] at hi; cases hi
 ·
  rw [hf] at hi; cases hi
 ·
  rw [hf] at hi; cases hi

section
variable {a' : Act} {w' : World} {o : Oper} {K : Act → World → Prop}
/-- An operation of the bag that yields a value, its run told. -/
theorem bag_run {v : Value} {w'' : World} (hr : (execOp a'.eval o).run P w' = .ok (.value v) w'') (h : K (a'.put o.dst v) w'') : o.wp P a' w' K Q := by
 unfold Oper.wp
 rw [hr]
 exact h
/-- A call of the bag. -/
theorem bag_call {f : FuncId} {args : Array Value} {R : Value → World → Prop} (hr : (execOp a'.eval o).run P w' = .ok (.enter f args) w') (hc : Calls P f args w' (fun e w'' => ∃ v, e = .returned v ∧ R v w'')) (h : ∀ v w'', R v w'' → K (a'.put o.dst v) w'') : o.wp P a' w' K Q := by
 unfold Oper.wp
 rw [hr]
 refine Calls.mono hc ?_
 rintro e w'' ⟨v, rfl, hv⟩
 exact h v w'' hv
end
end Text
end Go.Proofs.Ytboglaokdgnpaaa
