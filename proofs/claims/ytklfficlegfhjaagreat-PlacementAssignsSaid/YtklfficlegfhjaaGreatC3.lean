/- Several texts in one: Text, Text3, Gen, Mg, Free. -/
import Derived.OrdersHeld
import Derived.StillTail
import Derived.KernelRfl
import Derived.Test.YtklfficlegfhjaaGreatC2
import Derived.Test.YtklfficlegfhjaaGreatC1
/- A region that draws its order, walked once: operations that yield their value whatever the others do may come first, reads of the world at hand may come in any order among themselves, and what changes the world comes in one order. Proved for any program. -/
namespace Go.Proofs.YtklfficlegfhjaaGreat
open Go

namespace Text
variable {P : Program} {ops : Array Oper} {Q : Exit → Act → World → Prop} {S : World → Prop}

/-- The operations that number j waits for. -/
def preds (ops : Array Oper) (j : Nat) : List Nat :=
 match ops[j]? with
 | some o => (o.after.toList.filter fun e => Region.binds .any e).map (·.on)
 | none => []

theorem mem_preds {j : Nat} {o : Oper} (ho : ops[j]? = some o) {e : Edge} (he : e ∈ o.after) (hb : Region.binds .any e = true) : e.on ∈ preds ops j := by
 unfold preds
 rw [ho]
 exact List.mem_map.2 ⟨e, List.mem_filter.2 ⟨by simpa using he, hb⟩, rfl⟩
theorem of_preds {j p : Nat} (h : p ∈ preds ops j) : ∃ o e, ops[j]? = some o ∧ e ∈ o.after ∧ Region.binds .any e = true ∧ e.on = p := by
 unfold preds at h
 split at h
 ·
  rename_i o ho
  obtain ⟨e, he, rfl⟩ := List.mem_map.1 h
  obtain ⟨h1, h2⟩ := List.mem_filter.1 he
  exact ⟨o, e, ho, by simpa using h1, h2, rfl⟩
 ·
  cases h

/-- All that number j waits for, through others too. -/
def arow (ops : Array Oper) (j : Nat) (T : List (List Nat)) : List Nat :=
 (List.range j).filter fun i => (preds ops j).contains i || (preds ops j).any fun p => (T.getD p []).contains i
def tbl (ops : Array Oper) : Nat → List (List Nat)
 | 0 => []
 | j + 1 => tbl ops j ++ [arow ops j (tbl ops j)]
theorem tbl_length (n : Nat) : (tbl ops n).length = n := by
 induction n with
 | zero => rfl
 | succ n ih => simp [tbl, ih]

/-- What has come up is shut downward. -/
def Closed (ops : Array Oper) (listed : Array Bool) : Prop := ∀ j p, p ∈ preds ops j → listed.getD j false = true → listed.getD p false = true

theorem tbl_sound {listed : Array Bool} (hc : Closed ops listed) : ∀ (n j i : Nat), i ∈ (tbl ops n).getD j [] → listed.getD j false = true → listed.getD i false = true := by
 intro n
 induction n with
 | zero => intro j i h; simp [tbl] at h
 | succ n ih =>
  intro j i h hj
  rw [tbl, List.getD_eq_getElem?_getD] at h
  by_cases hjn : j < n
  ·
   rw [List.getElem?_append_left (by rw [tbl_length]; exact hjn), ← List.getD_eq_getElem?_getD] at h
   exact ih j i h hj
  ·
   by_cases hjn2 : j = n
   ·
    subst hjn2
    rw [List.getElem?_append_right (by rw [tbl_length]; exact Nat.le_refl _), tbl_length, Nat.sub_self] at h
    simp only [List.getElem?_cons_zero, Option.getD_some] at h
    obtain ⟨_, h2⟩ := List.mem_filter.1 h
    rw [Bool.or_eq_true] at h2
    rcases h2 with h2 | h2
    ·
     exact hc j i (by simpa using h2) hj
    ·
     obtain ⟨p, hp, hi⟩ := List.any_eq_true.1 h2
     exact ih p i (by simpa using hi) (hc j p hp hj)
   ·
    rw [List.getElem?_eq_none (by rw [List.length_append, tbl_length]; simp; omega)] at h
    simp at h

/-- Kinds: 0 held (yields wherever S holds), 1 a read of the world at hand, 2 an effect that keeps S, 3 an effect behind which S is not wanted, 4 pure (yields in whatever world). May x stand before y where y does not wait for it? -/
def swapB (kx ky : Nat) : Bool := decide (4 ≤ kx) || (kx == 0 && ky != 3) || (kx == 1 && (decide (ky ≤ 1) || decide (4 ≤ ky)))
/-- May x stand before y? -/
def pairB (ops : Array Oper) (T : List (List Nat)) (x y : Nat × Nat) : Bool :=
 !(preds ops x.1).contains y.1 && !(x.2 == 3 && y.2 == 0) &&
 ((T.getD y.1 []).contains x.1 ||
  (swapB x.2 y.2 && (match ops[x.1]?, ops[y.1]? with | some ox, some oy => ox.apart ops oy | _, _ => false)))
def pairsB (ops : Array Oper) (T : List (List Nat)) : List (Nat × Nat) → Bool
 | [] => true
 | x :: r => r.all (pairB ops T x) && pairsB ops T r
def textB (ops : Array Oper) (L : List (Nat × Nat)) : Bool :=
 Region.noSelect ops && (List.range ops.size).all (fun i => (L.map (·.1)).contains i) && L.all (fun x => decide (x.1 < ops.size) && (preds ops x.1).all (fun p => decide (p < ops.size) && p != x.1)) &&
  decide (L.map (·.1)).Nodup && decide (L.length = ops.size) && pairsB ops (tbl ops ops.size) L

theorem pairsB_spec {T : List (List Nat)} : ∀ {L : List (Nat × Nat)}, pairsB ops T L = true → L.Pairwise (fun x y => pairB ops T x y = true)
 | [], _ => List.Pairwise.nil
 | x :: r, h => by
  simp only [pairsB, Bool.and_eq_true, List.all_eq_true] at h
  exact List.Pairwise.cons h.1 (pairsB_spec h.2)

/-- The walk in the order of L. -/
def wpText (P : Program) (ops : Array Oper) (Q : Exit → Act → World → Prop) (S : World → Prop) : List (Nat × Nat) → Act → World → Prop
 | [], a, w => Q .normal a w
 | (i, 0) :: r, a, w => ∃ o v, ops[i]? = some o ∧ YieldsIf P ops S o v a ∧ wpText P ops Q S r (a.put o.dst v) w
 | (i, 1) :: r, a, w => ∃ o v, ops[i]? = some o ∧ YieldsAt P ops w o v a ∧ wpText P ops Q S r (a.put o.dst v) w
 | (i, 2) :: r, a, w => wpOp P ops Q i (fun a' w' => S w' ∧ wpText P ops Q S r a' w') a w
 | (i, 3) :: r, a, w => wpOp P ops Q i (fun a' w' => wpText P ops Q S r a' w') a w
 | (i, _ + 4) :: r, a, w => ∃ o v, ops[i]? = some o ∧ Yields P ops o v a ∧ wpText P ops Q S r (a.put o.dst v) w

/-- What commutes: x stands before y and y does not wait for it. -/
def Swap (ops : Array Oper) (x y : Nat × Nat) : Prop :=
 swapB x.2 y.2 = true ∧ ∀ ox oy, ops[x.1]? = some ox → ops[y.1]? = some oy → ox.apart ops oy = true

/-- What an operation of kind k yields. -/
def Gives (P : Program) (ops : Array Oper) (S : World → Prop) (w : World) (k : Nat) (o : Oper) (v : Value) (a : Act) : Prop :=
 (k = 0 → YieldsIf P ops S o v a) ∧ (k = 1 → YieldsAt P ops w o v a) ∧ (4 ≤ k → Yields P ops o v a)
theorem Gives.of_same {w : World} {k : Nat} {o : Oper} {v : Value} {a a' : Act} (h : Gives P ops S w k o v a) (he : execOp a'.eval o = execOp a.eval o)
  (hw : Region.wanted o (yielded ops a'.tmps) = Region.wanted o (yielded ops a.tmps)) : Gives P ops S w k o v a' :=
 ⟨fun e => (h.1 e).of_same he hw, fun e => (h.2.1 e).of_same he hw, fun e => (h.2.2 e).of_same he hw⟩
theorem text_gives {w : World} {i k : Nat} (hk : k ≤ 1 ∨ 4 ≤ k) {r : List (Nat × Nat)} {a : Act} :
  wpText P ops Q S ((i, k) :: r) a w ↔ ∃ o v, ops[i]? = some o ∧ Gives P ops S w k o v a ∧ wpText P ops Q S r (a.put o.dst v) w := by
 match k, hk with
 | 0, _ => exact ⟨fun ⟨o, v, h1, h2, h3⟩ => ⟨o, v, h1, ⟨fun _ => h2, (fun h => absurd h (by decide)), (fun h => absurd h (by decide))⟩, h3⟩, fun ⟨o, v, h1, h2, h3⟩ => ⟨o, v, h1, h2.1 rfl, h3⟩⟩
 | 1, _ => exact ⟨fun ⟨o, v, h1, h2, h3⟩ => ⟨o, v, h1, ⟨(fun h => absurd h (by decide)), fun _ => h2, (fun h => absurd h (by decide))⟩, h3⟩, fun ⟨o, v, h1, h2, h3⟩ => ⟨o, v, h1, h2.2.1 rfl, h3⟩⟩
 | 2, h => exact absurd h (by omega)
 | 3, h => exact absurd h (by omega)
 | k + 4, _ => exact ⟨fun ⟨o, v, h1, h2, h3⟩ => ⟨o, v, h1, ⟨(fun h => absurd h (by omega)), (fun h => absurd h (by omega)), fun _ => h2⟩, h3⟩, fun ⟨o, v, h1, h2, h3⟩ => ⟨o, v, h1, h2.2.2 (by omega), h3⟩⟩

theorem swapB_still {kx ky : Nat} (h : swapB kx ky = true) : kx ≤ 1 ∨ 4 ≤ kx := by
 simp only [swapB, Bool.or_eq_true, Bool.and_eq_true, decide_eq_true_eq, beq_iff_eq, bne_iff_ne] at h
 omega

/-- A held operation, a read or a pure one may be brought to the front. -/
theorem front_still (i k : Nat) (hk : k ≤ 1 ∨ 4 ≤ k) (oi : Oper) (hoi : ops[i]? = some oi) (hsel : ∀ (j : Nat) (o : Oper) cs b, ops[j]? = some o → o.op ≠ .select cs b) (w : World) :
  ∀ (L1 L2 : List (Nat × Nat)) (a : Act), (∀ x ∈ L1, Swap ops x (i, k)) → wpText P ops Q S (L1 ++ (i, k) :: L2) a w →
   ∃ v, Gives P ops S w k oi v a ∧ wpText P ops Q S (L1 ++ L2) (a.put oi.dst v) w := by
 intro L1
 induction L1 with
 | nil =>
  intro L2 a _ h
  obtain ⟨o, v, ho, hy, hr⟩ := (text_gives hk).1 h
  obtain rfl : o = oi := Option.some.inj (ho.symm.trans hoi)
  exact ⟨v, hy, hr⟩
 | cons x L1 ih =>
  intro L2 a hs h
  obtain ⟨j, kj⟩ := x
  have hsw := hs (j, kj) (by simp)
  have hkj := swapB_still hsw.1
  obtain ⟨oj, vj, hoj, hy, hr⟩ := (text_gives hkj).1 h
  have hap := hsw.2 oj oi hoj hoi
  obtain ⟨h1, h2, h3⟩ := Oper.apart_spec hap
  obtain ⟨v, y0, hr'⟩ := ih L2 _ (fun x hx => hs x (by simp [hx])) hr
  have hsi := fun cs b => hsel i oi cs b hoi
  refine ⟨v, y0.of_same (execOp_put oi hsi a oj.dst vj h1).symm (wanted_put oi a oj.dst vj h1).symm, (text_gives hkj).2 ⟨oj, vj, hoj, hy.of_same (execOp_put oj (fun cs b => hsel j oj cs b hoj) a oi.dst v h3) (wanted_put oj a oi.dst v h3), ?_⟩⟩
  rw [← Act.put_comm a vj v h2]
  exact hr'

/-- An effect may be brought to the front past held and pure operations. -/
theorem front_eff (i : Nat) (oi : Oper) (hoi : ops[i]? = some oi) (hsel : ∀ (j : Nat) (o : Oper) cs b, ops[j]? = some o → o.op ≠ .select cs b)
  (hQ : ∀ c a w (d : Tmp) v, Q (.panic c) (a.put (some d) v) w → Q (.panic c) a w) (w : World) :
  ∀ (L1 L2 : List (Nat × Nat)) (a : Act), (∀ x ∈ L1, Swap ops x (i, 2)) → wpText P ops Q S (L1 ++ (i, 2) :: L2) a w →
   wpOp P ops Q i (fun a' w' => S w' ∧ wpText P ops Q S (L1 ++ L2) a' w') a w := by
 intro L1
 induction L1 with
 | nil => intro L2 a _ h; exact h
 | cons x L1 ih =>
  intro L2 a hs h
  obtain ⟨j, kj⟩ := x
  have hsw := hs (j, kj) (by simp)
  have hkj : kj = 0 ∨ 4 ≤ kj := by
   have := hsw.1
   simp only [swapB, Bool.or_eq_true, Bool.and_eq_true, decide_eq_true_eq, beq_iff_eq, bne_iff_ne] at this
   omega
  obtain ⟨oj, vj, hoj, hy, hr⟩ := (text_gives (by omega)).1 h
  have hr' := ih L2 _ (fun x hx => hs x (by simp [hx])) hr
  have hap := hsw.2 oj oi hoj hoi
  have hq : ∀ c a w, Q (.panic c) (a.put oj.dst vj) w → Q (.panic c) a w := fun c a w hq => by
   cases hd : oj.dst with
   | none => rw [hd] at hq; exact hq
   | some d => rw [hd] at hq; exact hQ c a w d _ hq
  have hsj := fun cs b => hsel j oj cs b hoj
  have hsi := fun cs b => hsel i oi cs b hoi
  rcases hkj with rfl | h4
  ·
   have h2 := wpOp_putIf (S := S) hoi hap hsj hsi hq (hy.1 rfl) hr'
   exact wpOp_mono (fun a' w' h3 => ⟨h3.2.1, oj, vj, hoj, h3.1, h3.2.2⟩) h2
  ·
   have h2 := wpOp_put hoi hap hsj hsi hq (hy.2.2 h4) hr'
   exact wpOp_mono (fun a' w' h3 => ⟨h3.2.1, (text_gives (.inr h4)).2 ⟨oj, vj, hoj, ⟨fun e => absurd e (by omega), fun e => absurd e (by omega), fun _ => h3.1⟩, h3.2.2⟩⟩) h2
/-- An effect behind which S is not wanted, past pure operations. -/
theorem front_last (i : Nat) (oi : Oper) (hoi : ops[i]? = some oi) (hsel : ∀ (j : Nat) (o : Oper) cs b, ops[j]? = some o → o.op ≠ .select cs b)
  (hQ : ∀ c a w (d : Tmp) v, Q (.panic c) (a.put (some d) v) w → Q (.panic c) a w) (w : World) :
  ∀ (L1 L2 : List (Nat × Nat)) (a : Act), (∀ x ∈ L1, Swap ops x (i, 3)) → wpText P ops Q S (L1 ++ (i, 3) :: L2) a w →
   wpOp P ops Q i (fun a' w' => wpText P ops Q S (L1 ++ L2) a' w') a w := by
 intro L1
 induction L1 with
 | nil => intro L2 a _ h; exact h
 | cons x L1 ih =>
  intro L2 a hs h
  obtain ⟨j, kj⟩ := x
  have hsw := hs (j, kj) (by simp)
  have h4 : 4 ≤ kj := by
   have := hsw.1
   simp only [swapB, Bool.or_eq_true, Bool.and_eq_true, decide_eq_true_eq, beq_iff_eq, bne_iff_ne] at this
   omega
  obtain ⟨oj, vj, hoj, hy, hr⟩ := (text_gives (.inr h4)).1 h
  have hr' := ih L2 _ (fun x hx => hs x (by simp [hx])) hr
  have hap := hsw.2 oj oi hoj hoi
  have hq : ∀ c a w, Q (.panic c) (a.put oj.dst vj) w → Q (.panic c) a w := fun c a w hq => by
   cases hd : oj.dst with
   | none => rw [hd] at hq; exact hq
   | some d => rw [hd] at hq; exact hQ c a w d _ hq
  have h2 := wpOp_put hoi hap (fun cs b => hsel j oj cs b hoj) (fun cs b => hsel i oi cs b hoi) hq (hy.2.2 h4) hr'
  exact wpOp_mono (fun a' w' h3 => (text_gives (.inr h4)).2 ⟨oj, vj, hoj, ⟨fun e => absurd e (by omega), fun e => absurd e (by omega), fun _ => h3.1⟩, h3.2⟩) h2

theorem wpOp_of_yieldsAt {i : Nat} {o : Oper} {v : Value} {a : Act} {w : World} {K : Act → World → Prop} (hi : ops[i]? = some o) (hy : YieldsAt P ops w o v a) (h : K (a.put o.dst v) w) : wpOp P ops Q i K a w :=
 wpOp_of_stOp (fun _ h' => h') (hy.stOp hi (K := fun a' => K a' w) h)

/-- What L and the list of what has come up say of one another. -/
structure Inv (ops : Array Oper) (L : List (Nat × Nat)) (listed : Array Bool) : Prop where
 size : listed.size = ops.size
 mem : ∀ i, i ∈ L.map (·.1) ↔ i < ops.size ∧ listed.getD i false = false
 nodup : (L.map (·.1)).Nodup
 closed : Closed ops listed
 pairs : L.Pairwise (fun x y => pairB ops (tbl ops ops.size) x y = true)
 inside : ∀ x ∈ L, ∀ p ∈ preds ops x.1, p < ops.size ∧ p ≠ x.1

theorem getD_true_false {listed : Array Bool} {i : Nat} (hi : i < listed.size) : listed.getD i true = listed.getD i false := by simp [hi]

theorem Inv.ready_of_head {x : Nat × Nat} {r : List (Nat × Nat)} {listed : Array Bool} (h : Inv ops (x :: r) listed) : x.1 ∈ Region.ready .any ops listed := by
 have hx := (h.mem x.1).1 (by simp)
 obtain ⟨o, ho⟩ : ∃ o, ops[x.1]? = some o := ⟨_, Array.getElem?_eq_getElem hx.1⟩
 refine mem_ready.2 ⟨by rw [getD_true_false (by rw [h.size]; exact hx.1)]; exact hx.2, o, ho, fun e he hb => ?_⟩
 have hp := mem_preds ho he hb
 obtain ⟨h1, h2⟩ := h.inside x (by simp) e.on hp
 cases hl : listed.getD e.on false with
 | true => rfl
 | false =>
  have hm := (h.mem e.on).2 ⟨h1, hl⟩
  simp only [List.map_cons, List.mem_cons] at hm
  rcases hm with hm | hm
  ·
   exact absurd hm h2
  ·
   obtain ⟨y, hy, hye⟩ := List.mem_map.1 hm
   have := (List.pairwise_cons.1 h.pairs).1 y hy
   simp only [pairB, Bool.and_eq_true, Bool.not_eq_true'] at this
   rw [hye] at this
   have h3 := this.1.1
   rw [List.contains_iff_mem.2 hp] at h3
   cases h3

theorem Inv.step {L1 L2 : List (Nat × Nat)} {i k : Nat} {listed : Array Bool} (h : Inv ops (L1 ++ (i, k) :: L2) listed) (hr : i ∈ Region.ready .any ops listed) : Inv ops (L1 ++ L2) (listed.setIfInBounds i true) := by
 have hil : i < ops.size := ((h.mem i).1 (by simp)).1
 have hnd := h.nodup
 have hsub : (L1 ++ L2).Sublist (L1 ++ (i, k) :: L2) := List.Sublist.append (List.Sublist.refl _) (List.sublist_cons_self _ _)
 refine ⟨by simp [h.size], fun j => ?_, hnd.sublist (hsub.map _), ?_, h.pairs.sublist hsub, fun x hx => h.inside x (hsub.subset hx)⟩
 ·
  have hj := h.mem j
  have hni : i ∉ (L1 ++ L2).map (·.1) := by
   rw [List.map_append, List.map_cons, List.nodup_append] at hnd
   obtain ⟨_, n2, n3⟩ := hnd
   rw [List.nodup_cons] at n2
   rw [List.map_append, List.mem_append]
   rintro (hm | hm)
   ·
    exact n3 i hm i (by simp) rfl
   ·
    exact n2.1 hm
  by_cases e : i = j
  ·
   subst e
   constructor
   ·
    intro hm; exact absurd hm hni
   ·
    rintro ⟨_, h2⟩
    simp [h.size, hil] at h2
  ·
   rw [getD_set_ne false e]
   rw [← hj]
   simp only [List.map_append, List.map_cons, List.mem_append, List.mem_cons]
   constructor
   ·
    rintro (hm | hm)
    ·
     exact .inl hm
    ·
     exact .inr (.inr hm)
   ·
    rintro (hm | hm | hm)
    ·
     exact .inl hm
    ·
     exact absurd hm.symm e
    ·
     exact .inr hm
 ·
  intro j p hp hl
  by_cases e : i = j
  ·
   subst e
   obtain ⟨_, o, ho, hall⟩ := mem_ready.1 hr
   obtain ⟨o', ed, ho', he, hb, rfl⟩ := of_preds hp
   obtain rfl : o = o' := Option.some.inj (ho.symm.trans ho')
   exact getD_set_true (hall ed he hb)
  ·
   rw [getD_set_ne false e] at hl
   exact getD_set_true (h.closed j p hp hl)

theorem Inv.swap {L1 L2 : List (Nat × Nat)} {i k : Nat} {listed : Array Bool} (h : Inv ops (L1 ++ (i, k) :: L2) listed) (hr : i ∈ Region.ready .any ops listed) : ∀ x ∈ L1, Swap ops x (i, k) := by
 intro x hx
 have hp := (List.pairwise_append.1 h.pairs).2.2 x hx (i, k) (by simp)
 have hxl := (h.mem x.1).1 (by rw [List.map_append, List.mem_append]; exact .inl (List.mem_map_of_mem hx))
 simp only [pairB, Bool.and_eq_true, Bool.or_eq_true, Bool.not_eq_true'] at hp
 rcases hp.2 with ha | hb
 ·
  exfalso
  have hmem : x.1 ∈ (tbl ops ops.size).getD i [] := by simpa using ha
  have hc2 := (h.step hr).closed
  have hl := tbl_sound hc2 _ i x.1 hmem (by
   have hil : i < ops.size := ((h.mem i).1 (by simp)).1
   simp [h.size, hil])
  by_cases e : i = x.1
  ·
   have hnd := h.nodup
   rw [List.map_append, List.map_cons, List.nodup_append] at hnd
   exact hnd.2.2 x.1 (List.mem_map_of_mem hx) i (by simp) e.symm
  ·
   rw [getD_set_ne false e, hxl.2] at hl
   cases hl
 ·
  refine ⟨hb.1, fun ox oy hox hoy => ?_⟩
  ·
   have := hb.2
   simp only [hox, hoy] at this
   exact this

theorem wpAny_of_text (hsel : ∀ (j : Nat) (o : Oper) cs b, ops[j]? = some o → o.op ≠ .select cs b) (hQ : ∀ c a w (d : Tmp) v, Q (.panic c) (a.put (some d) v) w → Q (.panic c) a w) :
  ∀ (n : Nat) (L : List (Nat × Nat)) (listed : Array Bool) (a : Act) (w : World), L.length = n → Inv ops L listed → ((∃ x ∈ L, x.2 = 0) → S w) → wpText P ops Q S L a w → wpAny P .any ops Q n listed a w
 | 0, L, listed, a, w, hn, inv, _, h => by
  obtain rfl : L = [] := List.eq_nil_of_length_eq_zero hn
  refine ⟨?_, h⟩
  cases hrd : Region.ready .any ops listed with
  | nil => rfl
  | cons j js =>
   have hj : j ∈ Region.ready .any ops listed := by rw [hrd]; simp
   obtain ⟨h1, o, ho, _⟩ := mem_ready.1 hj
   have hlt : j < ops.size := (Array.getElem?_eq_some_iff.1 ho).1
   have := (inv.mem j).2 ⟨hlt, by rw [← getD_true_false (by rw [inv.size]; exact hlt)]; exact h1⟩
   simp at this
 | n + 1, L, listed, a, w, hn, inv, hS, h => by
  refine ⟨fun h0 => ?_, fun i hi => ?_⟩
  ·
   cases L with
   | nil => exact h
   | cons x r => have := inv.ready_of_head; rw [h0] at this; cases this
  ·
   obtain ⟨h1, oi, hoi, _⟩ := mem_ready.1 hi
   have hlt : i < ops.size := (Array.getElem?_eq_some_iff.1 hoi).1
   have hm := (inv.mem i).2 ⟨hlt, by rw [← getD_true_false (by rw [inv.size]; exact hlt)]; exact h1⟩
   obtain ⟨⟨i', k⟩, hx, rfl⟩ := List.mem_map.1 hm
   obtain ⟨L1, L2, rfl⟩ := List.append_of_mem hx
   have hsw := inv.swap hi
   have inv' := inv.step hi
   have hn' : (L1 ++ L2).length = n := by simp only [List.length_append, List.length_cons] at hn ⊢; omega
   have hall := fun x (hx : x ∈ L1) => (List.pairwise_append.1 inv.pairs).2.2 x hx (i', k) (by simp)
   have hL2 := (List.pairwise_cons.1 (List.pairwise_append.1 inv.pairs).2.1).1
   have hpass : (∃ x ∈ L1 ++ L2, x.2 = 0) → S w := fun ⟨x, hx, hx0⟩ => hS ⟨x, by simp only [List.mem_append, List.mem_cons] at hx ⊢; exact hx.imp id .inr, hx0⟩
   have go : wpOp P ops Q i' (fun a' w' => ((∃ x ∈ L1 ++ L2, x.2 = 0) → S w') ∧ wpText P ops Q S (L1 ++ L2) a' w') a w := by
    match k, hsw, h, hL2, hS with
    | 0, hsw, h, _, hS =>
     obtain ⟨v, y0, hr⟩ := front_still i' 0 (by omega) oi hoi hsel w L1 L2 a hsw h
     exact (y0.1 rfl).wpOp hoi (hS ⟨(i', 0), by simp, rfl⟩) ⟨hpass, hr⟩
    | 1, hsw, h, _, _ =>
     obtain ⟨v, y1, hr⟩ := front_still i' 1 (by omega) oi hoi hsel w L1 L2 a hsw h
     exact wpOp_of_yieldsAt hoi (y1.2.1 rfl) ⟨hpass, hr⟩
    | 2, hsw, h, _, _ => exact wpOp_mono (fun a' w' h' => ⟨fun _ => h'.1, h'.2⟩) (front_eff i' oi hoi hsel hQ w L1 L2 a hsw h)
    | 3, hsw, h, hL2, _ =>
     refine wpOp_mono (fun a' w' h' => ⟨fun ⟨x, hx, hx0⟩ => ?_, h'⟩) (front_last i' oi hoi hsel hQ w L1 L2 a hsw h)
     exfalso
     rcases List.mem_append.1 hx with hx | hx
     ·
      have := (hsw x hx).1
      rw [hx0] at this
      simp [swapB] at this
     ·
      have := hL2 x hx
      simp [pairB, hx0] at this
    | k + 4, hsw, h, _, _ =>
     obtain ⟨v, y1, hr⟩ := front_still i' (k + 4) (by omega) oi hoi hsel w L1 L2 a hsw h
     exact (y1.2.2 (by omega)).wpOp hoi ⟨hpass, hr⟩
   exact wpOp_mono (fun a' w' h' => wpAny_of_text hsel hQ n (L1 ++ L2) _ a' w' hn' inv' h'.1 h'.2) go

/-- THE RULE. -/
theorem wp_region_text {id : Nat} {a : Act} {w : World} (S : World → Prop) (L : List (Nat × Nat)) (hm : P.follows .mixedOrders = true) (hB : textB ops L = true)
  (hQ : ∀ c a w (d : Tmp) v, Q (.panic c) (a.put (some d) v) w → Q (.panic c) a w) (hS : S w.drew) (h : wpText P ops Q S L a w.drew) : (Code.region id ops true).wp P Q a w := by
 simp only [textB, Bool.and_eq_true, decide_eq_true_eq] at hB
 obtain ⟨⟨⟨⟨⟨h1, h2⟩, h3⟩, h4⟩, hlen⟩, h5⟩ := hB
 refine wp_region_any hm ?_
 refine wpAny_of_text (S := S) (Region.noSelect_spec h1) hQ ops.size L _ a _ hlen ⟨by simp, fun i => ?_, h4, fun j p hp hl => ?_, pairsB_spec h5, fun x hx p hp => ?_⟩ (fun _ => hS) h
 ·
  rw [getD_replicate_false]
  constructor
  ·
   intro hi
   obtain ⟨x, hx, rfl⟩ := List.mem_map.1 hi
   have := List.all_eq_true.1 h3 x hx
   simp only [Bool.and_eq_true, decide_eq_true_eq] at this
   exact ⟨this.1, rfl⟩
  ·
   rintro ⟨hi, _⟩
   have := List.all_eq_true.1 h2 i (List.mem_range.2 hi)
   simpa using this
 ·
  rw [getD_replicate_false] at hl; cases hl
 ·
  have := List.all_eq_true.1 h3 x hx
  simp only [Bool.and_eq_true] at this
  have h6 := List.all_eq_true.1 this.2 p hp
  simp only [Bool.and_eq_true, decide_eq_true_eq] at h6
  exact ⟨h6.1, by simpa using h6.2⟩

section steps
variable {a : Act} {w : World} {r : List (Nat × Nat)} {i : Nat}
theorem held {o : Oper} {v : Value} (ho : ops[i]? = some o) (hw : Region.wanted o (yielded ops a.tmps) = true) (hv : ∀ w, S w → (execOp a.eval o).run P w = .ok (.value v) w)
  (h : wpText P ops Q S r (a.put o.dst v) w) : wpText P ops Q S ((i, 0) :: r) a w := ⟨o, v, ho, .inl ⟨hw, hv⟩, h⟩
theorem pure {o : Oper} {v : Value} (ho : ops[i]? = some o) (hw : Region.wanted o (yielded ops a.tmps) = true) (hv : ∀ w, (execOp a.eval o).run P w = .ok (.value v) w)
  (h : wpText P ops Q S r (a.put o.dst v) w) : wpText P ops Q S ((i, 4) :: r) a w := ⟨o, v, ho, .inl ⟨hw, hv⟩, h⟩
theorem skip4 {o : Oper} (ho : ops[i]? = some o) (hw : Region.wanted o (yielded ops a.tmps) = false)
  (h : wpText P ops Q S r (a.put o.dst undef) w) : wpText P ops Q S ((i, 4) :: r) a w := ⟨o, undef, ho, .inr ⟨hw, rfl⟩, h⟩
theorem skip0 {o : Oper} (ho : ops[i]? = some o) (hw : Region.wanted o (yielded ops a.tmps) = false)
  (h : wpText P ops Q S r (a.put o.dst undef) w) : wpText P ops Q S ((i, 0) :: r) a w := ⟨o, undef, ho, .inr ⟨hw, rfl⟩, h⟩
theorem read {o : Oper} {v : Value} (ho : ops[i]? = some o) (hw : Region.wanted o (yielded ops a.tmps) = true) (hv : (execOp a.eval o).run P w = .ok (.value v) w)
  (h : wpText P ops Q S r (a.put o.dst v) w) : wpText P ops Q S ((i, 1) :: r) a w := ⟨o, v, ho, .inl ⟨hw, .inl hv⟩, h⟩
theorem skip1 {o : Oper} (ho : ops[i]? = some o) (hw : Region.wanted o (yielded ops a.tmps) = false)
  (h : wpText P ops Q S r (a.put o.dst undef) w) : wpText P ops Q S ((i, 1) :: r) a w := ⟨o, undef, ho, .inr ⟨hw, rfl⟩, h⟩
/-- No way out but the normal one. -/
def NoQ : Exit → Act → World → Prop := fun _ _ _ => False
theorem wp_of_noQ {o : Oper} {K : Act → World → Prop} (h : o.wp P a w K NoQ) : o.wp P a w K Q := by
 unfold Oper.wp at *
 generalize (execOp a.eval o).run P w = r at *
 cases r with
 | ok n w' =>
  cases n <;> simp only [Oper.upon] at h ⊢ <;>
   first
    | exact h
    | exact Calls.mono h (fun e w'' he => by cases e <;> first | exact he | exact he.elim | (obtain ⟨_, _, hf⟩ := he; exact hf.elim))
 | halt x w' => cases x <;> simp only [Oper.upon] at h ⊢ <;> exact h.elim
theorem eff {o : Oper} (ho : ops[i]? = some o) (hg : o.guard = none) (h : ∀ K : Act → World → Prop, (∀ a w, S w → wpText P ops Q S r a w → K a w) → o.wp P a w K NoQ) : wpText P ops Q S ((i, 2) :: r) a w := by
 show wpOp P ops Q i (fun a' w' => S w' ∧ wpText P ops Q S r a' w') a w
 unfold wpOp
 simp only [ho]
 rw [if_pos (by simp [Region.wanted, hg])]
 exact .inl (wp_of_noQ (h _ fun _ _ h1 h2 => ⟨h1, h2⟩))
theorem last {o : Oper} (ho : ops[i]? = some o) (hg : o.guard = none) (h : ∀ K : Act → World → Prop, (∀ a w, wpText P ops Q S r a w → K a w) → o.wp P a w K NoQ) : wpText P ops Q S ((i, 3) :: r) a w := by
 show wpOp P ops Q i (fun a' w' => wpText P ops Q S r a' w') a w
 unfold wpOp
 simp only [ho]
 rw [if_pos (by simp [Region.wanted, hg])]
 exact .inl (wp_of_noQ (h _ fun _ _ h2 => h2))
theorem purek {o : Oper} (ho : ops[i]? = some o) (hw : Region.wanted o (yielded ops a.tmps) = true)
  (h : ∀ K : Act → Prop, (∀ a, wpText P ops Q S r a w → K a) → ∃ v, (∀ w, (execOp a.eval o).run P w = .ok (.value v) w) ∧ K (a.put o.dst v)) : wpText P ops Q S ((i, 4) :: r) a w := by
 obtain ⟨v, h1, h2⟩ := h _ (fun _ h => h)
 exact pure ho hw h1 h2
theorem heldk {o : Oper} (ho : ops[i]? = some o) (hw : Region.wanted o (yielded ops a.tmps) = true)
  (h : ∀ K : Act → Prop, (∀ a, wpText P ops Q S r a w → K a) → ∃ v, (∀ w, S w → (execOp a.eval o).run P w = .ok (.value v) w) ∧ K (a.put o.dst v)) : wpText P ops Q S ((i, 0) :: r) a w := by
 obtain ⟨v, h1, h2⟩ := h _ (fun _ h => h)
 exact held ho hw h1 h2
theorem readk {o : Oper} (ho : ops[i]? = some o) (hw : Region.wanted o (yielded ops a.tmps) = true)
  (h : ∀ K : Act → Prop, (∀ a, wpText P ops Q S r a w → K a) → ∃ v, (execOp a.eval o).run P w = .ok (.value v) w ∧ K (a.put o.dst v)) : wpText P ops Q S ((i, 1) :: r) a w := by
 obtain ⟨v, h1, h2⟩ := h _ (fun _ h => h)
 exact read ho hw h1 h2
theorem skipk {o : Oper} {k : Nat} (hk : k = 0 ∨ k = 1 ∨ k = 4) (ho : ops[i]? = some o) (hw : Region.wanted o (yielded ops a.tmps) = false)
  (h : ∀ K : Act → Prop, (∀ a, wpText P ops Q S r a w → K a) → K (a.put o.dst undef)) : wpText P ops Q S ((i, k) :: r) a w := by
 have h2 := h _ (fun _ h => h)
 rcases hk with rfl | rfl | rfl
 ·
  exact skip0 ho hw h2
 ·
  exact skip1 ho hw h2
 ·
  exact skip4 ho hw h2
theorem done (h : Q .normal a w) : wpText P ops Q S [] a w := h
end steps
attribute [irreducible] wpText
end Text
end Go.Proofs.YtklfficlegfhjaaGreat
/- A guarded effect in a text whose guard is met. -/
namespace Go.Proofs.YtklfficlegfhjaaGreat
open Go
namespace Text
variable {P : Program} {ops : Array Oper} {Q : Exit → Act → World → Prop} {S : World → Prop} {a : Act} {w : World} {r : List (Nat × Nat)} {i : Nat}
theorem effw {o : Oper} (ho : ops[i]? = some o) (hw : Region.wanted o (yielded ops a.tmps) = true) (h : ∀ K : Act → World → Prop, (∀ a w, S w → wpText P ops Q S r a w → K a w) → o.wp P a w K NoQ) : wpText P ops Q S ((i, 2) :: r) a w := by
 have key : wpOp P ops Q i (fun a' w' => S w' ∧ wpText P ops Q S r a' w') a w := by
  unfold wpOp
  simp only [ho]
  rw [if_pos hw]
  exact .inl (wp_of_noQ (h _ fun _ _ h1 h2 => ⟨h1, h2⟩))
 with_unfolding_all exact key
end Text
end Go.Proofs.YtklfficlegfhjaaGreat
/- Rows, lists of strings: what speaks of no chapter. -/
namespace Go.Proofs.YtklfficlegfhjaaGreat
open Go Go.RowKit Gf Sha

section
variable {P : Program} {w : World} {o : Oper} {a : Act} {Q : Exit → Act → World → Prop} {K : Act → World → Prop}
theorem exec_loadv (t : TypeId) (x : Operand) (hop : o.op = .load t x) (n : Nat) (ht : Agg P t n = true) (g p : Nat) (ms : List Value) (hx : a.eval x = .pointer (some ⟨g, p, none⟩))
  (hm : At w g p ms) (hn : ms.length = n) : (execOp a.eval o).run P w = .ok (.value (.agg ms.toArray)) w := by
 unfold execOp
 simp only [hop, hx]
 simp [run_loadAt w ht hm hn, Result.andThen]
theorem wp_alloc (t : TypeId) (hop : o.op = .alloc t) (l : List Value) (hz : (P.info? t).map (·.zero) = some (some (.agg l.toArray)))
  (h : ∀ w', BL w' w.heap.size t l → Below w.heap.size w w' → w'.heap.size = w.heap.size + 1 → K (a.put o.dst (.pointer (some ⟨w.heap.size, 0, none⟩))) w') : o.wp P a w K Q := by
 cases hi : P.info? t with
 | none => simp [hi] at hz
 | some i =>
  have hz' : i.zero = some (.agg l.toArray) := by simpa [hi] using hz
  unfold Oper.wp execOp
  simp only [hop]
  simp [Instr.alloc, zeroValue, typeInfo, hi, hz', newVar, newRow, Value.cells, Result.andThen]
  exact h _ (BL.new w t l) ((Below.refl _ _).alloc (Nat.le_refl _) _) (by simp)
/-- A store of one cell into a block known whole. -/
theorem wpList_store1 (w : World) {ops : Array Oper} {rest : List Oper} (hg : o.guard = none) (t : TypeId) (x y : Operand) (hop : o.op = .store t x y) (hs : (sizeOf t).run P w = .ok 1 w) (g p : Nat) (te : TypeId) (l : List Value) (u : Value) (hx : a.eval x = .pointer (some ⟨g, p, none⟩)) (hy : a.eval y = u)
  (hb : BL w g te l) (hu : u.cells = #[u]) (h1 : u.oneCell' = true) (hp : p < l.length)
  (h : ∀ w', BL w' g te (l.set p u) → Kp (· = g) w w' → w'.heap.size = w.heap.size → wpList P ops Q rest (a.put o.dst undef) w') : wpList P ops Q (o :: rest) a w :=
 wpList_plain hg fun K hK => by
  obtain ⟨w', hr, hb', hk, hz⟩ := run_storeCells (P := P) [u] (by simpa using h1) p 1 0 l w rfl hb (by simp; omega)
  have e : l.take (p + 0) ++ [u].drop 0 ++ l.drop (p + [u].length) = l.set p u := by
   rw [List.set_eq_take_append_cons_drop, if_pos hp]
   simp
  rw [e] at hb'
  rw [List.drop_zero] at hr
  unfold Oper.wp execOp
  simp only [hop, hx, hy]
  simp [Instr.storeAt, Instr.sureAddr, storeVar, Sem.run_bind, hs, hu, hr, Result.andThen]
  exact hK _ _ (h w' hb' hk hz)
end

section
variable {w w' : World}
theorem BL.ty {g : Nat} {t t' : TypeId} {l l' : List Value} (h : BL w g t l) (h' : BL w g t' l') : t = t' := by
 have := h.symm.trans h'
 cases this; rfl
theorem RW.ty {te : TypeId} {n m : Nat} {v : Value} {l : List Value} (h : RW w te m v n l) {b : Nat} (hb : v.ownBlock = some b) : ∃ cs, BL w b te cs := by
 rcases h.2 with ⟨rfl, _⟩ | ⟨g, o, c, cs, rfl, hb', r⟩
 ·
  cases hb
 ·
  cases hb; exact ⟨cs, hb'⟩
end
theorem RW.of_own {w : World} {base : Nat} {te : TypeId} {s : Nat} {v : Value} {n : Nat} {l : List Value} (h : w.ownsRow base te s v n l) : RW w te s v n l ∧ ∀ b, v.ownBlock = some b → base ≤ b := by
 rcases h.2 with ⟨rfl, h0⟩ | ⟨g, cap, cur, rfl, h1, h2, h3, h4, h5, h6⟩
 ·
  exact ⟨⟨h.1, .inl ⟨rfl, h0⟩⟩, fun b hb => by cases hb⟩
 ·
  exact ⟨⟨h.1, .inr ⟨g, 0, cap, cur.toList, rfl, h2, h3, h4, by rw [Array.length_toList, h5]; omega, by rw [List.drop_zero]; exact h6⟩⟩, fun b hb => by cases hb; exact h1⟩
theorem At.elem {α : Type} {f : α → List Value} {s : Nat} (hf : ∀ x, (f x).length = s) {w : World} {g o : Nat} {l : List α} (h : At w g o (l.flatMap f)) {k : Nat} (hk : k < l.length) : At w g (o + k * s) (f l[k]) := by
 intro j v hj
 have hjl := (List.getElem?_eq_some_iff.1 hj).1
 have e := flat_split (f := f) l k hk
 have h1 : ((l.take k).flatMap f).length = k * s := by rw [flat_length hf, List.length_take, Nat.min_eq_left (by omega)]
 rw [Nat.add_assoc]
 refine h _ _ ?_
 rw [e, List.append_assoc, List.getElem?_append_right (by omega), h1, Nat.add_sub_cancel_left, List.getElem?_append_left hjl]
 exact hj
section
variable {w : World} {o : Oper} {a : Act} {Q : Exit → Act → World → Prop} {K : Act → World → Prop}
theorem wp_bslice {P : Program} (t te : TypeId) (n : Nat) (parts : Array (Nat × Operand)) (hop : o.op = .buildSlice t n parts) (ps : Array (Nat × Value)) (hps : (parts.map fun (i, x) => (i, a.eval x)) = ps) (l : List Value)
  (hr : (Instr.buildSlice t n ps).run P w = .ok (.slice (some ⟨w.heap.size, 0, none⟩) n n) (w.alloc (.cells l.toArray te)))
  (h : ∀ w', BL w' w.heap.size te l → Below w.heap.size w w' → w'.heap.size = w.heap.size + 1 → K (a.put o.dst (.slice (some ⟨w.heap.size, 0, none⟩) n n)) w') : o.wp P a w K Q := by
 unfold Oper.wp execOp
 simp only [hop, hps]
 simp [hr, Result.andThen]
 exact h _ (BL.new w te l) ((Below.refl _ _).alloc (Nat.le_refl _) _) (by simp)
end
section
variable {P : Program} (w : World) {o : Oper} {a : Act} {Q : Exit → Act → World → Prop} {K : Act → World → Prop}
theorem wp_appRW (sl x : Operand) (t te : TypeId) (s : Nat) (i : TypeInfo) (z : Value) (hop : o.op = .call { callee := .builtin .append, args := #[sl, x], argTypes := #[t, t] })
  (ht : P.underlying t = some (.slice te)) (hi : P.info? te = some i) (hz : i.zero = some z) (hs : i.size = s) (hzs : z.cells.size = s) (v : Value) (n : Nat) (l : List Value) (hv : a.eval sl = v) (h : RW w te s v n l)
  (g : Nat) (xs : List Value) (hx : a.eval x = .slice (some ⟨g, 0, none⟩) 1 1) (hbl : BL w g te xs) (hxl : xs.length = s) (h1 : ∀ u ∈ xs, u.oneCell' = true) (hb : (n + 1) * i.bytes ≤ 140737488355328) (hn : n + 1 ≤ 140737488355328)
  (hK : ∀ v' w', AppR w te s v n 1 l xs v' w' → K (a.put o.dst v') w') : o.wp P a w K Q := by
 have hrow : RW w te s (.slice (some ⟨g, 0, none⟩) 1 1) 1 xs := RW.of_blk hbl (by omega) (by decide)
 have hsrc : Src P s t (.slice (some ⟨g, 0, none⟩) 1 1) 1 xs w := ⟨.inl ⟨_, ht⟩, fun _ => rfl, hrow.firstCells, RW.firstCells hrow.drew, by omega, h1⟩
 obtain ⟨v', w', hr, h2⟩ := run_appRW (rt := o.type) ht hi hz hs hzs h hsrc (by decide) hb hn
 unfold Oper.wp execOp
 simp only [hop, resolve, invoke, builtin, Sem.run_bind, Sem.run_pure, Result.andThen_ok, List.map_toArray, List.map_cons, List.map_nil, hv, hx, hr]
 exact hK _ _ h2
end
/-- Bytes of the call's own. -/
def OwnB (w : World) (base : Nat) (v : Value) (n : Nat) (x : List UInt8) : Prop := RW w 5 1 v n (x.map B) ∧ ∀ b, v.ownBlock = some b → base ≤ b
theorem OwnB.kept {w w' : World} {base n : Nat} {v : Value} {x : List UInt8} (h : OwnB w base v n x) (hb : Below w.heap.size w w') : OwnB w' base v n x := ⟨h.1.kept hb, h.2⟩
/-- v holds the list L; whatever turns in v's own block, the parts read on. -/
def OLn {α : Type} (R : Rdg α) (s : Nat) (te : TypeId) (base : Nat) (w : World) (v : Value) (L : List α) : Prop :=
 ∃ css : List (List Value), css.length = L.length ∧ (∀ cs ∈ css, cs.length = s) ∧ (∀ w', Kp (fun b => v.ownBlock = some b) w w' → ∀ k (h : k < L.length) (h' : k < css.length), R w' css[k] L[k]) ∧ RW w te s v L.length css.flatten ∧ ∀ b, v.ownBlock = some b → base ≤ b
section
variable {α : Type} {R : Rdg α} {s base : Nat} {te : TypeId} {w w' : World} {v v' : Value} {L : List α}
theorem OLn.nil' {g : Nat} (R : Rdg α) (s : Nat) (h : BL w g te []) (hg : base ≤ g) : OLn R s te base w (.slice (some ⟨g, 0, none⟩) 0 0) [] :=
 ⟨[], rfl, (fun _ h => by cases h), (fun _ _ k h => absurd h (by simp)), RW.of_blk h (by simp) (by decide), (fun b hb => by cases hb; exact hg)⟩
theorem Kp.before {S : Nat → Prop} {w w1 w2 : World} (h : Below w.heap.size w w1) (k : Kp S w1 w2) : Kp S w w2 := (Kp.of_below h).trans k
theorem OLn.kept (h : OLn R s te base w v L) (hb : Below w.heap.size w w') : OLn R s te base w' v L :=
 let ⟨css, h1, h2, h3, h4, h5⟩ := h; ⟨css, h1, h2, fun w'' hk => h3 w'' (Kp.before hb hk), h4.kept hb, h5⟩
theorem OLn.push {n : Nat} {css : List (List Value)} (hl : css.length = L.length) (h2 : ∀ cs ∈ css, cs.length = s) (h3 : ∀ w', Kp (fun b => v.ownBlock = some b) w w' → ∀ k (h : k < L.length) (h' : k < css.length), R w' css[k] L[k]) (h5 : ∀ b, v.ownBlock = some b → base ≤ b) (hn : L.length = n)
  {x : α} {xs : List Value} (hxs : xs.length = s) (hx : ∀ w', Kp (fun b => v.ownBlock = some b) w w' → R w' xs x) (hw : base ≤ w.heap.size) (ap : AppR w te s v n 1 css.flatten xs v' w') : OLn R s te base w' v' (L ++ [x]) := by
 have hk : ∀ w'', Kp (fun b => v'.ownBlock = some b) w' w'' → Kp (fun b => v.ownBlock = some b) w w'' := fun w'' h => ap.kp.after h (fun i hi e => (ap.own i e).elim id (fun h => absurd h (by omega)))
 refine ⟨css ++ [xs], by simp [hl], fun cs hcs => ?_, fun w'' hk'' k hk1 hk2 => ?_, ?_, fun b hb => (ap.own b hb).elim (h5 b) (fun h => Nat.le_trans hw h)⟩
 ·
  rcases List.mem_append.1 hcs with h | h
  ·
   exact h2 cs h
  ·
   rw [List.mem_singleton.1 h]; exact hxs
 ·
  by_cases hlt : k < L.length
  ·
   rw [List.getElem_append_left (by omega), List.getElem_append_left hlt]; exact h3 w'' (hk w'' hk'') k hlt (by omega)
  ·
   have e : k = L.length := by simp at hk1; omega
   subst e
   rw [List.getElem_append_right (by omega), List.getElem_append_right (by omega)]
   simp only [hl, Nat.sub_self, List.getElem_cons_zero]
   exact hx w'' (hk w'' hk'')
 ·
  have := ap.row
  rw [List.flatten_append, List.flatten_cons, List.flatten_nil, List.append_nil, List.length_append, hn]
  exact this
theorem OLn.ls {b : Nat} (h : OLn R s te base w v L) (hl : L.length * b ≤ lim) : ∃ A c, v = .slice A L.length c ∧ LS R s b w A L.length c L := by
 obtain ⟨css, h1, h2, h3, h4, h5⟩ := h
 obtain ⟨A, c, rfl, hc⟩ := h4.form
 refine ⟨A, c, rfl, rfl, hc, hl, fun k hk => ?_⟩
 obtain ⟨g, o, c', e, _, hat⟩ := h4.at_ (by omega)
 cases e
 have hk' : k < css.length := by omega
 exact ⟨g, o, css[k], rfl, at_flatten h2 hat hk', h3 w (Kp.refl _ _) k hk hk'⟩
end

/-- Block g holds the first of n elements, zeros behind them; whatever turns in it, the parts read on. -/
def BLn {α : Type} (R : Rdg α) (s : Nat) (te : TypeId) (z : List Value) (n : Nat) (w : World) (g : Nat) (L : List α) : Prop :=
 ∃ css : List (List Value), css.length = L.length ∧ (∀ cs ∈ css, cs.length = s) ∧ (∀ w', Kp (· = g) w w' → ∀ k (h : k < L.length) (h' : k < css.length), R w' css[k] L[k]) ∧ L.length ≤ n ∧ BL w g te (css.flatten ++ (List.replicate (n - L.length) ()).flatMap fun _ => z)
section
variable {α : Type} {R : Rdg α} {s n g : Nat} {te : TypeId} {z : List Value} {w w' : World} {L : List α}
theorem BLn.nil (R : Rdg α) (s : Nat) (h : BL w g te ((List.replicate n ()).flatMap fun _ => z)) : BLn R s te z n w g [] :=
 ⟨[], rfl, (fun _ h => by cases h), (fun _ _ k h => absurd h (by simp)), Nat.zero_le _, by simpa using h⟩
theorem BLn.kept (h : BLn R s te z n w g L) (hb : Below w.heap.size w w') : BLn R s te z n w' g L :=
 let ⟨css, h1, h2, h3, h4, h5⟩ := h; ⟨css, h1, h2, fun w'' hk => h3 w'' (Kp.before hb hk), h4, h5.kept hb⟩
theorem BLn.blk (h : BLn R s te z n w g L) (hz : z.length = s) : ∃ l, BL w g te l ∧ l.length = n * s := by
 obtain ⟨css, h1, h2, h3, h4, h5⟩ := h
 refine ⟨_, h5, ?_⟩
 rw [List.length_append, flatten_len h2, flat_length (s := s) (fun _ => hz), List.length_replicate, h1, ← Nat.add_mul]
 congr 1; omega
/-- One more laid. -/
theorem BLn.put {x : α} {xs : List Value} (h : BLn R s te z n w g L) (hz : z.length = s) (hlt : L.length < n) (hxs : xs.length = s) (hx : ∀ w', Kp (· = g) w w' → R w' xs x) {l : List Value} (hl : BL w g te l)
  (hw : BL w' g te (splice l (L.length * s) xs)) (hk : Kp (· = g) w w') : BLn R s te z n w' g (L ++ [x]) := by
 obtain ⟨css, h1, h2, h3, h4, h5⟩ := h
 have e : l = css.flatten ++ (List.replicate (n - L.length) ()).flatMap fun _ => z := by
  have := hl.symm.trans h5
  injection this with this
  injection this with this
  have := congrArg Array.toList this
  simpa using this
 subst e
 obtain ⟨j, hj⟩ : ∃ j, n - L.length = j + 1 := ⟨n - L.length - 1, by omega⟩
 refine ⟨css ++ [xs], by simp [h1], fun cs hcs => ?_, fun w'' hk'' k hk1 hk2 => ?_, by simp; omega, ?_⟩
 ·
  rcases List.mem_append.1 hcs with h | h
  ·
   exact h2 cs h
  ·
   rw [List.mem_singleton.1 h]; exact hxs
 ·
  by_cases hlt' : k < L.length
  ·
   rw [List.getElem_append_left (by omega), List.getElem_append_left hlt']; exact h3 w'' (hk.trans hk'') k hlt' (by omega)
  ·
   have e : k = L.length := by simp at hk1; omega
   subst e
   rw [List.getElem_append_right (by omega), List.getElem_append_right (by omega)]
   simp only [h1, Nat.sub_self, List.getElem_cons_zero]
   exact hx w'' (hk.trans hk'')
 ·
  rw [hj, List.replicate_succ, List.flatMap_cons, ← List.append_assoc, splice_mid _ _ _ _ _ (by rw [flatten_len h2, h1]) (by rw [hxs, hz])] at hw
  rw [List.flatten_append, List.flatten_cons, List.flatten_nil, List.append_nil, List.length_append, List.length_singleton, show n - (L.length + 1) = j by omega]
  exact hw
theorem BLn.ls {b : Nat} (h : BLn R s te z n w g L) (hl : L.length = n) (hb : n * b ≤ lim) : LS R s b w (some ⟨g, 0, none⟩) n n L := by
 obtain ⟨css, h1, h2, h3, h4, h5⟩ := h
 rw [hl, Nat.sub_self, List.replicate_zero, List.flatMap_nil, List.append_nil] at h5
 refine ⟨hl, Nat.le_refl _, hb, fun k hk => ?_⟩
 have hk' : k < css.length := by omega
 refine ⟨g, 0, css[k], rfl, at_flatten h2 h5.all hk', h3 w (Kp.refl _ _) k hk hk'⟩
end

theorem TS.pre {w : World} {A : Option Addr} {n c : Nat} {m : List (List UInt8)} (h : TS w A n c m) {k : Nat} (hk : k ≤ n) : TS w A k c (m.take k) := by
 refine ⟨by rw [List.length_take, h.1]; omega, by have := h.2.1; omega, by have := h.2.2.1; omega, fun j hj => ?_⟩
 have h1 := h.2.2.2 j (by omega)
 have h2 : gR (m.take k) j = gR m j := by
  rw [gR_eq (by rw [List.length_take, h.1]; omega), gR_eq (by rw [h.1]; omega), List.getElem_take]
 show ∃ g o, A = some ⟨g, o, none⟩ ∧ w.cell? ⟨g, o + j, none⟩ = some (.string (strB (gR (m.take k) j)))
 rw [h2]
 exact h1
theorem TS.form {w : World} {A : Option Addr} {n c : Nat} {m : List (List UInt8)} (h : TS w A n c m) (hn : 0 < n) : ∃ g o, A = some ⟨g, o, none⟩ := by
 obtain ⟨g, o, e, _⟩ := h.2.2.2 0 hn
 exact ⟨g, o, e⟩
end Go.Proofs.YtklfficlegfhjaaGreat
/- Maps of the call's own read as functions that are total (the zero value where there is no entry); delete; m[k] += x. For any program. -/
namespace Go.Proofs.YtklfficlegfhjaaGreat
open Go Go.RowKit Go.ChangeMaps Go.MapKept Gf
open Go.Maps (Keyed)

/-- The list behind a delete. -/
inductive Dropped (L : List (Value × Value)) (x : Value) : List (Value × Value) → Prop
 | no (h : ∀ p ∈ L, p.1 ≠ x) : Dropped L x L
 | yes (i : Nat) (u : Value) (h : L[i]? = some (x, u)) : Dropped L x (L.eraseIdx i)
theorem map_eraseIdx' {α β : Type} (f : α → β) : ∀ (l : List α) (i : Nat), (l.eraseIdx i).map f = (l.map f).eraseIdx i
 | [], i => by simp
 | a :: l, 0 => by simp
 | a :: l, i + 1 => by simp [map_eraseIdx' f l i]
theorem stamped_erase' {es : Array MapEntry} {clock : Nat} (h : Stamped es clock) (j : Nat) : Stamped (es.eraseIdxIfInBounds j) clock := by
 by_cases hj : j < es.size
 ·
  have hsub : (es.eraseIdxIfInBounds j).toList = es.toList.eraseIdx j := by
   unfold Array.eraseIdxIfInBounds
   rw [dif_pos hj]
   simp
  obtain ⟨h1, h2, h3⟩ := h
  refine ⟨fun x hx => ?_, ?_, ?_⟩
  ·
   exact h1 x (by rw [hsub] at hx; exact (List.eraseIdx_sublist _ _).subset hx)
  ·
   rw [hsub, map_eraseIdx']; exact h2.sublist (List.eraseIdx_sublist _ _)
  ·
   rw [hsub, map_eraseIdx']; exact h3.sublist (List.eraseIdx_sublist _ _)
 ·
  have : es.eraseIdxIfInBounds j = es := by
   unfold Array.eraseIdxIfInBounds
   rw [dif_neg hj]
  rw [this]; exact h
section
variable {P : Program} {k : TypeId} {w w' : World} {b : Nat} {L : List (Value × Value)}
theorem MB.drop {t e : TypeId} (h : MB P k w b L) (K : Keyed P k) (ht : P.underlying t = some (.map k e)) {x : Value} {lx : Lit} (hx : keyOf P k x = some lx) (ty : TypeId) :
  ∃ w' L', Dropped L x L' ∧ (Builtin.delete_ #[t, k] ty #[.map (some b), x]).run P w = .ok (.tuple #[]) w' ∧ MB P k w' b L' ∧ Kp (· = b) w w' ∧ w'.heap.size = w.heap.size := by
 obtain ⟨es, clock, hb, hst, hk, rfl⟩ := h
 have kp : ∀ o, Kp (· = b) w (setBlock w b o) := fun o => ⟨rfl, rfl, rfl, by simp [setBlock], fun i _ hi => heap_setBlock_other hb o hi⟩
 rcases K.find w hx es.toList hk with ⟨f1, f2⟩ | ⟨j, e0, f1, f2, f3⟩
 ·
  refine ⟨setBlock w b (.map es clock), _, .no (by intro p hp; obtain ⟨y, hy, rfl⟩ := List.mem_map.1 hp; exact f2 y hy), ?_, ⟨_, _, heap_setBlock_same hb _, hst, hk, rfl⟩, kp _, by simp [setBlock]⟩
  simp [Builtin.delete_, run_underlying ht, MapKept.run_getObj_map hb, K.check w _ hx, f1, MapKept.run_setObj_map _ hb, Result.andThen, setBlock]
 ·
  have hjs : j < es.size := by have := (List.getElem?_eq_some_iff.1 f2).1; simpa using this
  have hsub : (es.eraseIdxIfInBounds j).toList = es.toList.eraseIdx j := by
   unfold Array.eraseIdxIfInBounds
   rw [dif_pos hjs]
   simp
  refine ⟨setBlock w b (.map (es.eraseIdxIfInBounds j) clock), _, .yes j e0.val (by rw [List.getElem?_map, f2]; simp [f3]), ?_, ⟨_, _, heap_setBlock_same hb _, stamped_erase' hst j, fun y hy => hk y (by rw [hsub] at hy; exact (List.eraseIdx_sublist _ _).subset hy), ?_⟩, kp _, by simp [setBlock]⟩
  ·
   simp [Builtin.delete_, run_underlying ht, MapKept.run_getObj_map hb, K.check w _ hx, f1, MapKept.run_setObj_map _ hb, Result.andThen, setBlock]
  ·
   rw [hsub, map_eraseIdx']
theorem findIdx_arr' (xs : Array MapEntry) (p : MapEntry → Bool) : xs.findIdx? p = xs.toList.findIdx? p := by
 cases xs
 simp
theorem findIdx_born' : ∀ {l : List MapEntry} {j : Nat} {e0 : MapEntry}, (l.map (·.born)).Nodup → l[j]? = some e0 → l.findIdx? (fun e => (e.born : Int) == (e0.born : Int)) = some j
 | [], j, e0, _, h => by simp at h
 | a :: l, 0, e0, _, h => by simp at h; subst h; rw [List.findIdx?_cons]; simp
 | a :: l, j + 1, e0, hn, h => by
  rw [List.map_cons, List.nodup_cons] at hn
  have h' : l[j]? = some e0 := by simpa using h
  have hne : ¬ a.born = e0.born := fun e => hn.1 (List.mem_map.2 ⟨e0, List.mem_of_getElem? h', e.symm⟩)
  rw [List.findIdx?_cons, if_neg (by simp; omega), findIdx_born' hn.2 h']
  rfl
theorem modify_set' {α : Type} (f : α → α) : ∀ (l : List α) (j : Nat) (a : α), l[j]? = some a → l.modify j f = l.set j (f a)
 | [], j, a, h => by simp at h
 | b :: r, 0, a, h => by simp at h; subst h; simp
 | b :: r, j + 1, a, h => by
  have h' : r[j]? = some a := by simpa using h
  simp [modify_set' f r j a h']
/-- m[k] op= v: the entry is there (laid with the zero value where there was none), then its value is stored. -/
theorem MB.entry {t e : TypeId} (h : MB P k w b L) (K : Keyed P k) (ht : P.underlying t = some (.map k e)) {z : Value} (hz : (P.info? e).map (·.zero) = some (some z)) {x : Value} {lx : Lit} (hx : keyOf P k x = some lx) :
  ∃ (v : Value) (st : Nat) (w1 : World) (L1 : List (Value × Value)), ((∃ i : Nat, L[i]? = some (x, v) ∧ L1 = L) ∨ ((∀ p ∈ L, p.1 ≠ x) ∧ v = z ∧ L1 = L ++ [(x, z)])) ∧ (Instr.mapEntry t (.map (some b)) x).run P w = .ok (.tuple #[v, .int .i64 (st : Int)]) w1 ∧
   MB P k w1 b L1 ∧ Kp (· = b) w w1 ∧ w1.heap.size = w.heap.size ∧
   ∀ (w2 : World) (val : Value), w2.heap[b]? = w1.heap[b]? → ∃ w3 L3, Stored L1 x val L3 ∧ (Instr.entryStore t (.map (some b)) (.int .i64 (st : Int)) val).run P w2 = .ok () w3 ∧ MB P k w3 b L3 ∧ Kp (· = b) w2 w3 ∧ w3.heap.size = w2.heap.size := by
 obtain ⟨es, clock, hb, hst, hk, rfl⟩ := h
 have hzv : (zeroValue e).run P w = .ok z w := by
  cases hi : P.info? e with
  | none => simp [hi] at hz
  | some i =>
   have hz' : i.zero = some z := by simpa [hi] using hz
   simp [zeroValue, typeInfo, hi, hz']
 have kp : ∀ o, Kp (· = b) w (setBlock w b o) := fun o => ⟨rfl, rfl, rfl, by simp [setBlock], fun i _ hi => heap_setBlock_other hb o hi⟩
 have store : ∀ (es1 : Array MapEntry) (c1 : Nat), Stamped es1 c1 → (∀ x ∈ es1.toList, ∃ l, keyOf P k x.key = some l) → ∀ (j : Nat) (e1 : MapEntry), es1.toList[j]? = some e1 → e1.key = x → ∀ (w2 : World) (val : Value), w2.heap[b]? = some (.map es1 c1) →
   ∃ w3 L3, Stored (es1.toList.map fun e => (e.key, e.val)) x val L3 ∧ (Instr.entryStore t (.map (some b)) (.int .i64 (e1.born : Int)) val).run P w2 = .ok () w3 ∧ MB P k w3 b L3 ∧ Kp (· = b) w2 w3 ∧ w3.heap.size = w2.heap.size := by
  intro es1 c1 h1 h2 j e1 hj he w2 val hw2
  have hj' : es1[j]? = some e1 := by simpa using hj
  have hidx : es1.findIdx? (fun e => ((e.born : Nat) : Int) == ((e1.born : Nat) : Int)) = some j := by
   rw [findIdx_arr']
   exact findIdx_born' h1.2.1 hj
  have hrow : (es1.modify j fun e => { e with val := val }).toList = es1.toList.set j { e1 with val := val } := by rw [Array.toList_modify, modify_set' _ _ _ _ hj]
  refine ⟨setBlock w2 b (.map (es1.modify j fun e => { e with val := val }) c1), _, .old j e1.val (by rw [List.getElem?_map, hj]; simp [he]), ?_, ⟨_, _, heap_setBlock_same hw2 _, stamped_modify h1 j _ (fun _ _ => rfl) (fun y _ _ => rfl), ?_, ?_⟩, ⟨rfl, rfl, rfl, by simp [setBlock], fun i _ hi => heap_setBlock_other hw2 _ hi⟩, by simp [setBlock]⟩
  ·
   simp [Instr.entryStore, MapKept.run_getObj_map hw2, asInt, asIntOf, hidx, MapKept.run_setObj_map _ hw2, Result.andThen, setBlock]
  ·
   intro y hy
   rw [hrow] at hy
   rcases List.mem_or_eq_of_mem_set hy with hy | rfl
   ·
    exact h2 y hy
   ·
    exact h2 e1 (List.mem_of_getElem? hj)
  ·
   rw [hrow, List.map_set, ← he]
 rcases K.find w hx es.toList hk with ⟨f1, f2⟩ | ⟨j, e0, f1, f2, f3⟩
 ·
  have hst' := stamped_push (key := x) (val := z) hst (fun y hy => f2 y hy)
  have hk' : ∀ y ∈ (es.push { key := x, val := z, born := clock }).toList, ∃ l, keyOf P k y.key = some l := by
   intro y hy
   simp only [Array.toList_push, List.mem_append, List.mem_singleton] at hy
   rcases hy with hy | rfl
   ·
    exact hk y hy
   ·
    exact ⟨lx, hx⟩
  refine ⟨z, clock, setBlock w b (.map (es.push { key := x, val := z, born := clock }) (clock + 1)), _, .inr ⟨by intro p hp; obtain ⟨y, hy, rfl⟩ := List.mem_map.1 hp; exact f2 y hy, rfl, rfl⟩, ?_, ⟨_, _, heap_setBlock_same hb _, hst', hk', by simp⟩, kp _, by simp [setBlock], fun w2 val hw2 => ?_⟩
  ·
   simp [Instr.mapEntry, run_underlying ht, MapKept.run_getObj_map hb, K.check w _ hx, f1, hzv, MapKept.run_setObj_map _ hb, Result.andThen, setBlock, goInt]
  ·
   have h9 := store _ _ hst' hk' es.size ⟨x, z, clock⟩ (by simp) rfl w2 val (by rw [hw2]; exact heap_setBlock_same hb _)
   simpa using h9
 ·
  have f2' : es[j]? = some e0 := by simpa using f2
  have hsame : es.modify j (fun e => { e with key := x }) = es := by
   apply Array.ext'
   rw [Array.toList_modify, modify_set' _ _ _ _ f2]
   have : ({ e0 with key := x } : MapEntry) = e0 := by rw [← f3]
   rw [this]
   exact List.ext_getElem? (fun i => by
    rw [List.getElem?_set]
    by_cases hij : j = i
    ·
     subst hij
     have hjs := (List.getElem?_eq_some_iff.1 f2).1
     rw [if_pos rfl, if_pos hjs, f2]
    ·
     rw [if_neg hij])
  have hkey : ((es[j]?.map (·.key)).getD x) = x := by rw [f2']; simp [f3]
  have hborn : ((es[j]?.map (fun x => (x.born : Int))).getD 0) = (e0.born : Int) := by rw [f2']; simp
  refine ⟨e0.val, e0.born, setBlock w b (.map es clock), _, .inl ⟨j, by rw [List.getElem?_map, f2]; simp [f3], rfl⟩, ?_, ⟨_, _, heap_setBlock_same hb _, hst, hk, rfl⟩, kp _, by simp [setBlock], fun w2 val hw2 => store es clock hst hk j e0 f2 f3 w2 val (by rw [hw2]; exact heap_setBlock_same hb _)⟩
  simp only [Instr.mapEntry, Sem.run_bind, run_underlying ht, MapKept.run_getObj_map hb, K.check w _ hx, f1, Result.andThen_ok, hkey, hborn, K.stays w hx, hsame, MapKept.run_setObj_map _ hb]
  rfl
end

/-- Block b is a map in which the key enc x reads as g x: z where there is no entry. -/
def MG {κ : Type} (P : Program) (k : TypeId) (enc : κ → Value) (z : Value) (w : World) (b : Nat) (g : κ → Value) : Prop :=
 ∃ f, MF P k enc w b f ∧ ∀ x, (f x).getD z = g x
section
variable {κ : Type} {P : Program} {k : TypeId} {enc : κ → Value} {z : Value} {w w' : World} {b : Nat} {g : κ → Value} {f : κ → Option Value}
theorem MG.lt (h : MG P k enc z w b g) : b < w.heap.size := let ⟨_, h1, _⟩ := h; h1.lt
theorem MG.kept (h : MG P k enc z w b g) (hb : Below w.heap.size w w') : MG P k enc z w' b g := let ⟨f, h1, h2⟩ := h; ⟨f, h1.kept hb, h2⟩
theorem MG.kp {S : Nat → Prop} (h : MG P k enc z w b g) (hb : Kp S w w') (hn : ¬ S b) : MG P k enc z w' b g := let ⟨f, h1, h2⟩ := h; ⟨f, h1.kp hb hn, h2⟩
theorem MG.new (h : MF P k enc w b (fun _ => none)) : MG P k enc z w b (fun _ => z) := ⟨_, h, fun _ => rfl⟩
theorem MG.to (h : MG P k enc z w b g) {g' : κ → Value} (e : ∀ x, g x = g' x) : MG P k enc z w b g' := by
 obtain ⟨f, h1, h2⟩ := h
 exact ⟨f, h1, fun x => by rw [h2, e]⟩
theorem MF.to (h : MF P k enc w b f) {f' : κ → Option Value} (e : ∀ x, f x = f' x) : MF P k enc w b f' := by
 obtain ⟨L, h1, h2, h3⟩ := h
 exact ⟨L, h1, fun x v => by rw [h2, e], h3⟩
theorem MG.stored [DecidableEq κ] (hinj : ∀ x y, enc x = enc y → x = y) {L L' : List (Value × Value)} (hn : (L.map (·.1)).Nodup) (h2 : ∀ x v, (enc x, v) ∈ L ↔ f x = some v) (h3 : ∀ p ∈ L, ∃ x, p.1 = enc x) (hg : ∀ x, (f x).getD z = g x) {x : κ} {v : Value} (h : Stored L (enc x) v L') {w' : World} (hm : MB P k w' b L') :
  MG P k enc z w' b (fun y => if y = x then v else g y) := by
 obtain ⟨r1, r2⟩ := mf_stored hinj hn h2 h3 h
 refine ⟨fun y => if y = x then some v else f y, ⟨L', hm, r1, r2⟩, fun y => ?_⟩
 by_cases hy : y = x
 ·
  simp [hy]
 ·
  simp only [if_neg hy]; exact hg y
end

section
variable {κ : Type} {P : Program} (w : World) {ops : Array Oper} {rest : List Oper} {o : Oper} {a : Act} {Q : Exit → Act → World → Prop} {enc : κ → Value} {K' : Act → World → Prop}
theorem wpList_makeG (hg : o.guard = none) (t k : TypeId) (hop : o.op = .makeMap t none) (z : Value)
  (h : ∀ w', MG P k enc z w' w.heap.size (fun _ => z) → Below w.heap.size w w' → w'.heap.size = w.heap.size + 1 → wpList P ops Q rest (a.put o.dst (.map (some w.heap.size))) w') : wpList P ops Q (o :: rest) a w :=
 wpList_makeMap w hg t k hop (fun w' h1 => h w' (MG.new (MF.new h1)))
theorem wp_lookG (m x : Operand) (t k e : TypeId) (hop : o.op = .lookup t m x false) (K : Keyed P k) (ht : P.underlying t = some (.map k e)) (z : Value) (hz : (P.info? e).map (·.zero) = some (some z))
  (b : Nat) (g : κ → Value) (hm : a.eval m = .map (some b)) (hb : MG P k enc z w b g) (xv : κ) (hx : a.eval x = enc xv) (hk : ∃ lx, keyOf P k (enc xv) = some lx)
  (h : K' (a.put o.dst (g xv)) w) : o.wp P a w K' Q := by
 obtain ⟨f, ⟨L, h1, h2, _⟩, h4⟩ := hb
 obtain ⟨lx, hlx⟩ := hk
 obtain ⟨v, fl, hf, hr⟩ := h1.look K ht hz hlx false
 have e1 := (mf_found h2 hf).1
 rw [h4] at e1
 unfold Oper.wp execOp
 simp only [hop, hm, hx]
 simp [hr, Result.andThen]
 rw [e1]; exact h
theorem wpList_lookG (hg : o.guard = none) (m x : Operand) (t k e : TypeId) (hop : o.op = .lookup t m x false) (K : Keyed P k) (ht : P.underlying t = some (.map k e)) (z : Value) (hz : (P.info? e).map (·.zero) = some (some z))
  (b : Nat) (g : κ → Value) (hm : a.eval m = .map (some b)) (hb : MG P k enc z w b g) (xv : κ) (hx : a.eval x = enc xv) (hk : ∃ lx, keyOf P k (enc xv) = some lx)
  (h : wpList P ops Q rest (a.put o.dst (g xv)) w) : wpList P ops Q (o :: rest) a w :=
 wpList_plain hg fun _ hK' => wp_lookG w m x t k e hop K ht z hz b g hm hb xv hx hk (hK' _ _ h)
/-- A look-up whose guard holds. -/
theorem wpList_lookGg (hw : Region.wanted o (yielded ops a.tmps) = true) (m x : Operand) (t k e : TypeId) (hop : o.op = .lookup t m x false) (K : Keyed P k) (ht : P.underlying t = some (.map k e)) (z : Value) (hz : (P.info? e).map (·.zero) = some (some z))
  (b : Nat) (g : κ → Value) (hm : a.eval m = .map (some b)) (hb : MG P k enc z w b g) (xv : κ) (hx : a.eval x = enc xv) (hk : ∃ lx, keyOf P k (enc xv) = some lx)
  (h : wpList P ops Q rest (a.put o.dst (g xv)) w) : wpList P ops Q (o :: rest) a w :=
 wpList_step fun _ hK' => by rw [if_pos hw]; exact wp_lookG w m x t k e hop K ht z hz b g hm hb xv hx hk (hK' _ _ h)
theorem exec_lookG (m x : Operand) (t k e : TypeId) (hop : o.op = .lookup t m x false) (K : Keyed P k) (ht : P.underlying t = some (.map k e)) (z : Value) (hz : (P.info? e).map (·.zero) = some (some z))
  (b : Nat) (g : κ → Value) (hm : a.eval m = .map (some b)) (hb : MG P k enc z w b g) (xv : κ) (hx : a.eval x = enc xv) (hk : ∃ lx, keyOf P k (enc xv) = some lx) :
  (execOp a.eval o).run P w = .ok (.value (g xv)) w := by
 obtain ⟨f, ⟨L, h1, h2, _⟩, h4⟩ := hb
 obtain ⟨lx, hlx⟩ := hk
 obtain ⟨v, fl, hf, hr⟩ := h1.look K ht hz hlx false
 have e1 := (mf_found h2 hf).1
 rw [h4] at e1
 unfold execOp
 simp only [hop, hm, hx]
 simp [hr, Result.andThen, e1]
variable [DecidableEq κ]
theorem wp_updG (hinj : ∀ x y, enc x = enc y → x = y) (m x v : Operand) (t k e : TypeId) (hop : o.op = .mapUpdate t m x v) (K : Keyed P k) (ht : P.underlying t = some (.map k e)) (z : Value)
  (b : Nat) (g : κ → Value) (hm : a.eval m = .map (some b)) (hb : MG P k enc z w b g) (xv : κ) (vv : Value) (hx : a.eval x = enc xv) (hv : a.eval v = vv) (hk : ∃ lx, keyOf P k (enc xv) = some lx)
  (h : ∀ w', MG P k enc z w' b (fun y => if y = xv then vv else g y) → Kp (· = b) w w' → w'.heap.size = w.heap.size → K' (a.put o.dst undef) w') : o.wp P a w K' Q := by
 obtain ⟨f, ⟨L, h1, h2, h3⟩, h4⟩ := hb
 obtain ⟨lx, hlx⟩ := hk
 obtain ⟨w', L', hs, hr, h5, h6, h7⟩ := h1.store K ht hlx vv
 unfold Oper.wp execOp
 simp only [hop, hm, hx, hv]
 simp [hr, Result.andThen]
 exact h w' (MG.stored hinj h1.nodup h2 h3 h4 hs h5) h6 h7
theorem wpList_updG (hinj : ∀ x y, enc x = enc y → x = y) (hg : o.guard = none) (m x v : Operand) (t k e : TypeId) (hop : o.op = .mapUpdate t m x v) (K : Keyed P k) (ht : P.underlying t = some (.map k e)) (z : Value)
  (b : Nat) (g : κ → Value) (hm : a.eval m = .map (some b)) (hb : MG P k enc z w b g) (xv : κ) (vv : Value) (hx : a.eval x = enc xv) (hv : a.eval v = vv) (hk : ∃ lx, keyOf P k (enc xv) = some lx)
  (h : ∀ w', MG P k enc z w' b (fun y => if y = xv then vv else g y) → Kp (· = b) w w' → w'.heap.size = w.heap.size → wpList P ops Q rest (a.put o.dst undef) w') : wpList P ops Q (o :: rest) a w :=
 wpList_plain hg fun _ hK' => wp_updG w hinj m x v t k e hop K ht z b g hm hb xv vv hx hv hk (fun w' h1 h2 h3 => hK' _ _ (h w' h1 h2 h3))
end
section
variable {P : Program} (w : World) {o : Oper} {a : Act} {Q : Exit → Act → World → Prop} {K' : Act → World → Prop}
end
end Go.Proofs.YtklfficlegfhjaaGreat
/- A region that draws its order, whose first operations (the bag) each only add to the world, in whatever order: each is told by a relation on its value that stays while nothing old turns. Behind the bag the rest is walked as a text. For any program. -/
namespace Go.Proofs.YtklfficlegfhjaaGreat
open Go Go.RowKit

namespace Text
variable {P : Program} {ops : Array Oper} {Q : Exit → Act → World → Prop} {S : World → Prop}

theorem least {p : Nat → Prop} [DecidablePred p] : ∀ (n : Nat), p n → ∃ m, p m ∧ ∀ k, k < m → ¬ p k := by
 intro n
 induction n using Nat.strongRecOn with
 | _ n ih =>
  intro hn
  by_cases h : ∃ k, k < n ∧ p k
  ·
   obtain ⟨k, h1, h2⟩ := h
   exact ih k h1 h2
  ·
   exact ⟨n, hn, fun k hk hp => h ⟨k, hk, hp⟩⟩

section
variable {a' : Act} {w' : World} {o : Oper} {K : Act → World → Prop}
/-- An operation of the bag that yields a value, its run told. -/
theorem bag_run {v : Value} {w'' : World} (hr : (execOp a'.eval o).run P w' = .ok (.value v) w'') (h : K (a'.put o.dst v) w'') : o.wp P a' w' K Q := by
 unfold Oper.wp
 rw [hr]
 exact h
end
end Text
end Go.Proofs.YtklfficlegfhjaaGreat
