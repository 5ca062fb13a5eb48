/- Several texts in one: Tx3. -/
import Derived.Test.YtheijpjfpaghfaaGreatDoorC4
/- A text that forks, with last effects behind which the held facts need not stay (turned from Text2 by mktx3.py). For any program. -/
namespace Go.Proofs.YtheijpjfpaghfaaGreatDoor
open Go

namespace TextL
open Text
variable {P : Program} {ops : Array Oper} {Q : Exit → Act → World → Prop} {S : World → Prop}

/-- A text that forks: operations that change nothing, an effect, or two effects of which either may come first. -/
inductive BT where
 | leaf : BT
 | still : Nat → Nat → BT → BT
 | eff : Nat → BT → BT
 | last : Nat → BT → BT
 | br : Nat → BT → Nat → BT → BT

/-- What is still to come, with its kind. -/
def BT.rem : BT → List (Nat × Nat)
 | .leaf => []
 | .still i k t => (i, k) :: t.rem
 | .eff i t => (i, 2) :: t.rem
 | .last i t => (i, 3) :: t.rem
 | .br i t _ _ => (i, 2) :: t.rem

def BT.okB (ops : Array Oper) (T : List (List Nat)) : BT → Bool
 | .leaf => true
 | .still i k t => (decide (k ≤ 1) || decide (4 ≤ k)) && t.rem.all (pairB ops T (i, k)) && t.okB ops T
 | .eff i t => t.rem.all (fun y => (T.getD y.1 []).contains i && !(preds ops i).contains y.1) && t.okB ops T
 | .last i t => t.rem.all (fun y => (T.getD y.1 []).contains i && !(preds ops i).contains y.1 && y.2 != 0) && t.okB ops T
 | .br i t j u => i != j && t.rem.all (fun y => !(preds ops i).contains y.1 && (y.1 == j || (T.getD y.1 []).contains i || (T.getD y.1 []).contains j)) &&
   t.rem.contains (j, 2) && u.rem.contains (i, 2) && !(u.rem.map (·.1)).contains j &&
   t.rem.all (fun y => y.1 == j || u.rem.contains y) && u.rem.all (fun y => y.1 == i || t.rem.contains y) &&
   decide (u.rem.map (·.1)).Nodup && t.okB ops T && u.okB ops T

def wpBT (P : Program) (ops : Array Oper) (Q : Exit → Act → World → Prop) (S : World → Prop) : BT → Act → World → Prop
 | .leaf, a, w => Q .normal a w
 | .still i k t, a, w => ∃ o v, ops[i]? = some o ∧ Gives P ops S w k o v a ∧ wpBT P ops Q S t (a.put o.dst v) w
 | .eff i t, a, w => wpOp P ops Q i (fun a' w' => S w' ∧ wpBT P ops Q S t a' w') a w
 | .last i t, a, w => wpOp P ops Q i (fun a' w' => wpBT P ops Q S t a' w') a w
 | .br i t j u, a, w => wpOp P ops Q i (fun a' w' => S w' ∧ wpBT P ops Q S t a' w') a w ∧ wpOp P ops Q j (fun a' w' => S w' ∧ wpBT P ops Q S u a' w') a w

/-- What is left of the text where i came first. -/
def BT.choose (i : Nat) : BT → BT
 | .leaf => .leaf
 | .still j k t => if i = j then t else .still j k (t.choose i)
 | .eff _ t => t
 | .last _ t => t
 | .br j t _ u => if i = j then t else u

theorem fst_inj {L : List (Nat × Nat)} (h : (L.map (·.1)).Nodup) {x y : Nat × Nat} (hx : x ∈ L) (hy : y ∈ L) (e : x.1 = y.1) : x = y := by
 induction L with
 | nil => cases hx
 | cons z L ih =>
  rw [List.map_cons, List.nodup_cons] at h
  rcases List.mem_cons.1 hx with ex | hx' <;> rcases List.mem_cons.1 hy with ey | hy'
  ·
   rw [ex, ey]
  ·
   subst ex; exact absurd (List.mem_map.2 ⟨y, hy', e.symm⟩) h.1
  ·
   subst ey; exact absurd (List.mem_map.2 ⟨x, hx', e⟩) h.1
  ·
   exact ih h.2 hx' hy'
theorem nodup_of_fst {L : List (Nat × Nat)} (h : (L.map (·.1)).Nodup) : L.Nodup := List.Pairwise.of_map (·.1) (fun _ _ h e => h (by rw [e])) h

theorem choose_spec {T : List (List Nat)} (i k : Nat) : ∀ (t : BT), t.okB ops T = true → (t.rem.map (·.1)).Nodup → (i, k) ∈ t.rem → (∀ x ∈ t.rem, x.1 ≠ i → (T.getD i []).contains x.1 = false) →
  (∀ y, y ∈ (t.choose i).rem ↔ y ∈ t.rem ∧ y.1 ≠ i) ∧ (t.choose i).okB ops T = true ∧ ((t.choose i).rem.map (·.1)).Nodup := by
 intro t
 induction t with
 | leaf => intro _ _ hm; cases hm
 | still j kj t ih =>
  intro hok hnd hm hfr
  simp only [BT.okB, Bool.and_eq_true, List.all_eq_true] at hok
  have hnd' := hnd
  simp only [BT.rem, List.map_cons, List.nodup_cons] at hnd
  by_cases e : i = j
  ·
   subst e
   simp only [BT.choose, if_true]
   refine ⟨fun y => ⟨fun hy => ⟨List.mem_cons_of_mem _ hy, fun e => hnd.1 (e ▸ List.mem_map_of_mem hy)⟩, fun ⟨hy, hne⟩ => ?_⟩, hok.2, hnd.2⟩
   rcases List.mem_cons.1 hy with rfl | hy
   ·
    exact absurd rfl hne
   ·
    exact hy
  ·
   have hm' : (i, k) ∈ t.rem := by
    rcases List.mem_cons.1 hm with h | h
    ·
     injection h with h _; exact absurd h e
    ·
     exact h
   obtain ⟨h1, h2, h3⟩ := ih hok.2 hnd.2 hm' (fun x hx => hfr x (List.mem_cons_of_mem _ hx))
   simp only [BT.choose, if_neg e]
   refine ⟨fun y => ?_, ?_, ?_⟩
   ·
    simp only [BT.rem, List.mem_cons, h1]
    constructor
    ·
     rintro (rfl | ⟨h, h'⟩)
     ·
      exact ⟨.inl rfl, fun e' => e e'.symm⟩
     ·
      exact ⟨.inr h, h'⟩
    ·
     rintro ⟨rfl | h, h'⟩
     ·
      exact .inl rfl
     ·
      exact .inr ⟨h, h'⟩
   ·
    simp only [BT.okB, Bool.and_eq_true, List.all_eq_true]
    exact ⟨⟨hok.1.1, fun y hy => hok.1.2 y ((h1 y).1 hy).1⟩, h2⟩
   ·
    simp only [BT.rem, List.map_cons, List.nodup_cons]
    refine ⟨fun hj => hnd.1 ?_, h3⟩
    obtain ⟨y, hy, hye⟩ := List.mem_map.1 hj
    exact hye ▸ List.mem_map_of_mem ((h1 y).1 hy).1
 | eff j t ih =>
  intro hok hnd hm hfr
  simp only [BT.okB, Bool.and_eq_true, List.all_eq_true] at hok
  simp only [BT.rem, List.map_cons, List.nodup_cons] at hnd
  have e : i = j := by
   rcases List.mem_cons.1 hm with h | h
   ·
    injection h
   ·
    by_cases e : i = j
    ·
     exact e
    ·
     have := hfr (j, 2) (by simp [BT.rem]) (fun e' => e e'.symm)
     rw [(hok.1 _ h).1] at this
     cases this
  subst e
  refine ⟨fun y => ⟨fun hy => ⟨List.mem_cons_of_mem _ hy, fun e => hnd.1 (e ▸ List.mem_map_of_mem hy)⟩, fun ⟨hy, hne⟩ => ?_⟩, hok.2, hnd.2⟩
  rcases List.mem_cons.1 hy with rfl | hy
  ·
   exact absurd rfl hne
  ·
   exact hy
 | last j t ih =>
  intro hok hnd hm hfr
  simp only [BT.okB, Bool.and_eq_true, List.all_eq_true] at hok
  simp only [BT.rem, List.map_cons, List.nodup_cons] at hnd
  have e : i = j := by
   rcases List.mem_cons.1 hm with h | h
   ·
    injection h
   ·
    by_cases e : i = j
    ·
     exact e
    ·
     have := hfr (j, 3) (by simp [BT.rem]) (fun e' => e e'.symm)
     rw [(hok.1 _ h).1.1] at this
     cases this
  subst e
  refine ⟨fun y => ⟨fun hy => ⟨List.mem_cons_of_mem _ hy, fun e => hnd.1 (e ▸ List.mem_map_of_mem hy)⟩, fun ⟨hy, hne⟩ => ?_⟩, hok.2, hnd.2⟩
  rcases List.mem_cons.1 hy with rfl | hy
  ·
   exact absurd rfl hne
  ·
   exact hy
 | br j t l u iht ihu =>
  intro hok hnd hm hfr
  simp only [BT.okB, Bool.and_eq_true, List.all_eq_true, decide_eq_true_eq, Bool.or_eq_true, beq_iff_eq, bne_iff_ne, List.contains_iff_mem, Bool.not_eq_true'] at hok
  obtain ⟨⟨⟨⟨⟨⟨⟨⟨⟨hjl, hall⟩, hlt⟩, hju⟩, hlu⟩, htu⟩, hut⟩, hndu⟩, hokt⟩, hoku⟩ := hok
  simp only [BT.rem, List.map_cons, List.nodup_cons] at hnd
  by_cases e : i = j
  ·
   subst e
   simp only [BT.choose, if_true]
   refine ⟨fun y => ⟨fun hy => ⟨List.mem_cons_of_mem _ hy, fun e => hnd.1 (e ▸ List.mem_map_of_mem hy)⟩, fun ⟨hy, hne⟩ => ?_⟩, hokt, hnd.2⟩
   rcases List.mem_cons.1 hy with rfl | hy
   ·
    exact absurd rfl hne
   ·
    exact hy
  ·
   have hm' : (i, k) ∈ t.rem := by
    rcases List.mem_cons.1 hm with h | h
    ·
     injection h with h _; exact absurd h e
    ·
     exact h
   have e2 : i = l := by
    by_cases e2 : i = l
    ·
     exact e2
    ·
     exfalso
     rcases (hall _ hm').2 with (h | h) | h
     ·
      exact e2 h
     ·
      have := hfr (j, 2) (by simp [BT.rem]) (fun e' => e e'.symm)
      rw [List.contains_iff_mem.2 h] at this; cases this
     ·
      have := hfr (l, 2) (List.mem_cons_of_mem _ hlt) (fun e' => e2 e'.symm)
      rw [List.contains_iff_mem.2 h] at this; cases this
   subst e2
   simp only [BT.choose, if_neg e]
   refine ⟨fun y => ⟨fun hy => ?_, fun ⟨hy, hne⟩ => ?_⟩, hoku, hndu⟩
   ·
    have hyi : y.1 ≠ i := fun e' => by
     have := List.mem_map_of_mem (f := (·.1)) hy
     rw [e', ← List.contains_iff_mem, hlu] at this; cases this
    rcases hut y hy with h | h
    ·
     have : y = (j, 2) := fst_inj hndu hy hju h
     exact ⟨by rw [this]; simp [BT.rem], hyi⟩
    ·
     exact ⟨List.mem_cons_of_mem _ h, hyi⟩
   ·
    rcases List.mem_cons.1 hy with rfl | hy
    ·
     exact hju
    ·
     rcases htu y hy with h | h
     ·
      exact absurd h hne
     ·
      exact h

theorem front_bt {T : List (List Nat)} (i k : Nat) (hk : k ≤ 1 ∨ 4 ≤ k) (oi : Oper) (hoi : ops[i]? = some oi) (hsel : ∀ (j : Nat) (o : Oper) cs b, ops[j]? = some o → o.op ≠ .select cs b) (w : World) :
  ∀ (t : BT) (a : Act), t.okB ops T = true → (t.rem.map (·.1)).Nodup → (i, k) ∈ t.rem → (∀ x ∈ t.rem, x.1 ≠ i → (T.getD i []).contains x.1 = false) → wpBT P ops Q S t a w →
   ∃ v, Gives P ops S w k oi v a ∧ wpBT P ops Q S (t.choose i) (a.put oi.dst v) w := by
 intro t
 induction t with
 | leaf => intro _ _ _ hm; cases hm
 | still j kj t ih =>
  intro a hok hnd hm hfr h
  simp only [BT.okB, Bool.and_eq_true, List.all_eq_true] at hok
  have hnd0 := hnd
  simp only [BT.rem, List.map_cons, List.nodup_cons] at hnd
  obtain ⟨oj, vj, hoj, hy, hr⟩ := h
  by_cases e : i = j
  ·
   subst e
   obtain rfl : k = kj := by
    have := fst_inj hnd0 hm (show (i, kj) ∈ BT.rem (.still i kj t) by simp [BT.rem]) rfl
    injection this
   obtain rfl : oj = oi := Option.some.inj (hoj.symm.trans hoi)
   simp only [BT.choose, if_true]
   exact ⟨vj, hy, hr⟩
  ·
   have hm' : (i, k) ∈ t.rem := by
    rcases List.mem_cons.1 hm with h | h
    ·
     injection h with h _; exact absurd h e
    ·
     exact h
   have hp := hok.1.2 _ hm'
   simp only [pairB, Bool.and_eq_true, Bool.or_eq_true, hoi, hoj] at hp
   have hap : oj.apart ops oi = true := by
    rcases hp.2 with h | h
    ·
     have := hfr (j, kj) (by simp [BT.rem]) (fun e' => e e'.symm)
     rw [h] at this; cases this
    ·
     exact h.2
   obtain ⟨h1, h2, h3⟩ := Oper.apart_spec hap
   obtain ⟨v, y0, hr'⟩ := ih _ hok.2 hnd.2 hm' (fun x hx => hfr x (List.mem_cons_of_mem _ hx)) hr
   have hsi := fun cs b => hsel i oi cs b hoi
   simp only [BT.choose, if_neg e]
   refine ⟨v, y0.of_same (execOp_put oi hsi a oj.dst vj h1).symm (wanted_put oi a oj.dst vj h1).symm, oj, vj, hoj, hy.of_same (execOp_put oj (fun cs b => hsel j oj cs b hoj) a oi.dst v h3) (wanted_put oj a oi.dst v h3), ?_⟩
   rw [← Act.put_comm a vj v h2]
   exact hr'
 | eff j t ih =>
  intro a hok hnd hm hfr h
  exfalso
  simp only [BT.okB, Bool.and_eq_true, List.all_eq_true] at hok
  rcases List.mem_cons.1 hm with h | h
  ·
   injection h with _ h; omega
  ·
   have := hfr (j, 2) (by simp [BT.rem]) (fun e' => by
    simp only [BT.rem, List.map_cons, List.nodup_cons] at hnd
    exact hnd.1 (List.mem_map.2 ⟨_, h, e'.symm⟩))
   rw [(hok.1 _ h).1] at this
   cases this
 | last j t ih =>
  intro a hok hnd hm hfr h
  exfalso
  simp only [BT.okB, Bool.and_eq_true, List.all_eq_true] at hok
  rcases List.mem_cons.1 hm with h | h
  ·
   injection h with _ h; omega
  ·
   have := hfr (j, 3) (by simp [BT.rem]) (fun e' => by
    simp only [BT.rem, List.map_cons, List.nodup_cons] at hnd
    exact hnd.1 (List.mem_map.2 ⟨_, h, e'.symm⟩))
   rw [(hok.1 _ h).1.1] at this
   cases this
 | br j t l u iht ihu =>
  intro a hok hnd hm hfr h
  exfalso
  simp only [BT.okB, Bool.and_eq_true, List.all_eq_true, decide_eq_true_eq, Bool.or_eq_true, beq_iff_eq, bne_iff_ne, List.contains_iff_mem, Bool.not_eq_true'] at hok
  obtain ⟨⟨⟨⟨⟨⟨⟨⟨⟨hjl, hall⟩, hlt⟩, hju⟩, hlu⟩, htu⟩, hut⟩, hndu⟩, hokt⟩, hoku⟩ := hok
  have hnd0 := hnd
  simp only [BT.rem, List.map_cons, List.nodup_cons] at hnd
  rcases List.mem_cons.1 hm with h | h
  ·
   injection h with _ h; omega
  ·
   have hij : i ≠ j := fun e => hnd.1 (List.mem_map.2 ⟨_, h, e⟩)
   have hil : i ≠ l := fun e => by
    have := fst_inj hnd.2 h hlt e
    injection this with _ this; omega
   rcases (hall _ h).2 with (h' | h') | h'
   ·
    exact hil h'
   ·
    have := hfr (j, 2) (by simp [BT.rem]) (fun e' => hij e'.symm)
    rw [List.contains_iff_mem.2 h'] at this; cases this
   ·
    have := hfr (l, 2) (List.mem_cons_of_mem _ hlt) (fun e' => hil e'.symm)
    rw [List.contains_iff_mem.2 h'] at this; cases this

theorem front_be {T : List (List Nat)} (i : Nat) (oi : Oper) (hoi : ops[i]? = some oi) (hsel : ∀ (j : Nat) (o : Oper) cs b, ops[j]? = some o → o.op ≠ .select cs b)
  (hQ : ∀ c a w (d : Tmp) v, Q (.panic c) (a.put (some d) v) w → Q (.panic c) a w) (w : World) :
  ∀ (t : BT) (a : Act), t.okB ops T = true → (t.rem.map (·.1)).Nodup → (i, 2) ∈ t.rem → (∀ x ∈ t.rem, x.1 ≠ i → (T.getD i []).contains x.1 = false) → wpBT P ops Q S t a w →
   wpOp P ops Q i (fun a' w' => S w' ∧ wpBT P ops Q S (t.choose i) a' w') a w := by
 intro t
 induction t with
 | leaf => intro _ _ _ hm; cases hm
 | still j kj t ih =>
  intro a hok hnd hm hfr h
  simp only [BT.okB, Bool.and_eq_true, List.all_eq_true, Bool.or_eq_true, decide_eq_true_eq] at hok
  simp only [BT.rem, List.map_cons, List.nodup_cons] at hnd
  obtain ⟨oj, vj, hoj, hy, hr⟩ := h
  have e : i ≠ j := fun e => by
   rcases List.mem_cons.1 hm with h | h
   ·
    injection h with _ h; omega
   ·
    exact hnd.1 (List.mem_map.2 ⟨_, h, e⟩)
  have hm' : (i, 2) ∈ t.rem := by
   rcases List.mem_cons.1 hm with h | h
   ·
    injection h with h _; exact absurd h e
   ·
    exact h
  have hp := hok.1.2 _ hm'
  simp only [pairB, Bool.and_eq_true, Bool.or_eq_true, hoi, hoj] at hp
  have hsw : swapB kj 2 = true ∧ oj.apart ops oi = true := by
   rcases hp.2 with h | h
   ·
    have := hfr (j, kj) (by simp [BT.rem]) (fun e' => e e'.symm)
    rw [h] at this; cases this
   ·
    exact h
  have hap := hsw.2
  have hkj : kj = 0 ∨ 4 ≤ kj := by
   have := hsw.1
   simp only [swapB, Bool.or_eq_true, Bool.and_eq_true, decide_eq_true_eq, beq_iff_eq, bne_iff_ne] at this
   omega
  have hr' := ih _ hok.2 hnd.2 hm' (fun x hx => hfr x (List.mem_cons_of_mem _ hx)) hr
  have hq : ∀ c a w, Q (.panic c) (a.put oj.dst vj) w → Q (.panic c) a w := fun c a w hq => by
   cases hd : oj.dst with
   | none => rw [hd] at hq; exact hq
   | some d => rw [hd] at hq; exact hQ c a w d _ hq
  have hsj := fun cs b => hsel j oj cs b hoj
  have hsi := fun cs b => hsel i oi cs b hoi
  simp only [BT.choose, if_neg e]
  rcases hkj with rfl | h4
  ·
   have h2 := wpOp_putIf (S := S) hoi hap hsj hsi hq (hy.1 rfl) hr'
   exact wpOp_mono (fun a' w' h3 => ⟨h3.2.1, oj, vj, hoj, ⟨fun _ => h3.1, fun e => absurd e (by omega), fun e => absurd e (by omega)⟩, h3.2.2⟩) h2
  ·
   have h2 := wpOp_put hoi hap hsj hsi hq (hy.2.2 h4) hr'
   exact wpOp_mono (fun a' w' h3 => ⟨h3.2.1, oj, vj, hoj, ⟨fun e => absurd e (by omega), fun e => absurd e (by omega), fun _ => h3.1⟩, h3.2.2⟩) h2
 | eff j t ih =>
  intro a hok hnd hm hfr h
  simp only [BT.okB, Bool.and_eq_true, List.all_eq_true] at hok
  have e : i = j := by
   rcases List.mem_cons.1 hm with h | h
   ·
    injection h
   ·
    by_cases e : i = j
    ·
     exact e
    ·
     have := hfr (j, 2) (by simp [BT.rem]) (fun e' => e e'.symm)
     rw [(hok.1 _ h).1] at this
     cases this
  subst e
  exact h
 | last j t ih =>
  intro a hok hnd hm hfr h
  exfalso
  simp only [BT.okB, Bool.and_eq_true, List.all_eq_true] at hok
  rcases List.mem_cons.1 hm with h | h
  ·
   injection h with _ h; omega
  ·
   have := hfr (j, 3) (by simp [BT.rem]) (fun e' => by
    simp only [BT.rem, List.map_cons, List.nodup_cons] at hnd
    exact hnd.1 (List.mem_map.2 ⟨_, h, e'.symm⟩))
   rw [(hok.1 _ h).1.1] at this
   cases this
 | br j t l u iht ihu =>
  intro a hok hnd hm hfr h
  simp only [BT.okB, Bool.and_eq_true, List.all_eq_true, decide_eq_true_eq, Bool.or_eq_true, beq_iff_eq, bne_iff_ne, List.contains_iff_mem, Bool.not_eq_true'] at hok
  obtain ⟨⟨⟨⟨⟨⟨⟨⟨⟨hjl, hall⟩, hlt⟩, hju⟩, hlu⟩, htu⟩, hut⟩, hndu⟩, hokt⟩, hoku⟩ := hok
  by_cases e : i = j
  ·
   subst e
   simp only [BT.choose, if_true]
   exact h.1
  ·
   have hm' : (i, 2) ∈ t.rem := by
    rcases List.mem_cons.1 hm with h | h
    ·
     injection h with h _; exact absurd h e
    ·
     exact h
   have e2 : i = l := by
    by_cases e2 : i = l
    ·
     exact e2
    ·
     exfalso
     rcases (hall _ hm').2 with (h | h) | h
     ·
      exact e2 h
     ·
      have := hfr (j, 2) (by simp [BT.rem]) (fun e' => e e'.symm)
      rw [List.contains_iff_mem.2 h] at this; cases this
     ·
      have := hfr (l, 2) (List.mem_cons_of_mem _ hlt) (fun e' => e2 e'.symm)
      rw [List.contains_iff_mem.2 h] at this; cases this
   subst e2
   simp only [BT.choose, if_neg e]
   exact h.2

theorem front_bl {T : List (List Nat)} (i : Nat) (oi : Oper) (hoi : ops[i]? = some oi) (hsel : ∀ (j : Nat) (o : Oper) cs b, ops[j]? = some o → o.op ≠ .select cs b)
  (hQ : ∀ c a w (d : Tmp) v, Q (.panic c) (a.put (some d) v) w → Q (.panic c) a w) (w : World) :
  ∀ (t : BT) (a : Act), t.okB ops T = true → (t.rem.map (·.1)).Nodup → (i, 3) ∈ t.rem → (∀ x ∈ t.rem, x.1 ≠ i → (T.getD i []).contains x.1 = false) → wpBT P ops Q S t a w →
   wpOp P ops Q i (fun a' w' => wpBT P ops Q S (t.choose i) a' w') a w ∧ ∀ y ∈ t.rem, y.2 ≠ 0 := by
 intro t
 induction t with
 | leaf => intro _ _ _ hm; cases hm
 | still j kj t ih =>
  intro a hok hnd hm hfr h
  simp only [BT.okB, Bool.and_eq_true, List.all_eq_true, Bool.or_eq_true, decide_eq_true_eq] at hok
  simp only [BT.rem, List.map_cons, List.nodup_cons] at hnd
  obtain ⟨oj, vj, hoj, hy, hr⟩ := h
  have e : i ≠ j := fun e => by
   rcases List.mem_cons.1 hm with h | h
   ·
    injection h with _ h; omega
   ·
    exact hnd.1 (List.mem_map.2 ⟨_, h, e⟩)
  have hm' : (i, 3) ∈ t.rem := by
   rcases List.mem_cons.1 hm with h | h
   ·
    injection h with h _; exact absurd h e
   ·
    exact h
  have hp := hok.1.2 _ hm'
  simp only [pairB, Bool.and_eq_true, Bool.or_eq_true, hoi, hoj] at hp
  have hsw : swapB kj 3 = true ∧ oj.apart ops oi = true := by
   rcases hp.2 with h | h
   ·
    have := hfr (j, kj) (by simp [BT.rem]) (fun e' => e e'.symm)
    rw [h] at this; cases this
   ·
    exact h
  have hap := hsw.2
  have h4 : 4 ≤ kj := by
   have := hsw.1
   simp only [swapB, Bool.or_eq_true, Bool.and_eq_true, decide_eq_true_eq, beq_iff_eq, bne_iff_ne] at this
   omega
  obtain ⟨hr', hno⟩ := ih _ hok.2 hnd.2 hm' (fun x hx => hfr x (List.mem_cons_of_mem _ hx)) hr
  have hq : ∀ c a w, Q (.panic c) (a.put oj.dst vj) w → Q (.panic c) a w := fun c a w hq => by
   cases hd : oj.dst with
   | none => rw [hd] at hq; exact hq
   | some d => rw [hd] at hq; exact hQ c a w d _ hq
  have hsj := fun cs b => hsel j oj cs b hoj
  have hsi := fun cs b => hsel i oi cs b hoi
  simp only [BT.choose, if_neg e]
  refine ⟨?_, fun y hy => ?_⟩
  ·
   have h2 := wpOp_put hoi hap hsj hsi hq (hy.2.2 h4) hr'
   exact wpOp_mono (fun a' w' h3 => ⟨oj, vj, hoj, ⟨fun e => absurd e (by omega), fun e => absurd e (by omega), fun _ => h3.1⟩, h3.2⟩) h2
  ·
   rcases List.mem_cons.1 hy with rfl | hy
   ·
    show kj ≠ 0; omega
   ·
    exact hno y hy
 | eff j t ih =>
  intro a hok hnd hm hfr h
  exfalso
  simp only [BT.okB, Bool.and_eq_true, List.all_eq_true] at hok
  rcases List.mem_cons.1 hm with h | h
  ·
   injection h with _ h; omega
  ·
   have := hfr (j, 2) (by simp [BT.rem]) (fun e' => by
    simp only [BT.rem, List.map_cons, List.nodup_cons] at hnd
    exact hnd.1 (List.mem_map.2 ⟨_, h, e'.symm⟩))
   rw [(hok.1 _ h).1] at this
   cases this
 | last j t ih =>
  intro a hok hnd hm hfr h
  simp only [BT.okB, Bool.and_eq_true, List.all_eq_true] at hok
  have e : i = j := by
   rcases List.mem_cons.1 hm with h | h
   ·
    injection h
   ·
    by_cases e : i = j
    ·
     exact e
    ·
     have := hfr (j, 3) (by simp [BT.rem]) (fun e' => e e'.symm)
     rw [(hok.1 _ h).1.1] at this
     cases this
  subst e
  refine ⟨h, fun y hy => ?_⟩
  rcases List.mem_cons.1 hy with rfl | hy
  ·
   show (3 : Nat) ≠ 0; decide
  ·
   have := (hok.1 _ hy).2
   simpa using this
 | br j t l u iht ihu =>
  intro a hok hnd hm hfr h
  exfalso
  simp only [BT.okB, Bool.and_eq_true, List.all_eq_true, decide_eq_true_eq, Bool.or_eq_true, beq_iff_eq, bne_iff_ne, List.contains_iff_mem, Bool.not_eq_true'] at hok
  obtain ⟨⟨⟨⟨⟨⟨⟨⟨⟨hjl, hall⟩, hlt⟩, hju⟩, hlu⟩, htu⟩, hut⟩, hndu⟩, hokt⟩, hoku⟩ := hok
  have hnd0 := hnd
  simp only [BT.rem, List.map_cons, List.nodup_cons] at hnd
  rcases List.mem_cons.1 hm with h | h
  ·
   injection h with _ h; omega
  ·
   have hij : i ≠ j := fun e => hnd.1 (List.mem_map.2 ⟨_, h, e⟩)
   have hil : i ≠ l := fun e => by
    have := fst_inj hnd.2 h hlt e
    injection this with _ this; omega
   rcases (hall _ h).2 with (h' | h') | h'
   ·
    exact hil h'
   ·
    have := hfr (j, 2) (by simp [BT.rem]) (fun e' => hij e'.symm)
    rw [List.contains_iff_mem.2 h'] at this; cases this
   ·
    have := hfr (l, 2) (List.mem_cons_of_mem _ hlt) (fun e' => hil e'.symm)
    rw [List.contains_iff_mem.2 h'] at this; cases this

structure InvT (ops : Array Oper) (t : BT) (listed : Array Bool) : Prop where
 size : listed.size = ops.size
 mem : ∀ i, i ∈ t.rem.map (·.1) ↔ i < ops.size ∧ listed.getD i false = false
 nodup : (t.rem.map (·.1)).Nodup
 closed : Closed ops listed
 ok : t.okB ops (tbl ops ops.size) = true
 inside : ∀ x ∈ t.rem, ∀ p ∈ preds ops x.1, p < ops.size ∧ p ≠ x.1
 kinds : ∀ x ∈ t.rem, x.2 ≤ 3 ∨ 4 ≤ x.2

theorem InvT.head {t : BT} {listed : Array Bool} (h : InvT ops t listed) (x : Nat × Nat) (hx : x ∈ t.rem) (hp : ∀ y ∈ t.rem, y.1 ≠ x.1 → (preds ops x.1).contains y.1 = false) : x.1 ∈ Region.ready .any ops listed := by
 have hx' := (h.mem x.1).1 (List.mem_map_of_mem hx)
 obtain ⟨o, ho⟩ : ∃ o, ops[x.1]? = some o := ⟨_, Array.getElem?_eq_getElem hx'.1⟩
 refine mem_ready.2 ⟨by rw [getD_true_false (by rw [h.size]; exact hx'.1)]; exact hx'.2, o, ho, fun e he hb => ?_⟩
 have hpm := mem_preds ho he hb
 obtain ⟨h1, h2⟩ := h.inside x hx e.on hpm
 cases hl : listed.getD e.on false with
 | true => rfl
 | false =>
  obtain ⟨y, hy, hye⟩ := List.mem_map.1 ((h.mem e.on).2 ⟨h1, hl⟩)
  have := hp y hy (by show y.1 ≠ x.1; rw [hye]; exact h2)
  rw [hye, List.contains_iff_mem.2 hpm] at this
  cases this

theorem InvT.ready {t : BT} {listed : Array Bool} (h : InvT ops t listed) (hne : t.rem ≠ []) : Region.ready .any ops listed ≠ [] := by
 have hok := h.ok
 have : ∃ i, i ∈ Region.ready .any ops listed := by
  cases t with
  | leaf => exact absurd rfl hne
  | still i k t =>
   simp only [BT.okB, Bool.and_eq_true, List.all_eq_true] at hok
   refine ⟨i, h.head (i, k) (by simp [BT.rem]) (fun y hy hy' => ?_)⟩
   rcases List.mem_cons.1 hy with rfl | hy
   ·
    exact absurd rfl hy'
   ·
    have := hok.1.2 y hy
    simp only [pairB, Bool.and_eq_true, Bool.not_eq_true'] at this
    exact this.1.1
  | eff i t =>
   simp only [BT.okB, Bool.and_eq_true, List.all_eq_true, Bool.not_eq_true'] at hok
   refine ⟨i, h.head (i, 2) (by simp [BT.rem]) (fun y hy hy' => ?_)⟩
   rcases List.mem_cons.1 hy with rfl | hy
   ·
    exact absurd rfl hy'
   ·
    exact (hok.1 y hy).2
  | last i t =>
   simp only [BT.okB, Bool.and_eq_true, List.all_eq_true, Bool.not_eq_true'] at hok
   refine ⟨i, h.head (i, 3) (by simp [BT.rem]) (fun y hy hy' => ?_)⟩
   rcases List.mem_cons.1 hy with rfl | hy
   ·
    exact absurd rfl hy'
   ·
    exact (hok.1 y hy).1.2
  | br i t j u =>
   simp only [BT.okB, Bool.and_eq_true, List.all_eq_true, Bool.not_eq_true'] at hok
   refine ⟨i, h.head (i, 2) (by simp [BT.rem]) (fun y hy hy' => ?_)⟩
   rcases List.mem_cons.1 hy with rfl | hy
   ·
    exact absurd rfl hy'
   ·
    exact (hok.1.1.1.1.1.1.1.1.2 y hy).1
 obtain ⟨i, hi⟩ := this
 intro e
 rw [e] at hi
 cases hi

theorem InvT.front {t : BT} {listed : Array Bool} {i : Nat} (h : InvT ops t listed) (hr : i ∈ Region.ready .any ops listed) (hil : i < ops.size) :
  Closed ops (listed.setIfInBounds i true) ∧ ∀ x ∈ t.rem, x.1 ≠ i → ((tbl ops ops.size).getD i []).contains x.1 = false := by
 have hc2 : Closed ops (listed.setIfInBounds i true) := by
  intro j p hp hl
  by_cases e : i = j
  ·
   subst e
   obtain ⟨_, o, ho, hall⟩ := mem_ready.1 hr
   obtain ⟨o', ed, ho', he, hb, rfl⟩ := of_preds hp
   obtain rfl : o = o' := Option.some.inj (ho.symm.trans ho')
   exact getD_set_true (hall ed he hb)
  ·
   rw [getD_set_ne false e] at hl
   exact getD_set_true (h.closed j p hp hl)
 refine ⟨hc2, fun x hx hne => ?_⟩
 rw [Bool.eq_false_iff]
 intro hmem
 have hl := tbl_sound hc2 _ i x.1 (List.contains_iff_mem.1 hmem) (by simp [h.size, hil])
 have hxl := (h.mem x.1).1 (List.mem_map_of_mem hx)
 rw [getD_set_ne false (fun e => hne e.symm), hxl.2] at hl
 cases hl

theorem InvT.step {t : BT} {listed : Array Bool} {i k : Nat} (h : InvT ops t listed) (hm : (i, k) ∈ t.rem) (hr : i ∈ Region.ready .any ops listed) : InvT ops (t.choose i) (listed.setIfInBounds i true) ∧ (t.choose i).rem.length + 1 = t.rem.length := by
 have hil : i < ops.size := ((h.mem i).1 (List.mem_map.2 ⟨_, hm, rfl⟩)).1
 obtain ⟨hc2, hfr⟩ := h.front hr hil
 obtain ⟨h1, h2, h3⟩ := choose_spec i k t h.ok h.nodup hm hfr
 refine ⟨⟨by simp [h.size], fun j => ?_, h3, hc2, h2, fun x hx => h.inside x ((h1 x).1 hx).1, fun x hx => h.kinds x ((h1 x).1 hx).1⟩, ?_⟩
 ·
  constructor
  ·
   intro hj
   obtain ⟨y, hy, rfl⟩ := List.mem_map.1 hj
   obtain ⟨hy1, hy2⟩ := (h1 y).1 hy
   have := (h.mem y.1).1 (List.mem_map_of_mem hy1)
   exact ⟨this.1, by rw [getD_set_ne false (fun e => hy2 e.symm)]; exact this.2⟩
  ·
   rintro ⟨hj, hl⟩
   have hne : j ≠ i := fun e => by
    subst e
    simp [h.size, hj] at hl
   rw [getD_set_ne false (fun e => hne e.symm)] at hl
   obtain ⟨y, hy, rfl⟩ := List.mem_map.1 ((h.mem j).2 ⟨hj, hl⟩)
   exact List.mem_map_of_mem ((h1 y).2 ⟨hy, hne⟩)
 ·
  have hp : t.rem.Perm ((i, k) :: (t.choose i).rem) := by
   have n1 : t.rem.Nodup := nodup_of_fst h.nodup
   have n2 : (t.choose i).rem.Nodup := nodup_of_fst h3
   refine (List.perm_ext_iff_of_nodup n1 (List.nodup_cons.2 ⟨fun hh => ((h1 _).1 hh).2 rfl, n2⟩)).2 (fun y => ?_)
   simp only [List.mem_cons, h1]
   constructor
   ·
    intro hy
    by_cases e : y.1 = i
    ·
     exact .inl (fst_inj h.nodup hy hm e)
    ·
     exact .inr ⟨hy, e⟩
   ·
    rintro (rfl | ⟨hy, _⟩)
    ·
     exact hm
    ·
     exact hy
  have := hp.length_eq
  simp only [List.length_cons] at this
  omega

theorem wpAny_of_bt (hsel : ∀ (j : Nat) (o : Oper) cs b, ops[j]? = some o → o.op ≠ .select cs b) (hQ : ∀ c a w (d : Tmp) v, Q (.panic c) (a.put (some d) v) w → Q (.panic c) a w) :
  ∀ (n : Nat) (t : BT) (listed : Array Bool) (a : Act) (w : World), t.rem.length = n → InvT ops t listed → ((∃ x ∈ t.rem, x.2 = 0) → S w) → wpBT P ops Q S t a w → wpAny P .any ops Q n listed a w
 | 0, t, listed, a, w, hn, inv, _, h => by
  have hnil := List.eq_nil_of_length_eq_zero hn
  have hleaf : t = .leaf := by cases t <;> simp [BT.rem] at hnil; rfl
  subst hleaf
  refine ⟨?_, h⟩
  cases hrd : Region.ready .any ops listed with
  | nil => rfl
  | cons j js =>
   have hj : j ∈ Region.ready .any ops listed := by rw [hrd]; simp
   obtain ⟨h1, o, ho, _⟩ := mem_ready.1 hj
   have hlt : j < ops.size := (Array.getElem?_eq_some_iff.1 ho).1
   have := (inv.mem j).2 ⟨hlt, by rw [← getD_true_false (by rw [inv.size]; exact hlt)]; exact h1⟩
   simp [BT.rem] at this
 | n + 1, t, listed, a, w, hn, inv, hS, h => by
  refine ⟨fun h0 => absurd h0 (inv.ready (fun e => by rw [e] at hn; cases hn)), fun i hi => ?_⟩
  obtain ⟨h1, oi, hoi, _⟩ := mem_ready.1 hi
  have hlt : i < ops.size := (Array.getElem?_eq_some_iff.1 hoi).1
  obtain ⟨⟨i', k⟩, hx, rfl⟩ := List.mem_map.1 ((inv.mem i).2 ⟨hlt, by rw [← getD_true_false (by rw [inv.size]; exact hlt)]; exact h1⟩)
  obtain ⟨inv', hlen⟩ := inv.step hx hi
  have hfr := (inv.front hi hlt).2
  have hsub : ∀ y, y ∈ (t.choose i').rem → y ∈ t.rem := fun y hy => ((choose_spec i' k t inv.ok inv.nodup hx hfr).1 y).1 hy |>.1
  have go : wpOp P ops Q i' (fun a' w' => ((∃ x ∈ (t.choose i').rem, x.2 = 0) → S w') ∧ wpBT P ops Q S (t.choose i') a' w') a w := by
   by_cases hk : k ≤ 1 ∨ 4 ≤ k
   ·
    obtain ⟨v, y0, hr⟩ := front_bt i' k hk oi hoi hsel w t a inv.ok inv.nodup hx hfr h
    have hS' : (∃ x ∈ (t.choose i').rem, x.2 = 0) → S w := fun ⟨y, hy, hy0⟩ => hS ⟨y, hsub y hy, hy0⟩
    rcases hk with hk | hk
    ·
     rcases Nat.le_one_iff_eq_zero_or_eq_one.1 hk with rfl | rfl
     ·
      exact (y0.1 rfl).wpOp hoi (hS ⟨_, hx, rfl⟩) ⟨hS', hr⟩
     ·
      exact wpOp_of_yieldsAt hoi (y0.2.1 rfl) ⟨hS', hr⟩
    ·
     exact (y0.2.2 hk).wpOp hoi ⟨hS', hr⟩
   ·
    have hk2 : k = 2 ∨ k = 3 := by omega
    rcases hk2 with rfl | rfl
    ·
     exact wpOp_mono (fun a' w' h9 => ⟨fun _ => h9.1, h9.2⟩) (front_be i' oi hoi hsel hQ w t a inv.ok inv.nodup hx hfr h)
    ·
     obtain ⟨h9, hno⟩ := front_bl i' oi hoi hsel hQ w t a inv.ok inv.nodup hx hfr h
     exact wpOp_mono (fun a' w' h8 => ⟨fun ⟨y, hy, hy0⟩ => absurd hy0 (hno y (hsub y hy)), h8⟩) h9
  exact wpOp_mono (fun a' w' h' => wpAny_of_bt hsel hQ n (t.choose i') _ a' w' (by omega) inv' h'.1 h'.2) go

def btB (ops : Array Oper) (t : BT) : Bool :=
 Region.noSelect ops && (List.range ops.size).all (fun i => (t.rem.map (·.1)).contains i) && t.rem.all (fun x => decide (x.1 < ops.size) && (decide (x.2 ≤ 3) || decide (4 ≤ x.2)) && (preds ops x.1).all (fun p => decide (p < ops.size) && p != x.1)) &&
  decide (t.rem.map (·.1)).Nodup && decide (t.rem.length = ops.size) && t.okB ops (tbl ops ops.size)

/-- THE RULE. -/
theorem wp_region_bt {id : Nat} {a : Act} {w : World} (S : World → Prop) (t : BT) (hm : P.follows .mixedOrders = true) (hB : btB ops t = true)
  (hQ : ∀ c a w (d : Tmp) v, Q (.panic c) (a.put (some d) v) w → Q (.panic c) a w) (hS : S w.drew) (h : wpBT P ops Q S t a w.drew) : (Code.region id ops true).wp P Q a w := by
 simp only [btB, Bool.and_eq_true, decide_eq_true_eq] at hB
 obtain ⟨⟨⟨⟨⟨h1, h2⟩, h3⟩, h4⟩, hlen⟩, h5⟩ := hB
 refine wp_region_any hm ?_
 refine wpAny_of_bt (S := S) (Region.noSelect_spec h1) hQ ops.size t _ a _ hlen ⟨by simp, fun i => ?_, h4, fun j p hp hl => ?_, h5, fun x hx p hp => ?_, fun x hx => ?_⟩ (fun _ => hS) h
 ·
  rw [getD_replicate_false]
  constructor
  ·
   intro hi
   obtain ⟨x, hx, rfl⟩ := List.mem_map.1 hi
   have := List.all_eq_true.1 h3 x hx
   simp only [Bool.and_eq_true, decide_eq_true_eq] at this
   exact ⟨this.1.1, rfl⟩
  ·
   rintro ⟨hi, _⟩
   have := List.all_eq_true.1 h2 i (List.mem_range.2 hi)
   simpa using this
 ·
  rw [getD_replicate_false] at hl; cases hl
 ·
  have := List.all_eq_true.1 h3 x hx
  simp only [Bool.and_eq_true] at this
  have h6 := List.all_eq_true.1 this.2 p hp
  simp only [Bool.and_eq_true, decide_eq_true_eq] at h6
  exact ⟨h6.1, by simpa using h6.2⟩
 ·
  have := List.all_eq_true.1 h3 x hx
  simp only [Bool.and_eq_true, Bool.or_eq_true, decide_eq_true_eq] at this
  exact this.1.2

section bsteps
variable {a : Act} {w : World} {t u : BT} {i j : Nat}
theorem bpurek {o : Oper} (ho : ops[i]? = some o) (hw : Region.wanted o (yielded ops a.tmps) = true)
  (h : ∀ K : Act → Prop, (∀ a, wpBT P ops Q S t a w → K a) → ∃ v, (∀ w, (execOp a.eval o).run P w = .ok (.value v) w) ∧ K (a.put o.dst v)) : wpBT P ops Q S (.still i 4 t) a w := by
 obtain ⟨v, h1, h2⟩ := h _ (fun _ h => h)
 exact ⟨o, v, ho, ⟨fun e => absurd e (by decide), fun e => absurd e (by decide), fun _ => .inl ⟨hw, h1⟩⟩, h2⟩
theorem bheldk {o : Oper} (ho : ops[i]? = some o) (hw : Region.wanted o (yielded ops a.tmps) = true)
  (h : ∀ K : Act → Prop, (∀ a, wpBT P ops Q S t a w → K a) → ∃ v, (∀ w, S w → (execOp a.eval o).run P w = .ok (.value v) w) ∧ K (a.put o.dst v)) : wpBT P ops Q S (.still i 0 t) a w := by
 obtain ⟨v, h1, h2⟩ := h _ (fun _ h => h)
 exact ⟨o, v, ho, ⟨fun _ => .inl ⟨hw, h1⟩, fun e => absurd e (by decide), fun e => absurd e (by decide)⟩, h2⟩
theorem beff {o : Oper} (ho : ops[i]? = some o) (hg : o.guard = none) (h : ∀ K : Act → World → Prop, (∀ a w, S w → wpBT P ops Q S t a w → K a w) → o.wp P a w K NoQ) : wpBT P ops Q S (.eff i t) a w := by
 show wpOp P ops Q i (fun a' w' => S w' ∧ wpBT P ops Q S t a' w') a w
 unfold wpOp
 simp only [ho]
 rw [if_pos (by simp [Region.wanted, hg])]
 exact .inl (wp_of_noQ (h _ fun _ _ h1 h2 => ⟨h1, h2⟩))
theorem blast {o : Oper} (ho : ops[i]? = some o) (hg : o.guard = none) (h : ∀ K : Act → World → Prop, (∀ a w, wpBT P ops Q S t a w → K a w) → o.wp P a w K NoQ) : wpBT P ops Q S (.last i t) a w := by
 show wpOp P ops Q i (fun a' w' => wpBT P ops Q S t a' w') a w
 unfold wpOp
 simp only [ho]
 rw [if_pos (by simp [Region.wanted, hg])]
 exact .inl (wp_of_noQ (h _ fun _ _ h2 => h2))
theorem bfork (h1 : wpBT P ops Q S (.eff i t) a w) (h2 : wpBT P ops Q S (.eff j u) a w) : wpBT P ops Q S (.br i t j u) a w := ⟨h1, h2⟩
theorem bdone (h : Q .normal a w) : wpBT P ops Q S .leaf a w := h
end bsteps
attribute [irreducible] wpBT
end TextL
end Go.Proofs.YtheijpjfpaghfaaGreatDoor
