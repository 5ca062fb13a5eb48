/- Several texts in one: Text4, Co0, Co1, Po2, Po4, Po6, Po7, Co2, Co3. -/
import Derived.Test.YtakedococfklgaaB1
import Derived.Test.YtakedococfklgaaB2
/- A region that draws its order in which two effects may change places: a text that forks; its last effects need not keep what the others rely on. Proved for any program. -/
namespace Go.Proofs.Ytakedococfklgaa
open Go

namespace Text
variable {P : Program} {ops : Array Oper} {Q : Exit → Act → World → Prop} {S : World → Prop}

/-- A text that forks: operations that change nothing, an effect, or two effects of which either may come first. -/
inductive BT where
  | leaf : BT
  | still : Nat → Nat → BT → BT
  | eff : Nat → BT → BT
  | br : Nat → BT → Nat → BT → BT
  | last : Nat → BT → BT

/-- What is still to come, with its kind. -/
def BT.rem : BT → List (Nat × Nat)
  | .leaf => []
  | .still i k t => (i, k) :: t.rem
  | .eff i t => (i, 2) :: t.rem
  | .br i t _ _ => (i, 2) :: t.rem
  | .last i t => (i, 3) :: t.rem

def BT.okB (ops : Array Oper) (T : List (List Nat)) : BT → Bool
  | .leaf => true
  | .still i k t => (decide (k ≤ 1) || decide (4 ≤ k)) && t.rem.all (pairB ops T (i, k)) && t.okB ops T
  | .eff i t => t.rem.all (fun y => (T.getD y.1 []).contains i && !(preds ops i).contains y.1) && t.okB ops T
  | .br i t j u => i != j && t.rem.all (fun y => !(preds ops i).contains y.1 && (y.1 == j || (T.getD y.1 []).contains i || (T.getD y.1 []).contains j)) &&
      t.rem.contains (j, 2) && u.rem.contains (i, 2) && !(u.rem.map (·.1)).contains j &&
      t.rem.all (fun y => y.1 == j || u.rem.contains y) && u.rem.all (fun y => y.1 == i || t.rem.contains y) &&
      decide (u.rem.map (·.1)).Nodup && t.okB ops T && u.okB ops T
  | .last i t => t.rem.all (fun y => (T.getD y.1 []).contains i && !(preds ops i).contains y.1 && y.2 != 0) && t.okB ops T

def wpBT (P : Program) (ops : Array Oper) (Q : Exit → Act → World → Prop) (S : World → Prop) : BT → Act → World → Prop
  | .leaf, a, w => Q .normal a w
  | .still i k t, a, w => ∃ o v, ops[i]? = some o ∧ Gives P ops S w k o v a ∧ wpBT P ops Q S t (a.put o.dst v) w
  | .eff i t, a, w => wpOp P ops Q i (fun a' w' => S w' ∧ wpBT P ops Q S t a' w') a w
  | .br i t j u, a, w => wpOp P ops Q i (fun a' w' => S w' ∧ wpBT P ops Q S t a' w') a w ∧ wpOp P ops Q j (fun a' w' => S w' ∧ wpBT P ops Q S u a' w') a w
  | .last i t, a, w => wpOp P ops Q i (fun a' w' => wpBT P ops Q S t a' w') a w

/-- What is left of the text where i came first. -/
def BT.choose (i : Nat) : BT → BT
  | .leaf => .leaf
  | .still j k t => if i = j then t else .still j k (t.choose i)
  | .eff _ t => t
  | .br j t _ u => if i = j then t else u
  | .last _ t => t

theorem fst_inj {L : List (Nat × Nat)} (h : (L.map (·.1)).Nodup) {x y : Nat × Nat} (hx : x ∈ L) (hy : y ∈ L) (e : x.1 = y.1) : x = y := by
  induction L with
  | nil => cases hx
  | cons z L ih =>
    rw [List.map_cons, List.nodup_cons] at h
    rcases List.mem_cons.1 hx with ex | hx' <;> rcases List.mem_cons.1 hy with ey | hy'
    · rw [ex, ey]
    · subst ex; exact absurd (List.mem_map.2 ⟨y, hy', e.symm⟩) h.1
    · subst ey; exact absurd (List.mem_map.2 ⟨x, hx', e⟩) h.1
    · exact ih h.2 hx' hy'
theorem nodup_of_fst {L : List (Nat × Nat)} (h : (L.map (·.1)).Nodup) : L.Nodup := List.Pairwise.of_map (·.1) (fun _ _ h e => h (by rw [e])) h

theorem choose_spec {T : List (List Nat)} (i k : Nat) : ∀ (t : BT), t.okB ops T = true → (t.rem.map (·.1)).Nodup → (i, k) ∈ t.rem → (∀ x ∈ t.rem, x.1 ≠ i → (T.getD i []).contains x.1 = false) →
    (∀ y, y ∈ (t.choose i).rem ↔ y ∈ t.rem ∧ y.1 ≠ i) ∧ (t.choose i).okB ops T = true ∧ ((t.choose i).rem.map (·.1)).Nodup := by
  intro t
  induction t with
  | leaf => intro _ _ hm; cases hm
  | still j kj t ih =>
    intro hok hnd hm hfr
    simp only [BT.okB, Bool.and_eq_true, List.all_eq_true] at hok
    have hnd' := hnd
    simp only [BT.rem, List.map_cons, List.nodup_cons] at hnd
    by_cases e : i = j
    · subst e
      simp only [BT.choose, if_true]
      refine ⟨fun y => ⟨fun hy => ⟨List.mem_cons_of_mem _ hy, fun e => hnd.1 (e ▸ List.mem_map_of_mem hy)⟩, fun ⟨hy, hne⟩ => ?_⟩, hok.2, hnd.2⟩
      rcases List.mem_cons.1 hy with rfl | hy
      · exact absurd rfl hne
      · exact hy
    · have hm' : (i, k) ∈ t.rem := by
        rcases List.mem_cons.1 hm with h | h
        · injection h with h _; exact absurd h e
        · exact h
      obtain ⟨h1, h2, h3⟩ := ih hok.2 hnd.2 hm' (fun x hx => hfr x (List.mem_cons_of_mem _ hx))
      simp only [BT.choose, if_neg e]
      refine ⟨fun y => ?_, ?_, ?_⟩
      · simp only [BT.rem, List.mem_cons, h1]
        constructor
        · rintro (rfl | ⟨h, h'⟩)
          · exact ⟨.inl rfl, fun e' => e e'.symm⟩
          · exact ⟨.inr h, h'⟩
        · rintro ⟨rfl | h, h'⟩
          · exact .inl rfl
          · exact .inr ⟨h, h'⟩
      · simp only [BT.okB, Bool.and_eq_true, List.all_eq_true]
        exact ⟨⟨hok.1.1, fun y hy => hok.1.2 y ((h1 y).1 hy).1⟩, h2⟩
      · simp only [BT.rem, List.map_cons, List.nodup_cons]
        refine ⟨fun hj => hnd.1 ?_, h3⟩
        obtain ⟨y, hy, hye⟩ := List.mem_map.1 hj
        exact hye ▸ List.mem_map_of_mem ((h1 y).1 hy).1
  | eff j t ih =>
    intro hok hnd hm hfr
    simp only [BT.okB, Bool.and_eq_true, List.all_eq_true] at hok
    simp only [BT.rem, List.map_cons, List.nodup_cons] at hnd
    have e : i = j := by
      rcases List.mem_cons.1 hm with h | h
      · injection h
      · by_cases e : i = j
        · exact e
        · have := hfr (j, 2) (by simp [BT.rem]) (fun e' => e e'.symm)
          rw [(hok.1 _ h).1] at this
          cases this
    subst e
    refine ⟨fun y => ⟨fun hy => ⟨List.mem_cons_of_mem _ hy, fun e => hnd.1 (e ▸ List.mem_map_of_mem hy)⟩, fun ⟨hy, hne⟩ => ?_⟩, hok.2, hnd.2⟩
    rcases List.mem_cons.1 hy with rfl | hy
    · exact absurd rfl hne
    · exact hy
  | br j t l u iht ihu =>
    intro hok hnd hm hfr
    simp only [BT.okB, Bool.and_eq_true, List.all_eq_true, decide_eq_true_eq, Bool.or_eq_true, beq_iff_eq, bne_iff_ne, List.contains_iff_mem, Bool.not_eq_true'] at hok
    obtain ⟨⟨⟨⟨⟨⟨⟨⟨⟨hjl, hall⟩, hlt⟩, hju⟩, hlu⟩, htu⟩, hut⟩, hndu⟩, hokt⟩, hoku⟩ := hok
    simp only [BT.rem, List.map_cons, List.nodup_cons] at hnd
    by_cases e : i = j
    · subst e
      simp only [BT.choose, if_true]
      refine ⟨fun y => ⟨fun hy => ⟨List.mem_cons_of_mem _ hy, fun e => hnd.1 (e ▸ List.mem_map_of_mem hy)⟩, fun ⟨hy, hne⟩ => ?_⟩, hokt, hnd.2⟩
      rcases List.mem_cons.1 hy with rfl | hy
      · exact absurd rfl hne
      · exact hy
    · have hm' : (i, k) ∈ t.rem := by
        rcases List.mem_cons.1 hm with h | h
        · injection h with h _; exact absurd h e
        · exact h
      have e2 : i = l := by
        by_cases e2 : i = l
        · exact e2
        · exfalso
          rcases (hall _ hm').2 with (h | h) | h
          · exact e2 h
          · have := hfr (j, 2) (by simp [BT.rem]) (fun e' => e e'.symm)
            rw [List.contains_iff_mem.2 h] at this; cases this
          · have := hfr (l, 2) (List.mem_cons_of_mem _ hlt) (fun e' => e2 e'.symm)
            rw [List.contains_iff_mem.2 h] at this; cases this
      subst e2
      simp only [BT.choose, if_neg e]
      refine ⟨fun y => ⟨fun hy => ?_, fun ⟨hy, hne⟩ => ?_⟩, hoku, hndu⟩
      · have hyi : y.1 ≠ i := fun e' => by
          have := List.mem_map_of_mem (f := (·.1)) hy
          rw [e', ← List.contains_iff_mem, hlu] at this; cases this
        rcases hut y hy with h | h
        · have : y = (j, 2) := fst_inj hndu hy hju h
          exact ⟨by rw [this]; simp [BT.rem], hyi⟩
        · exact ⟨List.mem_cons_of_mem _ h, hyi⟩
      · rcases List.mem_cons.1 hy with rfl | hy
        · exact hju
        · rcases htu y hy with h | h
          · exact absurd h hne
          · exact h
  | last j t ih =>
    intro hok hnd hm hfr
    simp only [BT.okB, Bool.and_eq_true, List.all_eq_true] at hok
    simp only [BT.rem, List.map_cons, List.nodup_cons] at hnd
    have e : i = j := by
      rcases List.mem_cons.1 hm with h | h
      · injection h
      · by_cases e : i = j
        · exact e
        · have := hfr (j, 3) (by simp [BT.rem]) (fun e' => e e'.symm)
          rw [(hok.1 _ h).1.1] at this
          cases this
    subst e
    refine ⟨fun y => ⟨fun hy => ⟨List.mem_cons_of_mem _ hy, fun e => hnd.1 (e ▸ List.mem_map_of_mem hy)⟩, fun ⟨hy, hne⟩ => ?_⟩, hok.2, hnd.2⟩
    rcases List.mem_cons.1 hy with rfl | hy
    · exact absurd rfl hne
    · exact hy

theorem front_bt {T : List (List Nat)} (i k : Nat) (hk : k ≤ 1 ∨ 4 ≤ k) (oi : Oper) (hoi : ops[i]? = some oi) (hsel : ∀ (j : Nat) (o : Oper) cs b, ops[j]? = some o → o.op ≠ .select cs b) (w : World) :
    ∀ (t : BT) (a : Act), t.okB ops T = true → (t.rem.map (·.1)).Nodup → (i, k) ∈ t.rem → (∀ x ∈ t.rem, x.1 ≠ i → (T.getD i []).contains x.1 = false) → wpBT P ops Q S t a w →
      ∃ v, Gives P ops S w k oi v a ∧ wpBT P ops Q S (t.choose i) (a.put oi.dst v) w := by
  intro t
  induction t with
  | leaf => intro _ _ _ hm; cases hm
  | still j kj t ih =>
    intro a hok hnd hm hfr h
    simp only [BT.okB, Bool.and_eq_true, List.all_eq_true] at hok
    have hnd0 := hnd
    simp only [BT.rem, List.map_cons, List.nodup_cons] at hnd
    obtain ⟨oj, vj, hoj, hy, hr⟩ := h
    by_cases e : i = j
    · subst e
      obtain rfl : k = kj := by
        have := fst_inj hnd0 hm (show (i, kj) ∈ BT.rem (.still i kj t) by simp [BT.rem]) rfl
        injection this
      obtain rfl : oj = oi := Option.some.inj (hoj.symm.trans hoi)
      simp only [BT.choose, if_true]
      exact ⟨vj, hy, hr⟩
    · have hm' : (i, k) ∈ t.rem := by
        rcases List.mem_cons.1 hm with h | h
        · injection h with h _; exact absurd h e
        · exact h
      have hp := hok.1.2 _ hm'
      simp only [pairB, Bool.and_eq_true, Bool.or_eq_true, hoi, hoj] at hp
      have hap : oj.apart ops oi = true := by
        rcases hp.2 with h | h
        · have := hfr (j, kj) (by simp [BT.rem]) (fun e' => e e'.symm)
          rw [h] at this; cases this
        · exact h.2
      obtain ⟨h1, h2, h3⟩ := Oper.apart_spec hap
      obtain ⟨v, y0, hr'⟩ := ih _ hok.2 hnd.2 hm' (fun x hx => hfr x (List.mem_cons_of_mem _ hx)) hr
      have hsi := fun cs b => hsel i oi cs b hoi
      simp only [BT.choose, if_neg e]
      refine ⟨v, y0.of_same (execOp_put oi hsi a oj.dst vj h1).symm (wanted_put oi a oj.dst vj h1).symm, oj, vj, hoj, hy.of_same (execOp_put oj (fun cs b => hsel j oj cs b hoj) a oi.dst v h3) (wanted_put oj a oi.dst v h3), ?_⟩
      rw [← Act.put_comm a vj v h2]
      exact hr'
  | eff j t ih =>
    intro a hok hnd hm hfr h
    exfalso
    simp only [BT.okB, Bool.and_eq_true, List.all_eq_true] at hok
    rcases List.mem_cons.1 hm with h | h
    · injection h with _ h; omega
    · have := hfr (j, 2) (by simp [BT.rem]) (fun e' => by
        simp only [BT.rem, List.map_cons, List.nodup_cons] at hnd
        exact hnd.1 (List.mem_map.2 ⟨_, h, e'.symm⟩))
      rw [(hok.1 _ h).1] at this
      cases this
  | br j t l u iht ihu =>
    intro a hok hnd hm hfr h
    exfalso
    simp only [BT.okB, Bool.and_eq_true, List.all_eq_true, decide_eq_true_eq, Bool.or_eq_true, beq_iff_eq, bne_iff_ne, List.contains_iff_mem, Bool.not_eq_true'] at hok
    obtain ⟨⟨⟨⟨⟨⟨⟨⟨⟨hjl, hall⟩, hlt⟩, hju⟩, hlu⟩, htu⟩, hut⟩, hndu⟩, hokt⟩, hoku⟩ := hok
    have hnd0 := hnd
    simp only [BT.rem, List.map_cons, List.nodup_cons] at hnd
    rcases List.mem_cons.1 hm with h | h
    · injection h with _ h; omega
    · have hij : i ≠ j := fun e => hnd.1 (List.mem_map.2 ⟨_, h, e⟩)
      have hil : i ≠ l := fun e => by
        have := fst_inj hnd.2 h hlt e
        injection this with _ this; omega
      rcases (hall _ h).2 with (h' | h') | h'
      · exact hil h'
      · have := hfr (j, 2) (by simp [BT.rem]) (fun e' => hij e'.symm)
        rw [List.contains_iff_mem.2 h'] at this; cases this
      · have := hfr (l, 2) (List.mem_cons_of_mem _ hlt) (fun e' => hil e'.symm)
        rw [List.contains_iff_mem.2 h'] at this; cases this
  | last j t ih =>
    intro a hok hnd hm hfr h
    exfalso
    simp only [BT.okB, Bool.and_eq_true, List.all_eq_true] at hok
    rcases List.mem_cons.1 hm with h | h
    · injection h with _ h; omega
    · have := hfr (j, 3) (by simp [BT.rem]) (fun e' => by
        simp only [BT.rem, List.map_cons, List.nodup_cons] at hnd
        exact hnd.1 (List.mem_map.2 ⟨_, h, e'.symm⟩))
      rw [(hok.1 _ h).1.1] at this
      cases this

theorem front_be {T : List (List Nat)} (i : Nat) (oi : Oper) (hoi : ops[i]? = some oi) (hsel : ∀ (j : Nat) (o : Oper) cs b, ops[j]? = some o → o.op ≠ .select cs b)
    (hQ : ∀ c a w (d : Tmp) v, Q (.panic c) (a.put (some d) v) w → Q (.panic c) a w) (w : World) :
    ∀ (t : BT) (a : Act), t.okB ops T = true → (t.rem.map (·.1)).Nodup → (i, 2) ∈ t.rem → (∀ x ∈ t.rem, x.1 ≠ i → (T.getD i []).contains x.1 = false) → wpBT P ops Q S t a w →
      wpOp P ops Q i (fun a' w' => S w' ∧ wpBT P ops Q S (t.choose i) a' w') a w := by
  intro t
  induction t with
  | leaf => intro _ _ _ hm; cases hm
  | still j kj t ih =>
    intro a hok hnd hm hfr h
    simp only [BT.okB, Bool.and_eq_true, List.all_eq_true, Bool.or_eq_true, decide_eq_true_eq] at hok
    simp only [BT.rem, List.map_cons, List.nodup_cons] at hnd
    obtain ⟨oj, vj, hoj, hy, hr⟩ := h
    have e : i ≠ j := fun e => by
      rcases List.mem_cons.1 hm with h | h
      · injection h with _ h; omega
      · exact hnd.1 (List.mem_map.2 ⟨_, h, e⟩)
    have hm' : (i, 2) ∈ t.rem := by
      rcases List.mem_cons.1 hm with h | h
      · injection h with h _; exact absurd h e
      · exact h
    have hp := hok.1.2 _ hm'
    simp only [pairB, Bool.and_eq_true, Bool.or_eq_true, hoi, hoj] at hp
    have hsw : swapB kj 2 = true ∧ oj.apart ops oi = true := by
      rcases hp.2 with h | h
      · have := hfr (j, kj) (by simp [BT.rem]) (fun e' => e e'.symm)
        rw [h] at this; cases this
      · exact h
    have hap := hsw.2
    have hkj : kj = 0 ∨ 4 ≤ kj := by
      have := hsw.1
      simp only [swapB, Bool.or_eq_true, Bool.and_eq_true, decide_eq_true_eq, beq_iff_eq, bne_iff_ne] at this
      omega
    have hr' := ih _ hok.2 hnd.2 hm' (fun x hx => hfr x (List.mem_cons_of_mem _ hx)) hr
    have hq : ∀ c a w, Q (.panic c) (a.put oj.dst vj) w → Q (.panic c) a w := fun c a w hq => by
      cases hd : oj.dst with
      | none => rw [hd] at hq; exact hq
      | some d => rw [hd] at hq; exact hQ c a w d _ hq
    have hsj := fun cs b => hsel j oj cs b hoj
    have hsi := fun cs b => hsel i oi cs b hoi
    simp only [BT.choose, if_neg e]
    rcases hkj with rfl | h4
    · have h2 := wpOp_putIf (S := S) hoi hap hsj hsi hq (hy.1 rfl) hr'
      exact wpOp_mono (fun a' w' h3 => ⟨h3.2.1, oj, vj, hoj, ⟨fun _ => h3.1, fun e => absurd e (by omega), fun e => absurd e (by omega)⟩, h3.2.2⟩) h2
    · have h2 := wpOp_put hoi hap hsj hsi hq (hy.2.2 h4) hr'
      exact wpOp_mono (fun a' w' h3 => ⟨h3.2.1, oj, vj, hoj, ⟨fun e => absurd e (by omega), fun e => absurd e (by omega), fun _ => h3.1⟩, h3.2.2⟩) h2
  | eff j t ih =>
    intro a hok hnd hm hfr h
    simp only [BT.okB, Bool.and_eq_true, List.all_eq_true] at hok
    have e : i = j := by
      rcases List.mem_cons.1 hm with h | h
      · injection h
      · by_cases e : i = j
        · exact e
        · have := hfr (j, 2) (by simp [BT.rem]) (fun e' => e e'.symm)
          rw [(hok.1 _ h).1] at this
          cases this
    subst e
    exact h
  | br j t l u iht ihu =>
    intro a hok hnd hm hfr h
    simp only [BT.okB, Bool.and_eq_true, List.all_eq_true, decide_eq_true_eq, Bool.or_eq_true, beq_iff_eq, bne_iff_ne, List.contains_iff_mem, Bool.not_eq_true'] at hok
    obtain ⟨⟨⟨⟨⟨⟨⟨⟨⟨hjl, hall⟩, hlt⟩, hju⟩, hlu⟩, htu⟩, hut⟩, hndu⟩, hokt⟩, hoku⟩ := hok
    by_cases e : i = j
    · subst e
      simp only [BT.choose, if_true]
      exact h.1
    · have hm' : (i, 2) ∈ t.rem := by
        rcases List.mem_cons.1 hm with h | h
        · injection h with h _; exact absurd h e
        · exact h
      have e2 : i = l := by
        by_cases e2 : i = l
        · exact e2
        · exfalso
          rcases (hall _ hm').2 with (h | h) | h
          · exact e2 h
          · have := hfr (j, 2) (by simp [BT.rem]) (fun e' => e e'.symm)
            rw [List.contains_iff_mem.2 h] at this; cases this
          · have := hfr (l, 2) (List.mem_cons_of_mem _ hlt) (fun e' => e2 e'.symm)
            rw [List.contains_iff_mem.2 h] at this; cases this
      subst e2
      simp only [BT.choose, if_neg e]
      exact h.2
  | last j t ih =>
    intro a hok hnd hm hfr h
    exfalso
    simp only [BT.okB, Bool.and_eq_true, List.all_eq_true] at hok
    rcases List.mem_cons.1 hm with h | h
    · injection h with _ h; omega
    · have := hfr (j, 3) (by simp [BT.rem]) (fun e' => by
        simp only [BT.rem, List.map_cons, List.nodup_cons] at hnd
        exact hnd.1 (List.mem_map.2 ⟨_, h, e'.symm⟩))
      rw [(hok.1 _ h).1.1] at this
      cases this

theorem front_bl {T : List (List Nat)} (i : Nat) (oi : Oper) (hoi : ops[i]? = some oi) (hsel : ∀ (j : Nat) (o : Oper) cs b, ops[j]? = some o → o.op ≠ .select cs b)
    (hQ : ∀ c a w (d : Tmp) v, Q (.panic c) (a.put (some d) v) w → Q (.panic c) a w) (w : World) :
    ∀ (t : BT) (a : Act), t.okB ops T = true → (t.rem.map (·.1)).Nodup → (i, 3) ∈ t.rem → (∀ x ∈ t.rem, x.1 ≠ i → (T.getD i []).contains x.1 = false) → wpBT P ops Q S t a w →
      (∀ x ∈ (t.choose i).rem, x.2 ≠ 0) ∧ wpOp P ops Q i (fun a' w' => wpBT P ops Q S (t.choose i) a' w') a w := by
  intro t
  induction t with
  | leaf => intro _ _ _ hm; cases hm
  | still j kj t ih =>
    intro a hok hnd hm hfr h
    simp only [BT.okB, Bool.and_eq_true, List.all_eq_true, Bool.or_eq_true, decide_eq_true_eq] at hok
    simp only [BT.rem, List.map_cons, List.nodup_cons] at hnd
    obtain ⟨oj, vj, hoj, hy, hr⟩ := h
    have e : i ≠ j := fun e => by
      rcases List.mem_cons.1 hm with h | h
      · injection h with _ h; omega
      · exact hnd.1 (List.mem_map.2 ⟨_, h, e⟩)
    have hm' : (i, 3) ∈ t.rem := by
      rcases List.mem_cons.1 hm with h | h
      · injection h with h _; exact absurd h e
      · exact h
    have hp := hok.1.2 _ hm'
    simp only [pairB, Bool.and_eq_true, Bool.or_eq_true, hoi, hoj] at hp
    have hsw : swapB kj 3 = true ∧ oj.apart ops oi = true := by
      rcases hp.2 with h | h
      · have := hfr (j, kj) (by simp [BT.rem]) (fun e' => e e'.symm)
        rw [h] at this; cases this
      · exact h
    have hap := hsw.2
    have h4 : 4 ≤ kj := by
      have := hsw.1
      simp only [swapB, Bool.or_eq_true, Bool.and_eq_true, decide_eq_true_eq, beq_iff_eq, bne_iff_ne] at this
      omega
    obtain ⟨hno, hr'⟩ := ih _ hok.2 hnd.2 hm' (fun x hx => hfr x (List.mem_cons_of_mem _ hx)) hr
    have hq : ∀ c a w, Q (.panic c) (a.put oj.dst vj) w → Q (.panic c) a w := fun c a w hq => by
      cases hd : oj.dst with
      | none => rw [hd] at hq; exact hq
      | some d => rw [hd] at hq; exact hQ c a w d _ hq
    have hsj := fun cs b => hsel j oj cs b hoj
    have hsi := fun cs b => hsel i oi cs b hoi
    simp only [BT.choose, if_neg e]
    refine ⟨fun x hx => ?_, ?_⟩
    · rcases List.mem_cons.1 hx with rfl | hx
      · simp only; omega
      · exact hno x hx
    · have h2 := wpOp_put hoi hap hsj hsi hq (hy.2.2 h4) hr'
      exact wpOp_mono (fun a' w' h3 => ⟨oj, vj, hoj, ⟨fun e => absurd e (by omega), fun e => absurd e (by omega), fun _ => h3.1⟩, h3.2⟩) h2
  | eff j t ih =>
    intro a hok hnd hm hfr h
    exfalso
    simp only [BT.okB, Bool.and_eq_true, List.all_eq_true] at hok
    rcases List.mem_cons.1 hm with h | h
    · injection h with _ h; omega
    · have := hfr (j, 2) (by simp [BT.rem]) (fun e' => by
        simp only [BT.rem, List.map_cons, List.nodup_cons] at hnd
        exact hnd.1 (List.mem_map.2 ⟨_, h, e'.symm⟩))
      rw [(hok.1 _ h).1] at this
      cases this
  | br j t l u iht ihu =>
    intro a hok hnd hm hfr h
    exfalso
    simp only [BT.okB, Bool.and_eq_true, List.all_eq_true, decide_eq_true_eq, Bool.or_eq_true, beq_iff_eq, bne_iff_ne, List.contains_iff_mem, Bool.not_eq_true'] at hok
    obtain ⟨⟨⟨⟨⟨⟨⟨⟨⟨hjl, hall⟩, hlt⟩, hju⟩, hlu⟩, htu⟩, hut⟩, hndu⟩, hokt⟩, hoku⟩ := hok
    have hnd0 := hnd
    simp only [BT.rem, List.map_cons, List.nodup_cons] at hnd
    rcases List.mem_cons.1 hm with h | h
    · injection h with _ h; omega
    · have hij : i ≠ j := fun e => hnd.1 (List.mem_map.2 ⟨_, h, e⟩)
      have hil : i ≠ l := fun e => by
        have := fst_inj hnd.2 h hlt e
        injection this with _ this; omega
      rcases (hall _ h).2 with (h' | h') | h'
      · exact hil h'
      · have := hfr (j, 2) (by simp [BT.rem]) (fun e' => hij e'.symm)
        rw [List.contains_iff_mem.2 h'] at this; cases this
      · have := hfr (l, 2) (List.mem_cons_of_mem _ hlt) (fun e' => hil e'.symm)
        rw [List.contains_iff_mem.2 h'] at this; cases this
  | last j t ih =>
    intro a hok hnd hm hfr h
    simp only [BT.okB, Bool.and_eq_true, List.all_eq_true, bne_iff_ne] at hok
    have e : i = j := by
      rcases List.mem_cons.1 hm with h | h
      · injection h
      · by_cases e : i = j
        · exact e
        · have := hfr (j, 3) (by simp [BT.rem]) (fun e' => e e'.symm)
          rw [(hok.1 _ h).1.1] at this
          cases this
    subst e
    exact ⟨fun x hx => (hok.1 x hx).2, h⟩

structure InvT (ops : Array Oper) (t : BT) (listed : Array Bool) : Prop where
  size : listed.size = ops.size
  mem : ∀ i, i ∈ t.rem.map (·.1) ↔ i < ops.size ∧ listed.getD i false = false
  nodup : (t.rem.map (·.1)).Nodup
  closed : Closed ops listed
  ok : t.okB ops (tbl ops ops.size) = true
  inside : ∀ x ∈ t.rem, ∀ p ∈ preds ops x.1, p < ops.size ∧ p ≠ x.1
  kinds : ∀ x ∈ t.rem, x.2 ≤ 3 ∨ 4 ≤ x.2

theorem InvT.head {t : BT} {listed : Array Bool} (h : InvT ops t listed) (x : Nat × Nat) (hx : x ∈ t.rem) (hp : ∀ y ∈ t.rem, y.1 ≠ x.1 → (preds ops x.1).contains y.1 = false) : x.1 ∈ Region.ready .any ops listed := by
  have hx' := (h.mem x.1).1 (List.mem_map_of_mem hx)
  obtain ⟨o, ho⟩ : ∃ o, ops[x.1]? = some o := ⟨_, Array.getElem?_eq_getElem hx'.1⟩
  refine mem_ready.2 ⟨by rw [getD_true_false (by rw [h.size]; exact hx'.1)]; exact hx'.2, o, ho, fun e he hb => ?_⟩
  have hpm := mem_preds ho he hb
  obtain ⟨h1, h2⟩ := h.inside x hx e.on hpm
  cases hl : listed.getD e.on false with
  | true => rfl
  | false =>
    obtain ⟨y, hy, hye⟩ := List.mem_map.1 ((h.mem e.on).2 ⟨h1, hl⟩)
    have := hp y hy (by show y.1 ≠ x.1; rw [hye]; exact h2)
    rw [hye, List.contains_iff_mem.2 hpm] at this
    cases this

theorem InvT.ready {t : BT} {listed : Array Bool} (h : InvT ops t listed) (hne : t.rem ≠ []) : Region.ready .any ops listed ≠ [] := by
  have hok := h.ok
  have : ∃ i, i ∈ Region.ready .any ops listed := by
    cases t with
    | leaf => exact absurd rfl hne
    | still i k t =>
      simp only [BT.okB, Bool.and_eq_true, List.all_eq_true] at hok
      refine ⟨i, h.head (i, k) (by simp [BT.rem]) (fun y hy hy' => ?_)⟩
      rcases List.mem_cons.1 hy with rfl | hy
      · exact absurd rfl hy'
      · have := hok.1.2 y hy
        simp only [pairB, Bool.and_eq_true, Bool.not_eq_true'] at this
        exact this.1.1
    | eff i t =>
      simp only [BT.okB, Bool.and_eq_true, List.all_eq_true, Bool.not_eq_true'] at hok
      refine ⟨i, h.head (i, 2) (by simp [BT.rem]) (fun y hy hy' => ?_)⟩
      rcases List.mem_cons.1 hy with rfl | hy
      · exact absurd rfl hy'
      · exact (hok.1 y hy).2
    | br i t j u =>
      simp only [BT.okB, Bool.and_eq_true, List.all_eq_true, Bool.not_eq_true'] at hok
      refine ⟨i, h.head (i, 2) (by simp [BT.rem]) (fun y hy hy' => ?_)⟩
      rcases List.mem_cons.1 hy with rfl | hy
      · exact absurd rfl hy'
      · exact (hok.1.1.1.1.1.1.1.1.2 y hy).1
    | last i t =>
      simp only [BT.okB, Bool.and_eq_true, List.all_eq_true, Bool.not_eq_true'] at hok
      refine ⟨i, h.head (i, 3) (by simp [BT.rem]) (fun y hy hy' => ?_)⟩
      rcases List.mem_cons.1 hy with rfl | hy
      · exact absurd rfl hy'
      · exact (hok.1 y hy).1.2
  obtain ⟨i, hi⟩ := this
  intro e
  rw [e] at hi
  cases hi

theorem InvT.front {t : BT} {listed : Array Bool} {i : Nat} (h : InvT ops t listed) (hr : i ∈ Region.ready .any ops listed) (hil : i < ops.size) :
    Closed ops (listed.setIfInBounds i true) ∧ ∀ x ∈ t.rem, x.1 ≠ i → ((tbl ops ops.size).getD i []).contains x.1 = false := by
  have hc2 : Closed ops (listed.setIfInBounds i true) := by
    intro j p hp hl
    by_cases e : i = j
    · subst e
      obtain ⟨_, o, ho, hall⟩ := mem_ready.1 hr
      obtain ⟨o', ed, ho', he, hb, rfl⟩ := of_preds hp
      obtain rfl : o = o' := Option.some.inj (ho.symm.trans ho')
      exact getD_set_true (hall ed he hb)
    · rw [getD_set_ne false e] at hl
      exact getD_set_true (h.closed j p hp hl)
  refine ⟨hc2, fun x hx hne => ?_⟩
  rw [Bool.eq_false_iff]
  intro hmem
  have hl := tbl_sound hc2 _ i x.1 (List.contains_iff_mem.1 hmem) (by simp [h.size, hil])
  have hxl := (h.mem x.1).1 (List.mem_map_of_mem hx)
  rw [getD_set_ne false (fun e => hne e.symm), hxl.2] at hl
  cases hl

theorem InvT.step {t : BT} {listed : Array Bool} {i k : Nat} (h : InvT ops t listed) (hm : (i, k) ∈ t.rem) (hr : i ∈ Region.ready .any ops listed) : InvT ops (t.choose i) (listed.setIfInBounds i true) ∧ (t.choose i).rem.length + 1 = t.rem.length := by
  have hil : i < ops.size := ((h.mem i).1 (List.mem_map.2 ⟨_, hm, rfl⟩)).1
  obtain ⟨hc2, hfr⟩ := h.front hr hil
  obtain ⟨h1, h2, h3⟩ := choose_spec i k t h.ok h.nodup hm hfr
  refine ⟨⟨by simp [h.size], fun j => ?_, h3, hc2, h2, fun x hx => h.inside x ((h1 x).1 hx).1, fun x hx => h.kinds x ((h1 x).1 hx).1⟩, ?_⟩
  · constructor
    · intro hj
      obtain ⟨y, hy, rfl⟩ := List.mem_map.1 hj
      obtain ⟨hy1, hy2⟩ := (h1 y).1 hy
      have := (h.mem y.1).1 (List.mem_map_of_mem hy1)
      exact ⟨this.1, by rw [getD_set_ne false (fun e => hy2 e.symm)]; exact this.2⟩
    · rintro ⟨hj, hl⟩
      have hne : j ≠ i := fun e => by
        subst e
        simp [h.size, hj] at hl
      rw [getD_set_ne false (fun e => hne e.symm)] at hl
      obtain ⟨y, hy, rfl⟩ := List.mem_map.1 ((h.mem j).2 ⟨hj, hl⟩)
      exact List.mem_map_of_mem ((h1 y).2 ⟨hy, hne⟩)
  · have hp : t.rem.Perm ((i, k) :: (t.choose i).rem) := by
      have n1 : t.rem.Nodup := nodup_of_fst h.nodup
      have n2 : (t.choose i).rem.Nodup := nodup_of_fst h3
      refine (List.perm_ext_iff_of_nodup n1 (List.nodup_cons.2 ⟨fun hh => ((h1 _).1 hh).2 rfl, n2⟩)).2 (fun y => ?_)
      simp only [List.mem_cons, h1]
      constructor
      · intro hy
        by_cases e : y.1 = i
        · exact .inl (fst_inj h.nodup hy hm e)
        · exact .inr ⟨hy, e⟩
      · rintro (rfl | ⟨hy, _⟩)
        · exact hm
        · exact hy
    have := hp.length_eq
    simp only [List.length_cons] at this
    omega

theorem wpAny_of_bt (hsel : ∀ (j : Nat) (o : Oper) cs b, ops[j]? = some o → o.op ≠ .select cs b) (hQ : ∀ c a w (d : Tmp) v, Q (.panic c) (a.put (some d) v) w → Q (.panic c) a w) :
    ∀ (n : Nat) (t : BT) (listed : Array Bool) (a : Act) (w : World), t.rem.length = n → InvT ops t listed → ((∃ x ∈ t.rem, x.2 = 0) → S w) → wpBT P ops Q S t a w → wpAny P .any ops Q n listed a w
  | 0, t, listed, a, w, hn, inv, _, h => by
    have hnil := List.eq_nil_of_length_eq_zero hn
    have hleaf : t = .leaf := by cases t <;> simp [BT.rem] at hnil; rfl
    subst hleaf
    refine ⟨?_, h⟩
    cases hrd : Region.ready .any ops listed with
    | nil => rfl
    | cons j js =>
      have hj : j ∈ Region.ready .any ops listed := by rw [hrd]; simp
      obtain ⟨h1, o, ho, _⟩ := mem_ready.1 hj
      have hlt : j < ops.size := (Array.getElem?_eq_some_iff.1 ho).1
      have := (inv.mem j).2 ⟨hlt, by rw [← getD_true_false (by rw [inv.size]; exact hlt)]; exact h1⟩
      simp [BT.rem] at this
  | n + 1, t, listed, a, w, hn, inv, hS, h => by
    refine ⟨fun h0 => absurd h0 (inv.ready (fun e => by rw [e] at hn; cases hn)), fun i hi => ?_⟩
    obtain ⟨h1, oi, hoi, _⟩ := mem_ready.1 hi
    have hlt : i < ops.size := (Array.getElem?_eq_some_iff.1 hoi).1
    obtain ⟨⟨i', k⟩, hx, rfl⟩ := List.mem_map.1 ((inv.mem i).2 ⟨hlt, by rw [← getD_true_false (by rw [inv.size]; exact hlt)]; exact h1⟩)
    obtain ⟨inv', hlen⟩ := inv.step hx hi
    have hfr := (inv.front hi hlt).2
    have hch := (choose_spec i' k t inv.ok inv.nodup hx hfr).1
    have hpass : (∃ x ∈ (t.choose i').rem, x.2 = 0) → S w := fun ⟨x, hx, h0⟩ => hS ⟨x, ((hch x).1 hx).1, h0⟩
    have go : wpOp P ops Q i' (fun a' w' => ((∃ x ∈ (t.choose i').rem, x.2 = 0) → S w') ∧ wpBT P ops Q S (t.choose i') a' w') a w := by
      by_cases hk : k ≤ 1 ∨ 4 ≤ k
      · obtain ⟨v, y0, hr⟩ := front_bt i' k hk oi hoi hsel w t a inv.ok inv.nodup hx hfr h
        rcases hk with hk | hk
        · rcases Nat.le_one_iff_eq_zero_or_eq_one.1 hk with rfl | rfl
          · exact (y0.1 rfl).wpOp hoi (hS ⟨_, hx, rfl⟩) ⟨hpass, hr⟩
          · exact wpOp_of_yieldsAt hoi (y0.2.1 rfl) ⟨hpass, hr⟩
        · exact (y0.2.2 hk).wpOp hoi ⟨hpass, hr⟩
      · have hk2 : k = 2 ∨ k = 3 := by
          have := inv.kinds _ hx
          simp only at this
          omega
        rcases hk2 with rfl | rfl
        · exact wpOp_mono (fun a' w' h' => ⟨fun _ => h'.1, h'.2⟩) (front_be i' oi hoi hsel hQ w t a inv.ok inv.nodup hx hfr h)
        · obtain ⟨hno, h9⟩ := front_bl i' oi hoi hsel hQ w t a inv.ok inv.nodup hx hfr h
          exact wpOp_mono (fun a' w' h' => ⟨fun ⟨x, hx, h0⟩ => absurd h0 (hno x hx), h'⟩) h9
    exact wpOp_mono (fun a' w' h' => wpAny_of_bt hsel hQ n (t.choose i') _ a' w' (by omega) inv' h'.1 h'.2) go

def btB (ops : Array Oper) (t : BT) : Bool :=
  Region.noSelect ops && (List.range ops.size).all (fun i => (t.rem.map (·.1)).contains i) && t.rem.all (fun x => decide (x.1 < ops.size) && (decide (x.2 ≤ 3) || decide (4 ≤ x.2)) && (preds ops x.1).all (fun p => decide (p < ops.size) && p != x.1)) &&
    decide (t.rem.map (·.1)).Nodup && decide (t.rem.length = ops.size) && t.okB ops (tbl ops ops.size)

/-- THE RULE. -/
theorem wp_region_bt {id : Nat} {a : Act} {w : World} (S : World → Prop) (t : BT) (hm : P.follows .mixedOrders = true) (hB : btB ops t = true)
    (hQ : ∀ c a w (d : Tmp) v, Q (.panic c) (a.put (some d) v) w → Q (.panic c) a w) (hS : S w.drew) (h : wpBT P ops Q S t a w.drew) : (Code.region id ops true).wp P Q a w := by
  simp only [btB, Bool.and_eq_true, decide_eq_true_eq] at hB
  obtain ⟨⟨⟨⟨⟨h1, h2⟩, h3⟩, h4⟩, hlen⟩, h5⟩ := hB
  refine wp_region_any hm ?_
  refine wpAny_of_bt (S := S) (Region.noSelect_spec h1) hQ ops.size t _ a _ hlen ⟨by simp, fun i => ?_, h4, fun j p hp hl => ?_, h5, fun x hx p hp => ?_, fun x hx => ?_⟩ (fun _ => hS) h
  · rw [getD_replicate_false]
    constructor
    · intro hi
      obtain ⟨x, hx, rfl⟩ := List.mem_map.1 hi
      have := List.all_eq_true.1 h3 x hx
      simp only [Bool.and_eq_true, decide_eq_true_eq] at this
      exact ⟨this.1.1, rfl⟩
    · rintro ⟨hi, _⟩
      have := List.all_eq_true.1 h2 i (List.mem_range.2 hi)
      simpa using this
  · rw [getD_replicate_false] at hl; cases hl
  · have := List.all_eq_true.1 h3 x hx
    simp only [Bool.and_eq_true] at this
    have h6 := List.all_eq_true.1 this.2 p hp
    simp only [Bool.and_eq_true, decide_eq_true_eq] at h6
    exact ⟨h6.1, by simpa using h6.2⟩
  · have := List.all_eq_true.1 h3 x hx
    simp only [Bool.and_eq_true, Bool.or_eq_true, decide_eq_true_eq] at this
    exact this.1.2

section bsteps
variable {a : Act} {w : World} {t u : BT} {i j : Nat}
theorem bpurek {o : Oper} (ho : ops[i]? = some o) (hw : Region.wanted o (yielded ops a.tmps) = true)
    (h : ∀ K : Act → Prop, (∀ a, wpBT P ops Q S t a w → K a) → ∃ v, (∀ w, (execOp a.eval o).run P w = .ok (.value v) w) ∧ K (a.put o.dst v)) : wpBT P ops Q S (.still i 4 t) a w := by
  obtain ⟨v, h1, h2⟩ := h _ (fun _ h => h)
  exact ⟨o, v, ho, ⟨fun e => absurd e (by decide), fun e => absurd e (by decide), fun _ => .inl ⟨hw, h1⟩⟩, h2⟩
theorem bheldk {o : Oper} (ho : ops[i]? = some o) (hw : Region.wanted o (yielded ops a.tmps) = true)
    (h : ∀ K : Act → Prop, (∀ a, wpBT P ops Q S t a w → K a) → ∃ v, (∀ w, S w → (execOp a.eval o).run P w = .ok (.value v) w) ∧ K (a.put o.dst v)) : wpBT P ops Q S (.still i 0 t) a w := by
  obtain ⟨v, h1, h2⟩ := h _ (fun _ h => h)
  exact ⟨o, v, ho, ⟨fun _ => .inl ⟨hw, h1⟩, fun e => absurd e (by decide), fun e => absurd e (by decide)⟩, h2⟩
theorem breadk {o : Oper} (ho : ops[i]? = some o) (hw : Region.wanted o (yielded ops a.tmps) = true)
    (h : ∀ K : Act → Prop, (∀ a, wpBT P ops Q S t a w → K a) → ∃ v, (execOp a.eval o).run P w = .ok (.value v) w ∧ K (a.put o.dst v)) : wpBT P ops Q S (.still i 1 t) a w := by
  obtain ⟨v, h1, h2⟩ := h _ (fun _ h => h)
  exact ⟨o, v, ho, ⟨fun e => absurd e (by decide), fun _ => .inl ⟨hw, .inl h1⟩, fun e => absurd e (by decide)⟩, h2⟩
theorem beff {o : Oper} (ho : ops[i]? = some o) (hg : o.guard = none) (h : ∀ K : Act → World → Prop, (∀ a w, S w → wpBT P ops Q S t a w → K a w) → o.wp P a w K NoQ) : wpBT P ops Q S (.eff i t) a w := by
  show wpOp P ops Q i (fun a' w' => S w' ∧ wpBT P ops Q S t a' w') a w
  unfold wpOp
  simp only [ho]
  rw [if_pos (by simp [Region.wanted, hg])]
  exact .inl (wp_of_noQ (h _ fun _ _ h1 h2 => ⟨h1, h2⟩))
theorem blast {o : Oper} (ho : ops[i]? = some o) (hg : o.guard = none) (h : ∀ K : Act → World → Prop, (∀ a w, wpBT P ops Q S t a w → K a w) → o.wp P a w K NoQ) : wpBT P ops Q S (.last i t) a w := by
  show wpOp P ops Q i (fun a' w' => wpBT P ops Q S t a' w') a w
  unfold wpOp
  simp only [ho]
  rw [if_pos (by simp [Region.wanted, hg])]
  exact .inl (wp_of_noQ (h _ fun _ _ h2 => h2))
theorem bfork (h1 : wpBT P ops Q S (.eff i t) a w) (h2 : wpBT P ops Q S (.eff j u) a w) : wpBT P ops Q S (.br i t j u) a w := ⟨h1, h2⟩
theorem bdone (h : Q .normal a w) : wpBT P ops Q S .leaf a w := h
end bsteps
attribute [irreducible] wpBT
end Text
end Go.Proofs.Ytakedococfklgaa
/- Two rows of bytes that a call owns; a column of shares; contract of column.distance. -/
namespace Go.Proofs.Ytakedococfklgaa
open Go.RowKit Gf

attribute [local go_sem] Gf.xor_bits Gf.and_bits Gf.or_bits Gf.ne_zero_iff Gf.eq_zero_iff Gf.eq_one_iff Gf.beq_bytes Gf.bne_bytes Gf.bv_toNat

/-- Two rows of bytes in different blocks. -/
structure R2 (base : Nat) (w : World) (v1 v2 : Value) (a b : List UInt8) : Prop where
  o1 : w.ownsRow base 5 1 v1 a.length (a.map B)
  o2 : w.ownsRow base 5 1 v2 b.length (b.map B)
  d : ∀ g, v1.ownBlock = some g → v2.ownBlock ≠ some g
section
variable {base : Nat} {w w' : World} {v1 v2 v' : Value} {a b : List UInt8} {x : UInt8}
theorem R2.kept (h : R2 base w v1 v2 a b) (hb : Below w.heap.size w w') : R2 base w' v1 v2 a b :=
  ⟨Kp.own (S := fun _ => False) (Kp.of_below hb) h.o1 (fun _ _ => id), Kp.own (S := fun _ => False) (Kp.of_below hb) h.o2 (fun _ _ => id), h.d⟩
theorem R2.drew (h : R2 base w v1 v2 a b) : R2 base w.drew v1 v2 a b := ⟨h.o1, h.o2, h.d⟩
theorem R2.nil (base : Nat) (w : World) : R2 base w (.slice none 0 0) (.slice none 0 0) [] [] := ⟨World.ownsRow_nil _ _ _ _, World.ownsRow_nil _ _ _ _, fun g h => by simp [Value.ownBlock] at h⟩
theorem R2.app1 (h : R2 base w v1 v2 a b) (hp : AppPost base 5 v1 a.length 1 (a.map B ++ [B x]) v' w w') : R2 base w' v' v2 (a ++ [x]) b := by
  have hK : Kp (fun q => v1.ownBlock = some q) w w' := (Kp.refl _ _).grown hp.2.1 (fun _ e => .inl e)
  refine ⟨by simpa using hp.1, Kp.own hK h.o2 (fun g hg hg' => h.d g hg' hg), fun g hg hg' => ?_⟩
  rcases hp.2.2 with h1 | h1
  · exact h.d g (h1.symm.trans hg) hg'
  · have := (h.o2.lt g hg').2
    rw [h1] at hg
    injection hg with hg
    omega
theorem R2.app2 (h : R2 base w v1 v2 a b) (hp : AppPost base 5 v2 b.length 1 (b.map B ++ [B x]) v' w w') : R2 base w' v1 v' a (b ++ [x]) := by
  have hK : Kp (fun q => v2.ownBlock = some q) w w' := (Kp.refl _ _).grown hp.2.1 (fun _ e => .inl e)
  refine ⟨Kp.own hK h.o1 (fun g hg hg' => h.d g hg hg'), by simpa using hp.1, fun g hg hg' => ?_⟩
  rcases hp.2.2 with h1 | h1
  · exact h.d g hg (h1.symm.trans hg')
  · have := (h.o1.lt g hg).2
    rw [h1] at hg'
    injection hg' with hg'
    omega
end

/-- A column: one byte of each share. -/
structure Col (w : World) (gc : Nat) (A A' : Option Addr) (n c c' t : Nat) (xs ys : List UInt8) : Prop where
  c0 : w.cell? ⟨gc, 0, none⟩ = some (.slice A n c)
  c1 : w.cell? ⟨gc, 1, none⟩ = some (.slice A' n c')
  c2 : w.cell? ⟨gc, 2, none⟩ = some (.int .i64 (t : Int))
  b0 : BS w A n c xs
  b1 : BS w A' n c' ys
section
variable {w w' : World} {gc : Nat} {A A' : Option Addr} {n c c' t : Nat} {xs ys : List UInt8}
theorem Col.kept (h : Col w gc A A' n c c' t xs ys) (hb : Below w.heap.size w w') : Col w' gc A A' n c c' t xs ys := ⟨cell_kept hb h.c0, cell_kept hb h.c1, cell_kept hb h.c2, h.b0.kept hb, h.b1.kept hb⟩
theorem Col.drewN (h : Col w gc A A' n c c' t xs ys) (k : Nat) : Col (w.drewN k) gc A A' n c c' t xs ys := ⟨h.c0, h.c1, h.c2, h.b0, h.b1⟩
end
/-- The number of the first k places at which p is not y. -/
def dsK (xs ys p : List UInt8) : Nat → Nat
  | 0 => 0
  | k + 1 => if Py.ev p (gB xs k) = gB ys k then dsK xs ys p k else dsK xs ys p k + 1
theorem dsK_le (xs ys p : List UInt8) : ∀ k, dsK xs ys p k ≤ k
  | 0 => Nat.le_refl _
  | k + 1 => by have := dsK_le xs ys p k; unfold dsK; split <;> omega

set_option maxRecDepth 100000 in
set_option maxHeartbeats 1000000 in
theorem distance_any (gc : Nat) (A A' Ap : Option Addr) (n c c' t np cp : Nat) (xs ys p : List UInt8) (w : World) (h : Col w gc A A' n c c' t xs ys) (hp : BS w Ap np cp p) :
    Calls Try.prog 67 #[.pointer (some ⟨gc, 0, none⟩), .slice Ap np cp] w fun e w' => e = .returned (.int .i64 (dsK xs ys p n : Int)) ∧ ∃ m, w' = w.drewN m := by
  have hn := h.b0.len_le
  have hc0 := h.c0
  have H := Lib.hid h
  have HP := Lib.hid hp
  clear h hp
  go_enter Try.func67, Try.ntmps67
  go_wp2_with fail
  clear hc0
  go_loopw [5, 13] (fun v i wr => ∃ (k d : Nat), k ≤ n ∧ d ≤ k ∧ v = .int .i64 (d : Int) ∧ i = .int .i64 (k : Int) ∧ Hid (d = dsK xs ys p k) ∧ Hid (∃ m, wr = w.drewN m)) (fun _ i _ => n - (intOf i).toNat)
  case atStart => exact ⟨0, 0, by omega, by omega, rfl, rfl, Lib.hid rfl, Lib.hid ⟨0, rfl⟩⟩
  case round =>
    obtain ⟨k, d, hk, hdk, rfl, rfl, hd, hw⟩ := hrel
    by_cases hlt : k < n
    · obtain ⟨m, hm⟩ := hw.out
      have HW : Col wr gc A A' n c c' t xs ys := by rw [hm]; exact H.out.drewN m
      have HPW : Hid (BS wr Ap np cp p) := Lib.hid (by rw [hm]; exact HP.out.drewN m)
      have HM := Lib.hid hm
      clear hm
      obtain ⟨g, o, rfl, hc⟩ := HW.b0.at_ (Below.refl _ _) hlt
      obtain ⟨g', o', rfl, hc'⟩ := HW.b1.at_ (Below.refl _ _) hlt
      have hc1 := HW.c1
      clear HW
      by_cases he : Py.ev p (gB xs k) = gB ys k
      · have q : (Py.ev p (gB xs k) != gB ys k) = false := by simpa using he
        have HD : Hid (d = dsK xs ys p (k + 1)) := Lib.hid (by rw [dsK, if_pos he]; exact hd.out)
        have HE := Lib.hid he
        clear he hd
        go_wp2_with fail
        go_quiet ((go_at_call 69; exact Calls.quiet_of (eval_any _ _ _ _ _ _ (HPW.out.drewN _))))
        go_wp2_with fail
        go_roundw
        case rel => exact ⟨k + 1, d, by omega, by omega, rfl, by go_num, HD, Lib.hid ⟨_, by rw [HM.out, World.drewN_drewN]⟩⟩
        case measure => simp [intOf]; omega
      · have q : (Py.ev p (gB xs k) != gB ys k) = true := by simpa using he
        have HD : Hid (d + 1 = dsK xs ys p (k + 1)) := Lib.hid (by rw [dsK, if_neg he, hd.out])
        have HE := Lib.hid he
        clear he hd
        go_wp2_with fail
        go_quiet ((go_at_call 69; exact Calls.quiet_of (eval_any _ _ _ _ _ _ (HPW.out.drewN _))))
        go_wp2_with fail
        go_roundw
        case rel => exact ⟨k + 1, d + 1, by omega, by omega, by go_num, by go_num, HD, Lib.hid ⟨_, by rw [HM.out, World.drewN_drewN]⟩⟩
        case measure => simp [intOf]; omega
    · obtain rfl : k = n := by omega
      go_wp2_with fail
      go_ret
      exact ⟨ret_int (by rw [hd.out]), hw.out⟩
end Go.Proofs.Ytakedococfklgaa
/- Contract of column.through. -/
namespace Go.Proofs.Ytakedococfklgaa
open Go.RowKit Gf

attribute [local go_sem] Gf.xor_bits Gf.and_bits Gf.or_bits Gf.ne_zero_iff Gf.eq_zero_iff Gf.eq_one_iff Gf.beq_bytes Gf.bne_bytes Gf.bv_toNat

/-- Truth values. -/
def gO (l : List Bool) (k : Nat) : Bool := l.getD k false
def WS (w : World) (A : Option Addr) (n c : Nat) (l : List Bool) : Prop := l.length = n ∧ n ≤ c ∧ n ≤ lim ∧ Cells w A n (fun k => .bool (gO l k))
theorem WS.kept {w w' : World} {A : Option Addr} {n c : Nat} {l : List Bool} (h : WS w A n c l) (hb : Below w.heap.size w w') : WS w' A n c l := ⟨h.1, h.2.1, h.2.2.1, h.2.2.2.kept hb⟩
theorem WS.at_ {w w' : World} {A : Option Addr} {n c : Nat} {l : List Bool} (h : WS w A n c l) (hb : Below w.heap.size w w') {k : Nat} (hk : k < n) : ∃ g o, A = some ⟨g, o, none⟩ ∧ w'.cell? ⟨g, o + k, none⟩ = some (.bool (gO l k)) := (h.kept hb).2.2.2 k hk

/-- The points that through takes, so far. -/
def thK (xs ys : List UInt8) (wl : List Bool) (t : Nat) : Nat → List UInt8 × List UInt8
  | 0 => ([], [])
  | k + 1 => if gO wl k = false ∧ (thK xs ys wl t k).1.length < t then ((thK xs ys wl t k).1 ++ [gB xs k], (thK xs ys wl t k).2 ++ [gB ys k]) else thK xs ys wl t k
theorem thK_len (xs ys : List UInt8) (wl : List Bool) (t : Nat) : ∀ k, (thK xs ys wl t k).1.length = (thK xs ys wl t k).2.length ∧ (thK xs ys wl t k).1.length ≤ k
  | 0 => ⟨rfl, Nat.le_refl _⟩
  | k + 1 => by
    have := thK_len xs ys wl t k
    unfold thK
    split
    · simp; omega
    · omega
theorem dst_iff (l : List UInt8) : Py.Dst l ↔ l.Nodup := by
  unfold Py.Dst List.Nodup
  rw [List.pairwise_iff_getElem]
  constructor
  · intro h i j hi hj hij
    have := h i j hij hj
    rwa [gB_eq hi, gB_eq hj] at this
  · intro h i j hij hj
    rw [gB_eq (show i < l.length by omega), gB_eq hj]
    exact h i j (by omega) hj hij
theorem thK_sub (xs ys : List UInt8) (wl : List Bool) (t : Nat) : ∀ k, k ≤ xs.length → (thK xs ys wl t k).1.Sublist (xs.take k)
  | 0, _ => by simp [thK]
  | k + 1, h => by
    have ih := thK_sub xs ys wl t k (by omega)
    rw [List.take_succ_eq_append_getElem (by omega)]
    unfold thK
    split
    · rw [gB_eq (by omega)]; exact List.Sublist.append ih (List.Sublist.refl _)
    · exact ih.trans (List.sublist_append_left _ _)
theorem thK_dst {xs : List UInt8} (ys : List UInt8) (wl : List Bool) (t : Nat) (h : Py.Dst xs) : Py.Dst (thK xs ys wl t xs.length).1 := by
  rw [dst_iff] at h ⊢
  have := thK_sub xs ys wl t xs.length (Nat.le_refl _)
  rw [List.take_length] at this
  exact h.sublist this
/-- The polynomial that through returns. -/
def thP (xs ys : List UInt8) (wl : List Bool) (t : Nat) : List UInt8 := Py.itP (thK xs ys wl t xs.length).1 (thK xs ys wl t xs.length).2

def ThI (base : Nat) (xs ys : List UInt8) (wl : List Bool) (t k n1 : Nat) (v1 v2 : Value) (w : World) : Prop := n1 = (thK xs ys wl t k).1.length ∧ R2 base w v1 v2 (thK xs ys wl t k).1 (thK xs ys wl t k).2
theorem thI_push {base : Nat} {xs ys : List UInt8} {wl : List Bool} {t k : Nat} {v1 v2 : Value} {w : World} (h : gO wl k = false ∧ (thK xs ys wl t k).1.length < t) (hr : R2 base w v1 v2 ((thK xs ys wl t k).1 ++ [gB xs k]) ((thK xs ys wl t k).2 ++ [gB ys k])) :
    (∃ A c, v1 = .slice A (thK xs ys wl t (k + 1)).1.length c) ∧ R2 base w v1 v2 (thK xs ys wl t (k + 1)).1 (thK xs ys wl t (k + 1)).2 := by
  have e : thK xs ys wl t (k + 1) = ((thK xs ys wl t k).1 ++ [gB xs k], (thK xs ys wl t k).2 ++ [gB ys k]) := by rw [thK, if_pos h]
  rw [e]
  refine ⟨?_, hr⟩
  rcases hr.o1.2 with ⟨h1, h2⟩ | ⟨g, cap, cur, h1, _⟩
  · simp at h2
  · exact ⟨_, _, h1⟩

set_option maxRecDepth 100000 in
set_option maxHeartbeats 2000000 in
theorem through_any (gc : Nat) (A A' Aw : Option Addr) (n c c' t cw : Nat) (xs ys : List UInt8) (wl : List Bool) (w : World) (h : Col w gc A A' n c c' t xs ys) (hw : WS w Aw n cw wl) (hn : n ≤ 1000) (hd : Py.Dst xs) :
    Calls Try.prog 66 #[.pointer (some ⟨gc, 0, none⟩), .slice Aw n cw] w (Rets (GvB (thP xs ys wl t)) w) := by
  have hc0 := h.c0
  have H := Lib.hid h
  have HW := Lib.hid hw
  have HLX := Lib.hid h.b0.1
  have HD := Lib.hid hd
  have hn2 : n ≤ 140737488355328 := by omega
  have HN := Lib.hid hn
  obtain ⟨wo, rfl⟩ : ∃ wo : World, wo = w := ⟨_, rfl⟩
  clear h hw hd hn
  go_enter Try.func66, Try.ntmps66
  go_wp2_with fail
  clear hc0
  go_loopw [5, 6, 16] (fun v1 v2 i wr => ∃ (k : Nat) (v1' v2' : Value), k ≤ n ∧ i = .int .i64 (k : Int) ∧ (∃ A c, v1 = .slice A (thK xs ys wl t k).1.length c) ∧ Hid (R2 wo.heap.size wr v1 v2 (thK xs ys wl t k).1 (thK xs ys wl t k).2) ∧ Hid (Below wo.heap.size wo wr)) (fun _ _ i _ => n - (intOf i).toNat)
  case atStart => exact ⟨0, undef, undef, by omega, rfl, ⟨none, 0, rfl⟩, Lib.hid (R2.nil _ _), Lib.hid (Below.refl _ _)⟩
  case round =>
    obtain ⟨k, _, _, hk, rfl, ⟨A5, c5, rfl⟩, hr, hb⟩ := hrel
    by_cases hlt : k < n
    · have HK1 : Hid ((thK xs ys wl t k).1.length ≤ 1000 ∧ (thK xs ys wl t k).2.length ≤ 1000) := Lib.hid (by have h1 := thK_len xs ys wl t k; have h2 := HN.out; omega)
      obtain ⟨m, hm⟩ : ∃ m, m = (thK xs ys wl t k).1.length := ⟨_, rfl⟩
      obtain ⟨gx, ox, rfl, hcx⟩ := H.out.b0.at_ hb.out hlt
      obtain ⟨gy, oy, rfl, hcy⟩ := H.out.b1.at_ (Below.refl _ _) hlt
      obtain ⟨gw, ow, rfl, hcw⟩ := HW.out.at_ hb.out hlt
      have hc2 := (H.out.kept hb.out).c2
      have HY1 := Lib.hid H.out.c1
      have HY2 := Lib.hid hcy
      clear hcy
      rw [← hm]
      have HM := Lib.hid hm
      clear hm
      cases hwk : gO wl k with
      | true =>
        rw [hwk] at hcw
        have HT : Hid (thK xs ys wl t (k + 1) = thK xs ys wl t k) := Lib.hid (by rw [thK, if_neg (by rw [hwk]; simp)])
        go_wp2_with fail
        go_roundw
        case rel => exact ⟨k + 1, undef, undef, by omega, by go_num, ⟨A5, c5, by rw [HT.out, HM.out]⟩, Lib.hid (by rw [HT.out]; have := hr.out; rw [← HM.out] at this; exact this), hb⟩
        case measure => simp [intOf]; omega
      | false =>
        rw [hwk] at hcw
        by_cases hmt : m < t
        · have q : decide ((m : Int) < (t : Int)) = true := by simp; omega
          have q' : decide (m < t) = true := by simpa using hmt
          have HTT : Hid (gO wl k = false ∧ (thK xs ys wl t k).1.length < t) := Lib.hid ⟨hwk, by rw [← HM.out]; exact hmt⟩
          go_wp2_with fail
          obtain ⟨u5, hu5⟩ : ∃ u5 : Value, u5 = .slice A5 m c5 := ⟨_, rfl⟩
          have HCX : Hid (R2 wo.heap.size wr u5 u6 (thK xs ys wl t k).1 (thK xs ys wl t k).2) := Lib.hid (by rw [hu5]; have := hr.out; rw [← HM.out] at this; exact this)
          have HBX := hb
          rw [← hu5]
          clear hu5 hcx hcw hc2 q q'
          refine Text.wp_region_bt (fun w' => w'.cell? ⟨gc, 1, none⟩ = some (.slice (some ⟨gy, oy, none⟩) n c') ∧ w'.cell? ⟨gy, oy + k, none⟩ = some (B (gB ys k))) (.still 0 4 (.still 1 4 (.still 4 4 (.still 5 4 (.still 6 4 (.still 7 4 (.still 8 0 (.still 9 4 (.still 10 4 (.still 11 0 (.br 2 (.br 3 (.eff 12 (.eff 13 (.still 14 4 (.still 15 4 (.leaf))))) 12 (.eff 3 (.eff 13 (.still 14 4 (.still 15 4 (.leaf)))))) 12 (.eff 2 (.eff 3 (.eff 13 (.still 14 4 (.still 15 4 (.leaf))))))))))))))))) (by kernel_rfl) (by kernel_rfl) (fun _ _ _ _ _ h => h) (⟨cell_kept hb.out.drew HY1.out, cell_kept hb.out.drew HY2.out⟩) ?_
          obtain ⟨wd, hwd⟩ : ∃ wd : World, wd = wr.drew := ⟨_, rfl⟩
          have HCwd : Hid (R2 wo.heap.size wd u5 u6 (thK xs ys wl t k).1 (thK xs ys wl t k).2) := Lib.hid (by rw [hwd]; exact HCX.out.drew)
          have HBwd : Hid (Below wo.heap.size wo wd) := Lib.hid (by rw [hwd]; exact HBX.out.drew)
          have HZwd : Hid (wo.heap.size ≤ wd.heap.size) := Lib.hid HBwd.out.size
          rw [← hwd]
          clear hwd HCX HBX
          iterate 6 (refine Text.bpurek rfl rfl (fun K hK => ⟨_, fun w' => by go_simp <;> rfl, ?_⟩); go_simp; refine hK _ ?_; clear hK K)
          have hcd1 := cell_kept HBwd.out HY1.out
          (refine Text.bheldk rfl rfl (fun K hK => ⟨_, fun w' hw' => by have h9 := hw'.1; go_simp <;> rfl, ?_⟩); go_simp; refine hK _ ?_; clear hK K)
          iterate 2 (refine Text.bpurek rfl rfl (fun K hK => ⟨_, fun w' => by go_simp <;> rfl, ?_⟩); go_simp; refine hK _ ?_; clear hK K)
          have hcd2 := cell_kept HBwd.out HY2.out
          (refine Text.bheldk rfl rfl (fun K hK => ⟨_, fun w' hw' => by have h9 := hw'.2; go_simp <;> rfl, ?_⟩); go_simp; refine hK _ ?_; clear hK K)
          clear hcd1 hcd2
          refine Text.bfork ?_ ?_
          · refine Text.beff rfl rfl (fun K hK => ?_)
            go_simp
            obtain ⟨gA, hggA⟩ : ∃ g, g = wd.heap.size := ⟨_, rfl⟩
            obtain ⟨wa1, hwwa1⟩ : ∃ w' : World, w' = wd.alloc (.cells #[B (gB xs k)] 5) := ⟨_, rfl⟩
            have kbwa1 : Below wd.heap.size wd wa1 := by rw [hwwa1]; exact (Below.refl _ _).alloc (Nat.le_refl _) _
            have HgAwa1 : Hid (Blk wa1 gA 5 #[B (gB xs k)]) := Lib.hid (by rw [hwwa1, hggA]; exact Blk.new _ _ _)
            have HCwa1 := Lib.hid (HCwd.out.kept kbwa1)
            have HBwa1 : Hid (Below wo.heap.size wo wa1) := Lib.hid (below_then HBwd.out kbwa1)
            have HFgAwa1 : Hid (∀ v : Value, (∀ q, v.ownBlock = some q → q < wd.heap.size) → v.ownBlock ≠ some gA) := Lib.hid (fun v h e => by have := h _ e; omega)
            rw [← hwwa1, ← hggA]
            refine hK _ _ (⟨cell_kept HBwa1.out HY1.out, cell_kept HBwa1.out HY2.out⟩) ?_
            clear hK K kbwa1 hwwa1 hggA
            refine Text.bfork ?_ ?_
            · refine Text.beff rfl rfl (fun K hK => ?_)
              refine wp_app1 wa1 (.tmp 35) (.tmp 37) 22 5 (.int .u8 0) 1 Try.underlying22 infoU8 rfl rfl wo.heap.size u5 ((thK xs ys wl t k).1).length (((thK xs ys wl t k).1).map B) rfl HCwa1.out.o1 gA 1 5 (B (gB xs k)) rfl HgAwa1.out rfl (by have := HK1.out; omega) (by have := HK1.out; omega) HBwa1.out.size ?_
              intro va2 wa2 hpwa2
              have HCwa2 := Lib.hid (HCwa1.out.app1 hpwa2)
              have HBwa2 : Hid (Below wo.heap.size wo wa2) := Lib.hid (HBwa1.out.grown hpwa2.2.1 HBwa1.out.size (fun q hq => own_base HCwa1.out.o1 q hq))
              refine hK _ _ (⟨cell_kept HBwa2.out HY1.out, cell_kept HBwa2.out HY2.out⟩) ?_
              clear hK K hpwa2
              refine Text.beff rfl rfl (fun K hK => ?_)
              go_simp
              obtain ⟨gS, hggS⟩ : ∃ g, g = wa2.heap.size := ⟨_, rfl⟩
              obtain ⟨wa3, hwwa3⟩ : ∃ w' : World, w' = wa2.alloc (.cells #[B (gB ys k)] 5) := ⟨_, rfl⟩
              have kbwa3 : Below wa2.heap.size wa2 wa3 := by rw [hwwa3]; exact (Below.refl _ _).alloc (Nat.le_refl _) _
              have HgSwa3 : Hid (Blk wa3 gS 5 #[B (gB ys k)]) := Lib.hid (by rw [hwwa3, hggS]; exact Blk.new _ _ _)
              have HCwa3 := Lib.hid (HCwa2.out.kept kbwa3)
              have HBwa3 : Hid (Below wo.heap.size wo wa3) := Lib.hid (below_then HBwa2.out kbwa3)
              have HFgSwa3 : Hid (∀ v : Value, (∀ q, v.ownBlock = some q → q < wa2.heap.size) → v.ownBlock ≠ some gS) := Lib.hid (fun v h e => by have := h _ e; omega)
              rw [← hwwa3, ← hggS]
              refine hK _ _ (⟨cell_kept HBwa3.out HY1.out, cell_kept HBwa3.out HY2.out⟩) ?_
              clear hK K kbwa3 hwwa3 hggS
              refine Text.beff rfl rfl (fun K hK => ?_)
              refine wp_app1 wa3 (.tmp 39) (.tmp 47) 22 5 (.int .u8 0) 1 Try.underlying22 infoU8 rfl rfl wo.heap.size u6 ((thK xs ys wl t k).2).length (((thK xs ys wl t k).2).map B) rfl HCwa3.out.o2 gS 1 5 (B (gB ys k)) rfl HgSwa3.out rfl (by have := HK1.out; omega) (by have := HK1.out; omega) HBwa3.out.size ?_
              intro va4 wa4 hpwa4
              have HCwa4 := Lib.hid (HCwa3.out.app2 hpwa4)
              have HBwa4 : Hid (Below wo.heap.size wo wa4) := Lib.hid (HBwa3.out.grown hpwa4.2.1 HBwa3.out.size (fun q hq => own_base HCwa3.out.o2 q hq))
              refine hK _ _ (⟨cell_kept HBwa4.out HY1.out, cell_kept HBwa4.out HY2.out⟩) ?_
              clear hK K hpwa4
              iterate 2 (refine Text.bpurek rfl rfl (fun K hK => ⟨_, fun w' => by go_simp <;> rfl, ?_⟩); go_simp; refine hK _ ?_; clear hK K)
              refine Text.bdone ?_
              have HFF := Lib.hid (thI_push HTT.out HCwa4.out)
              go_wp2_with fail
              go_roundw
              case rel => exact ⟨k + 1, undef, undef, by omega, by go_num, HFF.out.1, Lib.hid HFF.out.2, HBwa4⟩
              case measure => simp [intOf]; omega
            · refine Text.beff rfl rfl (fun K hK => ?_)
              go_simp
              obtain ⟨gS, hggS⟩ : ∃ g, g = wa1.heap.size := ⟨_, rfl⟩
              obtain ⟨wb2, hwwb2⟩ : ∃ w' : World, w' = wa1.alloc (.cells #[B (gB ys k)] 5) := ⟨_, rfl⟩
              have kbwb2 : Below wa1.heap.size wa1 wb2 := by rw [hwwb2]; exact (Below.refl _ _).alloc (Nat.le_refl _) _
              have HgSwb2 : Hid (Blk wb2 gS 5 #[B (gB ys k)]) := Lib.hid (by rw [hwwb2, hggS]; exact Blk.new _ _ _)
              have HgAwb2 := Lib.hid (HgAwa1.out.kept kbwb2)
              have HCwb2 := Lib.hid (HCwa1.out.kept kbwb2)
              have HBwb2 : Hid (Below wo.heap.size wo wb2) := Lib.hid (below_then HBwa1.out kbwb2)
              have HFgSwb2 : Hid (∀ v : Value, (∀ q, v.ownBlock = some q → q < wa1.heap.size) → v.ownBlock ≠ some gS) := Lib.hid (fun v h e => by have := h _ e; omega)
              have HLgSwb2 : Hid ((∀ q, u5.ownBlock = some q → q < wa1.heap.size) ∧ ∀ q, u6.ownBlock = some q → q < wa1.heap.size) := Lib.hid ⟨fun q h => (HCwa1.out.o1.lt q h).2, fun q h => (HCwa1.out.o2.lt q h).2⟩
              rw [← hwwb2, ← hggS]
              refine hK _ _ (⟨cell_kept HBwb2.out HY1.out, cell_kept HBwb2.out HY2.out⟩) ?_
              clear hK K kbwb2 hwwb2 hggS
              refine Text.beff rfl rfl (fun K hK => ?_)
              refine wp_app1 wb2 (.tmp 35) (.tmp 37) 22 5 (.int .u8 0) 1 Try.underlying22 infoU8 rfl rfl wo.heap.size u5 ((thK xs ys wl t k).1).length (((thK xs ys wl t k).1).map B) rfl HCwb2.out.o1 gA 1 5 (B (gB xs k)) rfl HgAwb2.out rfl (by have := HK1.out; omega) (by have := HK1.out; omega) HBwb2.out.size ?_
              intro vb3 wb3 hpwb3
              have HCwb3 := Lib.hid (HCwb2.out.app1 hpwb3)
              have HBwb3 : Hid (Below wo.heap.size wo wb3) := Lib.hid (HBwb2.out.grown hpwb3.2.1 HBwb2.out.size (fun q hq => own_base HCwb2.out.o1 q hq))
              have HgSwb3 := Lib.hid (grown_blk hpwb3.2.1 HgSwb2.out (HFgSwb2.out _ HLgSwb2.out.1))
              refine hK _ _ (⟨cell_kept HBwb3.out HY1.out, cell_kept HBwb3.out HY2.out⟩) ?_
              clear hK K hpwb3
              refine Text.beff rfl rfl (fun K hK => ?_)
              refine wp_app1 wb3 (.tmp 39) (.tmp 47) 22 5 (.int .u8 0) 1 Try.underlying22 infoU8 rfl rfl wo.heap.size u6 ((thK xs ys wl t k).2).length (((thK xs ys wl t k).2).map B) rfl HCwb3.out.o2 gS 1 5 (B (gB ys k)) rfl HgSwb3.out rfl (by have := HK1.out; omega) (by have := HK1.out; omega) HBwb3.out.size ?_
              intro vb4 wb4 hpwb4
              have HCwb4 := Lib.hid (HCwb3.out.app2 hpwb4)
              have HBwb4 : Hid (Below wo.heap.size wo wb4) := Lib.hid (HBwb3.out.grown hpwb4.2.1 HBwb3.out.size (fun q hq => own_base HCwb3.out.o2 q hq))
              refine hK _ _ (⟨cell_kept HBwb4.out HY1.out, cell_kept HBwb4.out HY2.out⟩) ?_
              clear hK K hpwb4
              iterate 2 (refine Text.bpurek rfl rfl (fun K hK => ⟨_, fun w' => by go_simp <;> rfl, ?_⟩); go_simp; refine hK _ ?_; clear hK K)
              refine Text.bdone ?_
              have HFF := Lib.hid (thI_push HTT.out HCwb4.out)
              go_wp2_with fail
              go_roundw
              case rel => exact ⟨k + 1, undef, undef, by omega, by go_num, HFF.out.1, Lib.hid HFF.out.2, HBwb4⟩
              case measure => simp [intOf]; omega
          · refine Text.beff rfl rfl (fun K hK => ?_)
            go_simp
            obtain ⟨gS, hggS⟩ : ∃ g, g = wd.heap.size := ⟨_, rfl⟩
            obtain ⟨wc1, hwwc1⟩ : ∃ w' : World, w' = wd.alloc (.cells #[B (gB ys k)] 5) := ⟨_, rfl⟩
            have kbwc1 : Below wd.heap.size wd wc1 := by rw [hwwc1]; exact (Below.refl _ _).alloc (Nat.le_refl _) _
            have HgSwc1 : Hid (Blk wc1 gS 5 #[B (gB ys k)]) := Lib.hid (by rw [hwwc1, hggS]; exact Blk.new _ _ _)
            have HCwc1 := Lib.hid (HCwd.out.kept kbwc1)
            have HBwc1 : Hid (Below wo.heap.size wo wc1) := Lib.hid (below_then HBwd.out kbwc1)
            have HFgSwc1 : Hid (∀ v : Value, (∀ q, v.ownBlock = some q → q < wd.heap.size) → v.ownBlock ≠ some gS) := Lib.hid (fun v h e => by have := h _ e; omega)
            have HLgSwc1 : Hid ((∀ q, u5.ownBlock = some q → q < wd.heap.size) ∧ ∀ q, u6.ownBlock = some q → q < wd.heap.size) := Lib.hid ⟨fun q h => (HCwd.out.o1.lt q h).2, fun q h => (HCwd.out.o2.lt q h).2⟩
            rw [← hwwc1, ← hggS]
            refine hK _ _ (⟨cell_kept HBwc1.out HY1.out, cell_kept HBwc1.out HY2.out⟩) ?_
            clear hK K kbwc1 hwwc1 hggS
            refine Text.beff rfl rfl (fun K hK => ?_)
            go_simp
            obtain ⟨gA, hggA⟩ : ∃ g, g = wc1.heap.size := ⟨_, rfl⟩
            obtain ⟨wc2, hwwc2⟩ : ∃ w' : World, w' = wc1.alloc (.cells #[B (gB xs k)] 5) := ⟨_, rfl⟩
            have kbwc2 : Below wc1.heap.size wc1 wc2 := by rw [hwwc2]; exact (Below.refl _ _).alloc (Nat.le_refl _) _
            have HgAwc2 : Hid (Blk wc2 gA 5 #[B (gB xs k)]) := Lib.hid (by rw [hwwc2, hggA]; exact Blk.new _ _ _)
            have HgSwc2 := Lib.hid (HgSwc1.out.kept kbwc2)
            have HCwc2 := Lib.hid (HCwc1.out.kept kbwc2)
            have HBwc2 : Hid (Below wo.heap.size wo wc2) := Lib.hid (below_then HBwc1.out kbwc2)
            have HFgAwc2 : Hid (∀ v : Value, (∀ q, v.ownBlock = some q → q < wc1.heap.size) → v.ownBlock ≠ some gA) := Lib.hid (fun v h e => by have := h _ e; omega)
            rw [← hwwc2, ← hggA]
            refine hK _ _ (⟨cell_kept HBwc2.out HY1.out, cell_kept HBwc2.out HY2.out⟩) ?_
            clear hK K kbwc2 hwwc2 hggA
            refine Text.beff rfl rfl (fun K hK => ?_)
            refine wp_app1 wc2 (.tmp 35) (.tmp 37) 22 5 (.int .u8 0) 1 Try.underlying22 infoU8 rfl rfl wo.heap.size u5 ((thK xs ys wl t k).1).length (((thK xs ys wl t k).1).map B) rfl HCwc2.out.o1 gA 1 5 (B (gB xs k)) rfl HgAwc2.out rfl (by have := HK1.out; omega) (by have := HK1.out; omega) HBwc2.out.size ?_
            intro vc3 wc3 hpwc3
            have HCwc3 := Lib.hid (HCwc2.out.app1 hpwc3)
            have HBwc3 : Hid (Below wo.heap.size wo wc3) := Lib.hid (HBwc2.out.grown hpwc3.2.1 HBwc2.out.size (fun q hq => own_base HCwc2.out.o1 q hq))
            have HgSwc3 := Lib.hid (grown_blk hpwc3.2.1 HgSwc2.out (HFgSwc1.out _ HLgSwc1.out.1))
            refine hK _ _ (⟨cell_kept HBwc3.out HY1.out, cell_kept HBwc3.out HY2.out⟩) ?_
            clear hK K hpwc3
            refine Text.beff rfl rfl (fun K hK => ?_)
            refine wp_app1 wc3 (.tmp 39) (.tmp 47) 22 5 (.int .u8 0) 1 Try.underlying22 infoU8 rfl rfl wo.heap.size u6 ((thK xs ys wl t k).2).length (((thK xs ys wl t k).2).map B) rfl HCwc3.out.o2 gS 1 5 (B (gB ys k)) rfl HgSwc3.out rfl (by have := HK1.out; omega) (by have := HK1.out; omega) HBwc3.out.size ?_
            intro vc4 wc4 hpwc4
            have HCwc4 := Lib.hid (HCwc3.out.app2 hpwc4)
            have HBwc4 : Hid (Below wo.heap.size wo wc4) := Lib.hid (HBwc3.out.grown hpwc4.2.1 HBwc3.out.size (fun q hq => own_base HCwc3.out.o2 q hq))
            refine hK _ _ (⟨cell_kept HBwc4.out HY1.out, cell_kept HBwc4.out HY2.out⟩) ?_
            clear hK K hpwc4
            iterate 2 (refine Text.bpurek rfl rfl (fun K hK => ⟨_, fun w' => by go_simp <;> rfl, ?_⟩); go_simp; refine hK _ ?_; clear hK K)
            refine Text.bdone ?_
            have HFF := Lib.hid (thI_push HTT.out HCwc4.out)
            go_wp2_with fail
            go_roundw
            case rel => exact ⟨k + 1, undef, undef, by omega, by go_num, HFF.out.1, Lib.hid HFF.out.2, HBwc4⟩
            case measure => simp [intOf]; omega
        · have q : decide ((m : Int) < (t : Int)) = false := by simp; omega
          have q' : decide (m < t) = false := by simpa using hmt
          have HT : Hid (thK xs ys wl t (k + 1) = thK xs ys wl t k) := Lib.hid (by rw [thK, if_neg (by rw [← HM.out]; omega)])
          go_wp2_with fail
          go_roundw
          case rel => exact ⟨k + 1, undef, undef, by omega, by go_num, ⟨A5, c5, by rw [HT.out, HM.out]⟩, Lib.hid (by rw [HT.out]; have := hr.out; rw [← HM.out] at this; exact this), hb⟩
          case measure => simp [intOf]; omega
    · obtain rfl : k = n := by omega
      obtain ⟨A6, c6, hv6, hb6⟩ := BS.of_own hr.out.o2 (by have h1 := thK_len xs ys wl t k; unfold lim; omega)
      obtain ⟨A7, c7, hv7, hb7⟩ := BS.of_own hr.out.o1 (by have h1 := thK_len xs ys wl t k; unfold lim; omega)
      injection hv7 with e1 e2 e3
      subst e1 e3
      rw [← (thK_len xs ys wl t k).1] at hv6 hb6
      subst hv6
      obtain ⟨m, hm⟩ : ∃ m, m = (thK xs ys wl t k).1.length := ⟨_, rfl⟩
      rw [← hm] at hb6 hb7 ⊢
      have HM6 := Lib.hid hb6
      have HM7 := Lib.hid hb7
      have hmn : m ≤ 1000 := by have h1 := (thK_len xs ys wl t k).2; have h2 := HN.out; omega
      have HR : Hid (Py.itP (thK xs ys wl t k).1 (thK xs ys wl t k).2 = thP xs ys wl t) := Lib.hid (by rw [thP, HLX.out])
      have HDT : Hid (Py.Dst (thK xs ys wl t k).1) := Lib.hid (by have := thK_dst ys wl t HD.out; rw [HLX.out] at this; exact this)
      clear hb6 hb7 hm hr e2
      go_wp2_with fail
      refine (interp_any _ _ m _ _ _ _ wr HM7.out HM6.out hmn HDT.out).mono ?_
      rintro e w2 ⟨v2, r2, rfl, hv2⟩
      rw [HR.out] at hv2
      obtain ⟨A2, n2, c2, rfl, h21, h22, h23⟩ := hv2
      have HG : Hid (GvB (thP xs ys wl t) wo (.slice A2 n2 c2) w2) := Lib.hid ⟨_, _, _, rfl, h21, (fun a e => Nat.le_trans hb.out.size (h22 a e)), below_then hb.out h23⟩
      clear h21 h22 h23
      go_wp2_with fail
      go_ret
      exact ⟨_, rfl, HG.out⟩
end Go.Proofs.Ytakedococfklgaa
/- Contracts of package polynomial: Add, Mul, DivMod. -/
namespace Go.Proofs.Ytakedococfklgaa
open Go.RowKit Gf

attribute [local go_sem] Gf.xor_bits Gf.and_bits Gf.or_bits Gf.ne_zero_iff Gf.eq_zero_iff Gf.eq_one_iff Gf.beq_bytes Gf.bne_bytes Gf.bv_toNat

theorem splice_some (l : List UInt8) (m : Nat) (h : l.length ≤ m) : splice ((zeros m).map B) 0 (l.map B) = (tab m (gB l)).map B := by
  have e : tab m (gB l) = l ++ zeros (m - l.length) := by
    refine gB_ext (by rw [tab_length, List.length_append, zeros_length]; omega) fun k hk => ?_
    rw [tab_length] at hk
    rw [gB_tab _ hk, gB_append]
    split
    · rfl
    · rw [gB_zeros, gB_ge (by omega)]
  rw [e]
  simp [splice, zeros]

/-- The sums so far. -/
def addS (p q : List UInt8) (m k : Nat) : List UInt8 := tab m (fun i => if i < k then gB p i ^^^ gB q i else gB p i)
theorem addS_set (p q : List UInt8) (m k : Nat) : (addS p q m k).set k (gB p k ^^^ gB q k) = addS p q m (k + 1) := tab_set _ _ _
theorem addS_zero (p q : List UInt8) (m : Nat) : addS p q m 0 = tab m (gB p) := tab_congr fun k _ => if_neg (by omega)
theorem addS_all (p q : List UInt8) (m k : Nat) (h : q.length ≤ k) : addS p q m k = tab m (fun i => gB p i ^^^ gB q i) := tab_congr fun i _ => by
  split
  · rfl
  · rw [gB_ge (l := q) (by omega)]; simp
theorem addS_length (p q : List UInt8) (m k : Nat) : (addS p q m k).length = m := tab_length _ _
theorem addS_get (p q : List UInt8) (m k : Nat) (h : k < m) : gB (addS p q m k) k = gB p k := by rw [addS, gB_tab _ h, if_neg (by omega)]

set_option maxRecDepth 100000 in
set_option maxHeartbeats 1000000 in
theorem add_any (A A' : Option Addr) (n c n' c' : Nat) (p q : List UInt8) (w : World) (hp : BS w A n c p) (hq : BS w A' n' c' q) :
    Calls Try.prog 89 #[.slice A n c, .slice A' n' c'] w (Rets (NewB 5 (Py.addP p q)) w) := by
  have hn := hp.len_le
  have hn' := hq.len_le
  have HLP := Lib.hid hp.1
  have HLQ := Lib.hid hq.1
  have HP := Lib.hid hp
  have HQ := Lib.hid hq
  clear hp hq
  by_cases hnn : n < n'
  · have h1 : n ≤ n' := by omega
    have h2 : n' ≤ n' := by omega
    have HE : Hid (Py.trim (tab n' (fun i => gB p i ^^^ gB q i)) = Py.addP p q) := Lib.hid (by rw [Py.addP, Py.xorL, HLP.out, HLQ.out, show max n n' = n' by omega])
    have hmk := make_bytes n' (by omega)
    have HC := Lib.hid (copy_src (l' := p) (HP.out.kept ((Below.refl _ w).alloc (Nat.le_refl _) (.cells (row (zeros n')) 5))) (by rw [HLP.out]; omega) (fun k _ => rfl))
    have HS := Lib.hid (splice_some p n' (by rw [HLP.out]; exact h1))
    go_enter Try.func89, Try.ntmps89
    go_wp2_with (first
      | (refine wpList_copy_splice (o := ⟨some 16, _, _, _, _, _⟩) rfl (.tmp 14) (.tmp 15) _ _ rfl 5 Try.underlying22 (by kernel_rfl) (some ⟨w.heap.size, 0, none⟩) A n' n' n c rfl rfl w.heap.size 0 ((zeros n').map B) 5 (Blk.new w _ _) (p.map B) (by rw [List.length_map, HLP.out]; exact (Nat.min_eq_left h1).symm) (fun h0 => ⟨rfl, HC.out h0⟩) (by rw [List.length_map, List.length_map, HLP.out, zeros_length]; omega) (by simp [Value.oneCell']) w.heap.size w ((Below.refl _ _).alloc (Nat.le_refl _) _) (Nat.le_refl _) ?_; intro w1 hg hb; have HB := Lib.hid hb; clear hb))
    have HG : Hid (Blk w1 w.heap.size 5 (row (addS p q n' 0))) := Lib.hid (by
      have := hg.out
      rw [HS.out] at this
      rw [addS_zero]
      exact this)
    clear hg hmk
    go_loopw [19] (fun i wr => ∃ k : Nat, k ≤ n' ∧ i = .int .i64 (k : Int) ∧ Hid (Blk wr w.heap.size 5 (row (addS p q n' k))) ∧ Hid (Below w.heap.size w wr)) (fun i _ => n' - (intOf i).toNat)
    case atStart => exact ⟨0, by omega, rfl, HG, HB⟩
    case round =>
      obtain ⟨k, hk, rfl, hg, hb⟩ := hrel
      by_cases hlt : k < n'
      · obtain ⟨ga, o, rfl, hc⟩ := HQ.out.at_ hb.out hlt
        have c1 : wr.cell? ⟨w.heap.size, k, none⟩ = some (B (gB p k)) := by
          rw [hg.out.cell, row_get _ _ (by rw [addS_length]; omega), addS_get _ _ _ _ (by omega)]
        have f1 := hg.out.frozen k
        go_wp2
        go_roundw
        case rel =>
          refine ⟨k + 1, by omega, by go_num, Lib.hid ?_, Lib.hid (hb.out.setCell (Nat.le_refl _) _)⟩
          have := hg.out.set_ k (B (gB p k ^^^ gB q k))
          rw [row_set, addS_set] at this
          exact this
        case measure => simp [intOf]; omega
      · have HL : Hid (tab n' (fun i => gB p i ^^^ gB q i) = addS p q n' k) := Lib.hid (addS_all p q n' k (by rw [HLQ.out]; omega)).symm
        have HBS : Hid (BS wr (some ⟨w.heap.size, 0, none⟩) n' n' (tab n' (fun i => gB p i ^^^ gB q i))) := Lib.hid (BS.of_blk (by rw [HL.out]; exact hg.out) (tab_length _ _) (by unfold lim; omega))
        go_wp2_with fail
        refine (trim_any _ _ _ _ _ HBS.out).mono ?_
        rintro e w2 ⟨v, rfl, g2, n2, rfl, h21, h22, h23, h24⟩
        rw [HE.out] at h21 h23
        have HR : Hid (NewB 5 (Py.addP p q) w (.slice (some ⟨g2, 0, none⟩) n2 n2) w2) := Lib.hid ⟨g2, n2, rfl, h21, Nat.le_trans hb.out.size h22, h23, below_then hb.out h24⟩
        clear h21 h22 h23 h24
        go_wp2_with fail
        go_ret
        exact ⟨_, rfl, HR.out⟩
  · have h1 : n ≤ n := by omega
    have h2 : n' ≤ n := by omega
    have HE : Hid (Py.trim (tab n (fun i => gB p i ^^^ gB q i)) = Py.addP p q) := Lib.hid (by rw [Py.addP, Py.xorL, HLP.out, HLQ.out, show max n n' = n by omega])
    have hmk := make_bytes n (by omega)
    have HC := Lib.hid (copy_src (l' := p) (HP.out.kept ((Below.refl _ w).alloc (Nat.le_refl _) (.cells (row (zeros n)) 5))) (by rw [HLP.out]; omega) (fun k _ => rfl))
    have HS := Lib.hid (splice_some p n (by rw [HLP.out]; exact h1))
    go_enter Try.func89, Try.ntmps89
    go_wp2_with (first
      | (refine wpList_copy_splice (o := ⟨some 16, _, _, _, _, _⟩) rfl (.tmp 14) (.tmp 15) _ _ rfl 5 Try.underlying22 (by kernel_rfl) (some ⟨w.heap.size, 0, none⟩) A n n n c rfl rfl w.heap.size 0 ((zeros n).map B) 5 (Blk.new w _ _) (p.map B) (by rw [List.length_map, HLP.out]; exact (Nat.min_eq_left h1).symm) (fun h0 => ⟨rfl, HC.out h0⟩) (by rw [List.length_map, List.length_map, HLP.out, zeros_length]; omega) (by simp [Value.oneCell']) w.heap.size w ((Below.refl _ _).alloc (Nat.le_refl _) _) (Nat.le_refl _) ?_; intro w1 hg hb; have HB := Lib.hid hb; clear hb))
    have HG : Hid (Blk w1 w.heap.size 5 (row (addS p q n 0))) := Lib.hid (by
      have := hg.out
      rw [HS.out] at this
      rw [addS_zero]
      exact this)
    clear hg hmk
    go_loopw [19] (fun i wr => ∃ k : Nat, k ≤ n' ∧ i = .int .i64 (k : Int) ∧ Hid (Blk wr w.heap.size 5 (row (addS p q n k))) ∧ Hid (Below w.heap.size w wr)) (fun i _ => n' - (intOf i).toNat)
    case atStart => exact ⟨0, by omega, rfl, HG, HB⟩
    case round =>
      obtain ⟨k, hk, rfl, hg, hb⟩ := hrel
      by_cases hlt : k < n'
      · obtain ⟨ga, o, rfl, hc⟩ := HQ.out.at_ hb.out hlt
        have c1 : wr.cell? ⟨w.heap.size, k, none⟩ = some (B (gB p k)) := by
          rw [hg.out.cell, row_get _ _ (by rw [addS_length]; omega), addS_get _ _ _ _ (by omega)]
        have f1 := hg.out.frozen k
        go_wp2
        go_roundw
        case rel =>
          refine ⟨k + 1, by omega, by go_num, Lib.hid ?_, Lib.hid (hb.out.setCell (Nat.le_refl _) _)⟩
          have := hg.out.set_ k (B (gB p k ^^^ gB q k))
          rw [row_set, addS_set] at this
          exact this
        case measure => simp [intOf]; omega
      · have HL : Hid (tab n (fun i => gB p i ^^^ gB q i) = addS p q n k) := Lib.hid (addS_all p q n k (by rw [HLQ.out]; omega)).symm
        have HBS : Hid (BS wr (some ⟨w.heap.size, 0, none⟩) n n (tab n (fun i => gB p i ^^^ gB q i))) := Lib.hid (BS.of_blk (by rw [HL.out]; exact hg.out) (tab_length _ _) (by unfold lim; omega))
        go_wp2_with fail
        refine (trim_any _ _ _ _ _ HBS.out).mono ?_
        rintro e w2 ⟨v, rfl, g2, n2, rfl, h21, h22, h23, h24⟩
        rw [HE.out] at h21 h23
        have HR : Hid (NewB 5 (Py.addP p q) w (.slice (some ⟨g2, 0, none⟩) n2 n2) w2) := Lib.hid ⟨g2, n2, rfl, h21, Nat.le_trans hb.out.size h22, h23, below_then hb.out h24⟩
        clear h21 h22 h23 h24
        go_wp2_with fail
        go_ret
        exact ⟨_, rfl, HR.out⟩

/-! ### Mul -/
end Go.Proofs.Ytakedococfklgaa
/- Contract of polynomial.DivMod. -/
namespace Go.Proofs.Ytakedococfklgaa
open Go.RowKit Gf

attribute [local go_sem] Gf.xor_bits Gf.and_bits Gf.or_bits Gf.ne_zero_iff Gf.eq_zero_iff Gf.eq_one_iff Gf.beq_bytes Gf.bne_bytes Gf.bv_toNat

/-- Quotient and rest, in memory of their own. -/
def DivRet (s : List UInt8 × List UInt8) (w : World) (e : Ending) (w' : World) : Prop :=
  ∃ A n c A' n' c' r, e = .returned (.tuple #[.slice A n c, .slice A' n' c', .int .i64 r]) ∧ BS w' A n c s.1 ∧ BS w' A' n' c' s.2 ∧ AtB A (w.heap.size ≤ ·) ∧ AtB A' (w.heap.size ≤ ·) ∧ Below w.heap.size w w'

theorem divK_len (d : List UInt8) (iv : UInt8) (last : Nat) : ∀ i s, (Py.divK d iv last i s).1.length = s.1.length ∧ (Py.divK d iv last i s).2.length = s.2.length
  | 0, s => ⟨rfl, rfl⟩
  | i + 1, s => by rw [Py.divK]; have := divK_len d iv last i (s.1.set i (mul (gB s.2 (i + last)) iv), Py.addAt s.2 i d (mul (gB s.2 (i + last)) iv)); simpa [Py.addAt_length] using this

/-- What the rounds keep. -/
def DivI (d : List UInt8) (iv : UInt8) (last m a gq gr k : Nat) (S : List UInt8 × List UInt8) (wr : World) : Prop :=
  ∃ s : List UInt8 × List UInt8, OB wr gq 5 m s.1 ∧ OB wr gr 5 a s.2 ∧ s.1.length = m ∧ s.2.length = a ∧ Py.divK d iv last k s = S

set_option maxRecDepth 100000 in
set_option maxHeartbeats 1000000 in
theorem divmod_any (A A' : Option Addr) (n c n' c' : Nat) (p q : List UInt8) (w : World) (hp : BS w A n c p) (hq : BS w A' n' c' q) :
    Calls Try.prog 87 #[.slice A n c, .slice A' n' c'] w (DivRet (Py.divP p q) w) := by
  have hn := hp.len_le
  have hn' := hq.len_le
  have HTP := Lib.hid (Py.trim_length p)
  have HTQ := Lib.hid (Py.trim_length q)
  have htp : Py.tl p ≤ 140737488355328 := by have := Py.tl_le p; rw [hp.1] at this; omega
  have htq : Py.tl q ≤ 140737488355328 := by have := Py.tl_le q; rw [hq.1] at this; omega
  have HTN : Hid (0 < Py.tl q → gB (Py.trim q) (Py.tl q - 1) ≠ 0) := Lib.hid (fun h => by rw [Py.gB_trim]; exact Py.tl_top q h)
  have HP := Lib.hid hp
  have HQ := Lib.hid hq
  clear hp hq
  obtain ⟨a, ha⟩ : ∃ a, a = Py.tl p := ⟨_, rfl⟩
  obtain ⟨b, hb⟩ : ∃ b, b = Py.tl q := ⟨_, rfl⟩
  rw [← ha] at HTP htp
  rw [← hb] at HTQ htq HTN
  clear ha hb
  obtain ⟨P', hP'⟩ : ∃ P', P' = Py.trim p := ⟨_, rfl⟩
  obtain ⟨D, hD⟩ : ∃ D, D = Py.trim q := ⟨_, rfl⟩
  have HM : Hid (Py.divP p q = if b = 0 then ([], []) else ((Py.divK D (inv (gB D (b - 1))) (b - 1) (a - (b - 1)) (zeros (a - (b - 1)), P')).1, Py.trim (Py.divK D (inv (gB D (b - 1))) (b - 1) (a - (b - 1)) (zeros (a - (b - 1)), P')).2)) := Lib.hid (by unfold Py.divP; rw [HTP.out, HTQ.out, hP', hD])
  rw [← hP'] at HTP
  rw [← hD] at HTQ HTN
  have HP' := Lib.hid hP'
  have HD := Lib.hid hD
  clear hP' hD
  go_enter Try.func87, Try.ntmps87
  go_wp2_with fail
  refine (trim_any _ _ _ _ _ HP.out).mono ?_
  rintro e w1 ⟨v1, rfl, g1, n1, rfl, h11, h12, h13, h14⟩
  rw [← HP'.out] at h11 h13
  obtain rfl : a = n1 := by rw [← h11, HTP.out]
  have H13 := Lib.hid h13
  have H14 := Lib.hid h14
  have HQ1 := Lib.hid (HQ.out.kept h14)
  clear h11 h13 h14 HQ HP
  go_wp2_with fail
  refine (trim_any _ _ _ _ _ HQ1.out).mono ?_
  rintro e w2 ⟨v2, rfl, g2, n2, rfl, h21, h22, h23, h24⟩
  rw [← HD.out] at h21 h23
  obtain rfl : b = n2 := by rw [← h21, HTQ.out]
  have H1 := Lib.hid (H13.out.kept h24)
  have H2 := Lib.hid h23
  have HB := Lib.hid (below_then H14.out h24)
  have hg12 : g1 < g2 := by have := H13.out.lt; omega
  have hg2 : g2 < w2.heap.size := h23.lt
  clear h21 h23 h24 H13 H14 HQ1 h22
  by_cases hb0 : b = 0
  · subst hb0
    have HR : Hid (DivRet (Py.divP p q) w (.returned (.tuple #[.slice none 0 0, .slice none 0 0, .int .i64 1])) w2) := Lib.hid (by
      rw [HM.out, if_pos rfl]
      exact ⟨none, 0, 0, none, 0, 0, 1, rfl, BS.nil, BS.nil, (fun _ h => by cases h), (fun _ h => by cases h), HB.out⟩)
    go_wp2_with fail
    go_ret3
    exact HR.out
  have q1 : ((b : Int) == 0) = false := by simp; omega
  obtain ⟨l, rfl⟩ : ∃ l, b = l + 1 := ⟨b - 1, by omega⟩
  have hne : (gB D l == 0) = false := by have := HTN.out (by omega); simpa using this
  obtain ⟨iv, hiv⟩ : ∃ iv, iv = inv (gB D l) := ⟨_, rfl⟩
  obtain ⟨m, hm⟩ : ∃ m, m = a - l := ⟨_, rfl⟩
  obtain ⟨S, hS⟩ : ∃ S, S = Py.divK D iv l m (zeros m, P') := ⟨_, rfl⟩
  have HR : Hid (Py.divP p q = (S.1, Py.trim S.2)) := Lib.hid (by rw [HM.out, if_neg (by omega), Nat.add_sub_cancel, ← hiv, ← hm, ← hS])
  have HS := Lib.hid hS
  have HIV := Lib.hid hiv
  have HMM := Lib.hid hm
  clear HM hS hiv hm
  have c0 : w2.cell? ⟨g2, l, none⟩ = some (B (gB D l)) := by
    rw [H2.out.cell, row_get _ _ (by rw [HTQ.out]; omega)]
  have s0 : ((l + 1 : Nat) : Int) - 1 = (l : Int) := by omega
  have hmk := make_bytes m (by have := HMM.out; omega)
  have HN0 := Lib.hid hb0
  clear hb0
  have hmk0 : m = 0 → ∀ w : World, (Instr.makeSlice 22 (.int .i64 0) (.int .i64 0)).run Try.prog w = .ok (.slice (some ⟨w.heap.size, 0, none⟩) m m) (w.alloc (.cells (row (zeros m)) 5)) := fun e w => by subst e; exact make_bytes 0 (by omega) w
  have HK0 := Lib.hid hmk0
  clear hmk0
  have hmb : m ≤ 140737488355328 := by have := HMM.out; omega
  by_cases hal : a < l
  · have hx : (a : Int) - (l : Int) < 0 := by omega
    have hmk1 := HK0.out (by have := HMM.out; omega)
    clear hmk
    go_wp2_with (go_at_call 101; refine (inv_any _ hne _).mono ?_; rintro e w' ⟨rfl, rfl⟩)
    clear hmk1
    clear s0 q1 c0 hx
    rw [← HIV.out]
    go_loopw [13] (fun d wr => ∃ (z : Int) (k : Nat), d = .int .i64 z ∧ -1 ≤ z ∧ z < m ∧ Hid (z + 1 = k) ∧ Hid (DivI D iv l m a w2.heap.size g1 k S wr) ∧ Hid (Blk wr g2 5 (row D)) ∧ Hid (Below w.heap.size w wr)) (fun d _ => (intOf d + 1).toNat)
    case atStart =>
      refine ⟨(m : Int) - 1, m, rfl, by omega, by omega, Lib.hid (by omega), Lib.hid ⟨(zeros m, P'), ?_, ?_, zeros_length m, HTP.out, HS.out.symm⟩, Lib.hid (H2.out.alloc _), Lib.hid (HB.out.alloc HB.out.size _)⟩
      · have := OB.of_blk (l := zeros m) (Blk.new w2 5 _)
        rw [zeros_length] at this
        exact this
      · have := OB.of_blk (l := P') (H1.out.alloc (.cells (row (zeros m)) 5))
        rw [HTP.out] at this
        exact this
    case round =>
      obtain ⟨z, k, rfl, hz1, hz2, hk, hI, hD, hb⟩ := hrel
      by_cases h0 : z < 0
      · have qz : decide (0 ≤ z) = false := by simp; omega
        have HSS : Hid (OB wr w2.heap.size 5 m S.1 ∧ OB wr g1 5 a S.2 ∧ S.1.length = m ∧ S.2.length = a) := Lib.hid (by
          obtain ⟨s, h1, h2, h3, h4, h5⟩ := hI.out
          have hk' := hk.out
          obtain rfl : k = 0 := by omega
          rw [Py.divK] at h5
          subst h5
          exact ⟨h1, h2, h3, h4⟩)
        have HBS : Hid (BS wr (some ⟨g1, 0, none⟩) a a S.2) := Lib.hid (by
          obtain ⟨_, h2, _, h4⟩ := HSS.out
          have := h2.bs0 (c := a) (by omega) (by unfold lim; omega)
          rw [h4] at this
          exact this)
        clear hk hI
        go_wp2_with fail
        refine (trim_any _ _ _ _ _ HBS.out).mono ?_
        rintro e w3 ⟨v3, rfl, g3, n3, rfl, h31, h32, h33, h34⟩
        have HRR : Hid (DivRet (Py.divP p q) w (.returned (.tuple #[.slice (some ⟨w2.heap.size, 0, none⟩) m m, .slice (some ⟨g3, 0, none⟩) n3 n3, .int .i64 0])) w3) := Lib.hid (by
          rw [HR.out]
          obtain ⟨h1, _, h3, _⟩ := HSS.out
          refine ⟨_, _, _, _, _, _, _, rfl, ?_, BS.of_blk h33 h31 ?_, (fun a e => by cases e; exact HB.out.size), (fun a e => by cases e; exact Nat.le_trans hb.out.size h32), below_then hb.out h34⟩
          · have := (h1.kept h34).bs0 (c := m) (by omega) (by unfold lim; omega)
            rw [h3] at this
            exact this
          · have h5 := Py.tl_le S.2
            have h6 := Py.trim_length S.2
            have h7 := HSS.out.2.2.2
            unfold lim
            omega)
        clear h31 h32 h33 h34
        go_wp2_with fail
        go_ret3
        exact HRR.out
      · obtain ⟨j, rfl⟩ : ∃ j : Nat, z = (j : Int) := ⟨z.toNat, by omega⟩
        have hj : j < m := by omega
        exfalso
        have := HMM.out
        omega
  · have hx : ¬ (a : Int) - (l : Int) < 0 := by omega
    have s1 : (a : Int) - (l : Int) = (m : Int) := by have := HMM.out; omega
    go_wp2_with (go_at_call 101; refine (inv_any _ hne _).mono ?_; rintro e w' ⟨rfl, rfl⟩)
    clear hmk s1
    clear s0 q1 c0 hx
    rw [← HIV.out]
    go_loopw [13] (fun d wr => ∃ (z : Int) (k : Nat), d = .int .i64 z ∧ -1 ≤ z ∧ z < m ∧ Hid (z + 1 = k) ∧ Hid (DivI D iv l m a w2.heap.size g1 k S wr) ∧ Hid (Blk wr g2 5 (row D)) ∧ Hid (Below w.heap.size w wr)) (fun d _ => (intOf d + 1).toNat)
    case atStart =>
      refine ⟨(m : Int) - 1, m, rfl, by omega, by omega, Lib.hid (by omega), Lib.hid ⟨(zeros m, P'), ?_, ?_, zeros_length m, HTP.out, HS.out.symm⟩, Lib.hid (H2.out.alloc _), Lib.hid (HB.out.alloc HB.out.size _)⟩
      · have := OB.of_blk (l := zeros m) (Blk.new w2 5 _)
        rw [zeros_length] at this
        exact this
      · have := OB.of_blk (l := P') (H1.out.alloc (.cells (row (zeros m)) 5))
        rw [HTP.out] at this
        exact this
    case round =>
      obtain ⟨z, k, rfl, hz1, hz2, hk, hI, hD, hb⟩ := hrel
      by_cases h0 : z < 0
      · have qz : decide (0 ≤ z) = false := by simp; omega
        have HSS : Hid (OB wr w2.heap.size 5 m S.1 ∧ OB wr g1 5 a S.2 ∧ S.1.length = m ∧ S.2.length = a) := Lib.hid (by
          obtain ⟨s, h1, h2, h3, h4, h5⟩ := hI.out
          have hk' := hk.out
          obtain rfl : k = 0 := by omega
          rw [Py.divK] at h5
          subst h5
          exact ⟨h1, h2, h3, h4⟩)
        have HBS : Hid (BS wr (some ⟨g1, 0, none⟩) a a S.2) := Lib.hid (by
          obtain ⟨_, h2, _, h4⟩ := HSS.out
          have := h2.bs0 (c := a) (by omega) (by unfold lim; omega)
          rw [h4] at this
          exact this)
        clear hk hI
        go_wp2_with fail
        refine (trim_any _ _ _ _ _ HBS.out).mono ?_
        rintro e w3 ⟨v3, rfl, g3, n3, rfl, h31, h32, h33, h34⟩
        have HRR : Hid (DivRet (Py.divP p q) w (.returned (.tuple #[.slice (some ⟨w2.heap.size, 0, none⟩) m m, .slice (some ⟨g3, 0, none⟩) n3 n3, .int .i64 0])) w3) := Lib.hid (by
          rw [HR.out]
          obtain ⟨h1, _, h3, _⟩ := HSS.out
          refine ⟨_, _, _, _, _, _, _, rfl, ?_, BS.of_blk h33 h31 ?_, (fun a e => by cases e; exact HB.out.size), (fun a e => by cases e; exact Nat.le_trans hb.out.size h32), below_then hb.out h34⟩
          · have := (h1.kept h34).bs0 (c := m) (by omega) (by unfold lim; omega)
            rw [h3] at this
            exact this
          · have h5 := Py.tl_le S.2
            have h6 := Py.trim_length S.2
            have h7 := HSS.out.2.2.2
            unfold lim
            omega)
        clear h31 h32 h33 h34
        go_wp2_with fail
        go_ret3
        exact HRR.out
      · obtain ⟨j, rfl⟩ : ∃ j : Nat, z = (j : Int) := ⟨z.toNat, by omega⟩
        have hj : j < m := by omega
        have hjl : j + l < a := by have := HMM.out; omega
        have hja : j ≤ a := by omega
        have hja2 : ¬ a = j := by omega
        obtain ⟨s, h1, h2, h3, h4, h5⟩ := hI.out
        have H1' := Lib.hid h1
        have H2' := Lib.hid h2
        have H3' := Lib.hid h3
        have H4' := Lib.hid h4
        have H5' : Hid (Py.divK D iv l j (s.1.set j (mul (gB s.2 (j + l)) iv), Py.addAt s.2 j D (mul (gB s.2 (j + l)) iv)) = S) := Lib.hid (by
          have hk' := hk.out
          obtain rfl : k = j + 1 := by omega
          rw [Py.divK] at h5
          exact h5)
        clear h1 h2 h3 h4 h5 hI hk
        have c1 : wr.cell? ⟨g1, j + l, none⟩ = some (B (gB s.2 (j + l))) := H2'.out.cell (by rw [H4'.out]; exact hjl)
        have c2 : wr.cell? ⟨w2.heap.size, j, none⟩ = some (B (gB s.1 j)) := H1'.out.cell (by rw [H3'.out]; exact hj)
        have f2 := H1'.out.frozen j
        have c3 : (wr.setCell ⟨w2.heap.size, j, none⟩ (B (mul (gB s.2 (j + l)) iv))).cell? ⟨w2.heap.size, j, none⟩ = some (B (mul (gB s.2 (j + l)) iv)) := by
          have := (H1'.out.set_ j (mul (gB s.2 (j + l)) iv)).cell (k := j) (by rw [List.length_set, H3'.out]; exact hj)
          rw [this, gB_set _ (by rw [H3'.out]; exact hj), if_pos rfl]
        have q2 : (j == a) = false := by simp; omega
        go_wp2_with (go_at_call 76; refine (mul_any _ _ _).mono ?_; rintro e w' ⟨rfl, rfl⟩)
        obtain ⟨y, hy⟩ : ∃ y, y = mul (gB s.2 (j + l)) iv := ⟨_, rfl⟩
        rw [← hy] at c3 H5' ⊢
        have HY := Lib.hid hy
        clear hy c1 c2 f2
        have HQ2 : Hid (OB (wr.setCell ⟨w2.heap.size, j, none⟩ (B y)) w2.heap.size 5 m (s.1.set j y)) := Lib.hid (H1'.out.set_ j y)
        have HR2 : Hid (OB (wr.setCell ⟨w2.heap.size, j, none⟩ (B y)) g1 5 a s.2) := Lib.hid (H2'.out.far (by simp; omega) _)
        have HD2 : Hid (Blk (wr.setCell ⟨w2.heap.size, j, none⟩ (B y)) g2 5 (row D)) := Lib.hid (hD.out.far (by simp; omega) _)
        have HB2 : Hid (Below w.heap.size w (wr.setCell ⟨w2.heap.size, j, none⟩ (B y))) := Lib.hid (hb.out.setCell HB.out.size _)
        obtain ⟨wx, hwx⟩ : ∃ wx, wx = wr.setCell ⟨w2.heap.size, j, none⟩ (B y) := ⟨_, rfl⟩
        rw [← hwx] at HQ2 HR2 HD2 HB2 c3 ⊢
        clear hwx H1' H2' hD hb
        refine Text.wp_region_text (fun _ => True) [(0, 4), (1, 4), (2, 4), (3, 4), (4, 4), (5, 4), (6, 4), (7, 1), (8, 2)] (by kernel_rfl) (by kernel_rfl) (fun _ _ _ _ _ h => h) (trivial) ?_
        iterate 7 (refine Text.purek rfl rfl (fun K hK => ⟨_, fun w' => by go_simp <;> rfl, ?_⟩); go_simp; refine hK _ ?_; clear hK K)
        (refine Text.readk rfl rfl (fun K hK => ⟨_, by go_simp <;> rfl, ?_⟩); go_simp; refine hK _ ?_; clear hK K)
        refine Text.eff rfl rfl (fun K hK => ?_)
        go_simp
        refine (addTo_any g1 j (a - j) (a - j) a _ s.2 _ (l + 1) (l + 1) D y wx.drew HR2.out (BS.of_blk HD2.out HTQ.out (by unfold lim; omega)).drew (by rw [H4'.out]; omega) (by omega) (by rw [H4'.out]; unfold lim; omega)).mono ?_
        rintro e w4 ⟨rfl, h41, h42⟩
        refine hK _ _ trivial ?_
        have hgd : Hid (w.heap.size ≤ g1) := Lib.hid h12
        have HB4 : Hid (Below w.heap.size w w4) := Lib.hid ((below_drewN HB2.out 1).trans (h42.below (by exact HB2.out.size) (fun k e => by rw [e]; exact hgd.out)))
        have HI4 : Hid (DivI D iv l m a w2.heap.size g1 j S w4) := Lib.hid ⟨(s.1.set j y, Py.addAt s.2 j D y), by
            obtain ⟨cs, z1, z2⟩ := HQ2.out
            exact ⟨cs, h42.blk z1 (by omega), z2⟩, h41, by rw [List.length_set]; exact H3'.out, by rw [Py.addAt_length]; exact H4'.out, H5'.out⟩
        have HD4 : Hid (Blk w4 g2 5 (row D)) := Lib.hid (h42.blk HD2.out (by omega))
        clear hK K h41 h42 c3 HQ2 HR2 HD2 HB2
        refine Text.done ?_
        go_wp2_with fail
        go_roundw
        case rel => exact ⟨(j : Int) - 1, j, rfl, by omega, by omega, Lib.hid (by omega), HI4, HD4, HB4⟩
        case measure => simp [intOf]
end Go.Proofs.Ytakedococfklgaa
/- Contract of polynomial.FromRoots. -/
namespace Go.Proofs.Ytakedococfklgaa
open Go.RowKit Gf

/-- Bytes, nothing old has turned. -/
def GvN (l : List UInt8) (w : World) (v : Value) (w' : World) : Prop := ∃ A n c, v = .slice A n c ∧ BS w' A n c l ∧ Below w.heap.size w w'
/-- A box that holds bytes, in other memory. -/
def BoxB (w : World) (gb : Nat) (l : List UInt8) : Prop := ∃ A n c, Blk w gb 22 #[.slice A n c] ∧ BS w A n c l ∧ AtB A (fun b => b ≠ gb)

set_option maxRecDepth 100000 in
set_option maxHeartbeats 1000000 in
theorem fromRoots1_any (gb : Nat) (l : List UInt8) (r : UInt8) (w : World) (h : BoxB w gb l) (hl : l.length ≤ 100000) :
    Calls Try.prog 104 #[B r, .pointer (some ⟨gb, 0, none⟩)] w fun e w' => e = .returned (.tuple #[]) ∧ BoxB w' gb (Py.tr l r) ∧ Kp (· = gb) w w' := by
  obtain ⟨A, n, c, h1, h2, h3⟩ := h
  have c1 : w.cell? ⟨gb, 0, none⟩ = some (.slice A n c) := by rw [h1.cell]; rfl
  have hn : n ≤ 100000 := by rw [← h2.1]; exact hl
  have H1 := Lib.hid h1
  have H2 := Lib.hid h2
  clear h1 h2 h3 hl
  go_enter Try.func104, Try.ntmps104
  go_wp2_with fail
  refine (timesRoot_any A n c l r w H2.out hn).mono ?_
  rintro e w1 ⟨v, rfl, A1, n1, c1', rfl, h11, h12, h13⟩
  have hk := H1.out.kept h13
  have c2 : w1.cell? ⟨gb, 0, none⟩ = some (.slice A n c) := by rw [hk.cell]; rfl
  have f2 := hk.frozen 0
  have HK := Lib.hid hk
  have hne : AtB A1 (fun b => b ≠ gb) := fun a e => by have := h12 a e; have := H1.out.lt; intro h; omega
  have HR : Hid (BoxB (w1.setCell ⟨gb, 0, none⟩ (.slice A1 n1 c1')) gb (Py.tr l r) ∧ Kp (· = gb) w (w1.setCell ⟨gb, 0, none⟩ (.slice A1 n1 c1'))) := Lib.hid ⟨⟨A1, n1, c1', hk.set_ 0 _, h11.far (fun g o e => hne ⟨g, o, none⟩ e) _, hne⟩, Kp.set (S := (· = gb)) (Kp.of_below h13) (.inl rfl) _⟩
  clear h11 h12 h13 hk hne
  go_wp2_with fail
  go_end0
  exact ⟨rfl, HR.out⟩

theorem frP_take (rs : List UInt8) (k : Nat) (h : k < rs.length) : Py.frP (rs.take (k + 1)) = Py.tr (Py.frP (rs.take k)) (gB rs k) := by
  rw [List.take_succ_eq_append_getElem h, Py.frP, List.foldl_append, gB_eq h]; rfl
theorem foldl_tr_length (rs : List UInt8) : ∀ l, (rs.foldl Py.tr l).length = l.length + rs.length := by
  induction rs with
  | nil => intro l; rfl
  | cons r rs ih => intro l; rw [List.foldl_cons, ih, Py.tr_length]; simp; omega
theorem frP_length (rs : List UInt8) : (Py.frP rs).length = rs.length + 1 := by rw [Py.frP, foldl_tr_length]; simp; omega

set_option maxRecDepth 100000 in
set_option maxHeartbeats 1000000 in
theorem fromRoots_any (A : Option Addr) (n c : Nat) (rs : List UInt8) (w : World) (h : BS w A n c rs) (hn : n ≤ 1023) :
    Calls Try.prog 85 #[.slice A n c] w fun e w' => ∃ v r, e = .returned (.tuple #[v, .int .i64 r]) ∧ GvN (Py.frP rs) w v w' := by
  have hmf : ∀ (fn : Fn) (first cap : Array Value) (w : World), (Instr.makeFunc fn first cap).run Try.prog w = .ok (.func fn first cap) w := fun _ _ _ _ => rfl
  have HL := Lib.hid h.1
  have H := Lib.hid h
  clear h
  have hn' : (n : Int) ≤ 1023 := by omega
  have q1 : decide ((1023 : Int) < (n : Int)) = false := by simp; omega
  have HN := Lib.hid hn
  clear hn
  go_enter Try.func85, Try.ntmps85
  go_wp2_with fail
  go_loopw [15] (fun i wr => ∃ k : Nat, k ≤ n ∧ i = .int .i64 (k : Int) ∧ Hid (BoxB wr (w.heap.size + 1) (Py.frP (rs.take k))) ∧ Hid (Below w.heap.size w wr)) (fun i _ => n - (intOf i).toNat)
  case atStart =>
    refine ⟨0, by omega, rfl, Lib.hid ⟨some ⟨w.heap.size, 0, none⟩, 1, 1, ?_, ?_, (fun a e => by cases e; simp)⟩, Lib.hid (((Below.refl _ _).alloc (Nat.le_refl _) _).alloc (by simp) _)⟩
    · have := Blk.new (w.alloc (.cells #[.int .u8 1] 5)) 22 #[.slice (some ⟨w.heap.size, 0, none⟩) 1 1]
      rw [World.size_alloc] at this
      exact this
    · exact BS.of_blk (l := [1]) ((Blk.new w 5 _).alloc _) rfl (by decide)
  case round =>
    obtain ⟨k, hk, rfl, hx, hb⟩ := hrel
    by_cases hlt : k < n
    · obtain ⟨g, o, rfl, hc⟩ := H.out.at_ hb.out hlt
      go_wp2_with fail
      refine (fromRoots1_any (w.heap.size + 1) _ (gB rs k) wr hx.out (by rw [frP_length]; have := List.length_take_le k rs; have := HN.out; omega)).mono ?_
      rintro e w2 ⟨rfl, h21, h22⟩
      have HX : Hid (BoxB w2 (w.heap.size + 1) (Py.frP (rs.take (k + 1)))) := Lib.hid (by rw [frP_take rs k (by rw [HL.out]; exact hlt)]; exact h21)
      have HB : Hid (Below w.heap.size w w2) := Lib.hid (hb.out.trans (h22.below hb.out.size (fun k e => by rw [e]; omega)))
      clear h21 h22
      go_wp2_with fail
      go_roundw
      case rel => exact ⟨k + 1, by omega, by go_num, HX, HB⟩
      case measure => simp [intOf]; omega
    · obtain rfl : k = n := by omega
      obtain ⟨A1, n1, c1, h1, h2, h3⟩ := hx.out
      rw [List.take_of_length_le (by rw [HL.out]; exact Nat.le_refl _)] at h2
      have cc : wr.cell? ⟨w.heap.size + 1, 0, none⟩ = some (.slice A1 n1 c1) := by rw [h1.cell]; rfl
      have HR : Hid (GvN (Py.frP rs) w (.slice A1 n1 c1) wr) := Lib.hid ⟨_, _, _, rfl, h2, hb.out⟩
      clear h1 h2 h3
      go_wp2_with fail
      go_ret2
      exact ⟨_, _, rfl, HR.out⟩
end Go.Proofs.Ytakedococfklgaa
/- The rest of a division is shorter than the divisor. No program in sight. -/
namespace Go.Proofs.Ytakedococfklgaa
open Go Gf
namespace Py
theorem mul_inv_last {a d : UInt8} (hd : d ≠ 0) : mul (mul a (inv d)) d = a := by
  rw [mul_assoc, mul_comm (inv d) d, mul_inv d hd, mul_one]
/-- From i + last on the rest is 0 when the rounds from i on are done. -/
theorem divK_zero (d : List UInt8) (last : Nat) (hl : d.length = last + 1) (hd : gB d last ≠ 0) : ∀ (i : Nat) (s : List UInt8 × List UInt8), s.2.length ≤ i + last → (∀ k, last ≤ k → gB (divK d (inv (gB d last)) last i s).2 k = 0)
  | 0, s, hs, k, hk => by rw [divK]; exact gB_ge (by omega)
  | i + 1, s, hs, k, hk => by
    rw [divK]
    -- the new rest has a 0 at i + last
    have key : ∀ (i : Nat) (s : List UInt8 × List UInt8), (∀ j, i + last ≤ j → gB s.2 j = 0) → ∀ j, last ≤ j → gB (divK d (inv (gB d last)) last i s).2 j = 0 := by
      intro i
      induction i with
      | zero => intro s h j hj; rw [divK]; exact h j (by omega)
      | succ i ih =>
        intro s h j hj
        rw [divK]
        refine ih _ (fun q hq => ?_) j hj
        simp only
        by_cases hql : q < s.2.length
        · rw [gB_addAt _ _ _ _ hql, if_pos (by omega)]
          by_cases e : q = i + last
          · subst e
            rw [Nat.add_sub_cancel_left, mul_inv_last hd]; simp
          · rw [h q (by omega), gB_ge (l := d) (k := q - i) (by omega), mul_zero]; rfl
        · exact gB_ge (by rw [addAt_length]; omega)
    refine key i _ (fun q hq => ?_) k hk
    simp only
    by_cases hql : q < s.2.length
    · rw [gB_addAt _ _ _ _ hql, if_pos (by omega)]
      have e : q = i + last := by omega
      subst e
      rw [Nat.add_sub_cancel_left, mul_inv_last hd]; simp
    · exact gB_ge (by rw [addAt_length]; omega)
theorem divP_lt (p q : List UInt8) (h : 0 < tl q) : (divP p q).2.length < tl q := by
  unfold divP
  have hl := trim_length q
  rw [if_neg (by omega)]
  simp only
  rw [trim_length]
  have hd : gB (trim q) ((trim q).length - 1) ≠ 0 := by rw [hl, gB_trim]; exact tl_top q h
  have hz := divK_zero (trim q) ((trim q).length - 1) (by omega) hd ((trim p).length - ((trim q).length - 1)) (zeros ((trim p).length - ((trim q).length - 1)), trim p) (by simp only; omega)
  apply Classical.byContradiction
  intro hc
  have h0 := tl_top (divK (trim q) (inv (gB (trim q) ((trim q).length - 1))) ((trim q).length - 1) ((trim p).length - ((trim q).length - 1)) (zeros ((trim p).length - ((trim q).length - 1)), trim p)).2 (by omega)
  exact h0 (hz _ (by omega))
/-- Euclid's rounds: (before, rest, factorBefore, factor). -/
def dcS (s : List UInt8 × List UInt8 × List UInt8 × List UInt8) : List UInt8 × List UInt8 × List UInt8 × List UInt8 :=
  (s.2.1, (divP s.1 s.2.1).2, s.2.2.2, addP s.2.2.1 (mulP (divP s.1 s.2.1).1 s.2.2.2))
def dcK (M : Nat) : Nat → List UInt8 × List UInt8 × List UInt8 × List UInt8 → List UInt8 × List UInt8 × List UInt8 × List UInt8
  | 0, s => s
  | k + 1, s => if M + 2 ≤ 2 * tl s.2.1 then dcK M k (dcS s) else s
theorem dcK_more (M : Nat) : ∀ (k : Nat) (s : List UInt8 × List UInt8 × List UInt8 × List UInt8), tl s.2.1 ≤ k → dcK M (k + 1) s = dcK M k s
  | 0, s, h => by simp only [dcK]; rw [if_neg (by omega)]
  | k + 1, s, h => by
    rw [dcK]
    conv => rhs; rw [dcK]
    by_cases hc : M + 2 ≤ 2 * tl s.2.1
    · rw [if_pos hc, if_pos hc]
      have h1 := divP_lt s.1 s.2.1 (by omega)
      have h2 := tl_le (divP s.1 s.2.1).2
      exact dcK_more M k _ (by show tl (divP s.1 s.2.1).2 ≤ k; omega)
    · rw [if_neg hc, if_neg hc]
theorem dcK_enough (M : Nat) (s : List UInt8 × List UInt8 × List UInt8 × List UInt8) : ∀ k, tl s.2.1 ≤ k → dcK M k s = dcK M (tl s.2.1) s := by
  intro k hk
  obtain ⟨d, rfl⟩ : ∃ d, k = tl s.2.1 + d := ⟨k - tl s.2.1, by omega⟩
  clear hk
  induction d with
  | zero => rfl
  | succ d ih => rw [← Nat.add_assoc, dcK_more M _ s (by omega), ih]
/-- All rounds. -/
def dcA (M : Nat) (s : List UInt8 × List UInt8 × List UInt8 × List UInt8) := dcK M (tl s.2.1) s
theorem dcA_go (M : Nat) (s : List UInt8 × List UInt8 × List UInt8 × List UInt8) (h : M + 2 ≤ 2 * tl s.2.1) : dcA M s = dcA M (dcS s) := by
  unfold dcA
  have h1 := divP_lt s.1 s.2.1 (by omega)
  have h2 := tl_le (divP s.1 s.2.1).2
  have e : tl s.2.1 = (tl s.2.1 - 1) + 1 := by omega
  rw [e, dcK, if_pos (by omega)]
  exact dcK_enough M _ _ (by show tl (divP s.1 s.2.1).2 ≤ _; omega)
theorem dcA_end (M : Nat) (s : List UInt8 × List UInt8 × List UInt8 × List UInt8) (h : 2 * tl s.2.1 < M + 2) : dcA M s = s := by
  unfold dcA
  cases e : tl s.2.1 with
  | zero => rfl
  | succ k => rw [dcK, if_neg (by omega)]
/-- The polynomial that decode returns. -/
def dcP (xs ys : List UInt8) (t : Nat) : List UInt8 := (divP (dcA (xs.length + t) (frP xs, itP xs ys, [], [1])).2.1 (dcA (xs.length + t) (frP xs, itP xs ys, [], [1])).2.2.2).1
end Py
end Go.Proofs.Ytakedococfklgaa
/- Contract of column.decode. -/
namespace Go.Proofs.Ytakedococfklgaa
open Go.RowKit Gf

attribute [local go_sem] Gf.xor_bits Gf.and_bits Gf.or_bits Gf.ne_zero_iff Gf.eq_zero_iff Gf.eq_one_iff Gf.beq_bytes Gf.bne_bytes Gf.bv_toNat

/-- Four slices of bytes. -/
def Four (s : List UInt8 × List UInt8 × List UInt8 × List UInt8) (v3 v5 v7 v8 : Value) (w : World) : Prop :=
  ∃ A3 n3 c3 A5 n5 c5 A7 n7 c7 A8 n8 c8, v3 = .slice A3 n3 c3 ∧ v5 = .slice A5 n5 c5 ∧ v7 = .slice A7 n7 c7 ∧ v8 = .slice A8 n8 c8 ∧ BS w A3 n3 c3 s.1 ∧ BS w A5 n5 c5 s.2.1 ∧ BS w A7 n7 c7 s.2.2.1 ∧ BS w A8 n8 c8 s.2.2.2

def lenV : Value → Nat | .slice _ n _ => n | _ => 0

set_option maxRecDepth 100000 in
set_option maxHeartbeats 2000000 in
theorem decode_any (gc : Nat) (A A' : Option Addr) (n c c' t : Nat) (xs ys : List UInt8) (w : World) (h : Col w gc A A' n c c' t xs ys) (hn : n ≤ 1000) (ht : t ≤ 1000) (hd : Py.Dst xs) :
    Calls Try.prog 68 #[.pointer (some ⟨gc, 0, none⟩)] w (Rets (GvB (Py.dcP xs ys t)) w) := by
  have hc0 := h.c0
  have H := Lib.hid h
  have HLX := Lib.hid h.b0.1
  have HD := Lib.hid hd
  have hn2 : n ≤ 140737488355328 := by omega
  have HN := Lib.hid hn
  have HT := Lib.hid ht
  clear h hd hn ht
  go_enter Try.func68, Try.ntmps68
  go_wp2_with fail
  refine (fromRoots_any A n c xs w H.out.b0 (by have := HN.out; omega)).mono ?_
  rintro e w1 ⟨v1, r1, rfl, A3, n3, c3, rfl, h11, h12⟩
  have H11 := Lib.hid h11
  have H12 := Lib.hid h12
  have H1 := Lib.hid (H.out.kept h12)
  have d0 := H1.out.c0
  have d1 := H1.out.c1
  clear h11 h12 hc0
  go_wp2_with fail
  refine Text.wp_region_text (fun _ => True) [(0, 4), (1, 4), (2, 4), (4, 4), (5, 4), (6, 4), (3, 1), (7, 1), (8, 2), (9, 4), (10, 4), (11, 4), (12, 4), (13, 4)] (by kernel_rfl) (by kernel_rfl) (fun _ _ _ _ _ h => h) (trivial) ?_
  iterate 6 (refine Text.purek rfl rfl (fun K hK => ⟨_, fun w' => by go_simp <;> rfl, ?_⟩); go_simp; refine hK _ ?_; clear hK K)
  iterate 2 (refine Text.readk rfl rfl (fun K hK => ⟨_, by go_simp <;> rfl, ?_⟩); go_simp; refine hK _ ?_; clear hK K)
  refine Text.eff rfl rfl (fun K hK => ?_)
  go_simp
  refine (interp_any A A' n c c' xs ys w1.drew H1.out.b0.drew H1.out.b1.drew (by have := HN.out; omega) HD.out).mono ?_
  rintro e w2 ⟨v2, r2, rfl, A5, n5, c5, rfl, h21, h22, h23⟩
  refine hK _ _ trivial ?_
  have h23' : Below w1.heap.size w1 w2 := below_ofDrew h23
  have H21 := Lib.hid h21
  have H22 := Lib.hid (H11.out.kept h23')
  have HB2 := Lib.hid (below_then H12.out h23')
  clear hK K h21 h22 h23 h23' d0 d1 H1 H11 H12
  iterate 5 (refine Text.purek rfl rfl (fun K hK => ⟨_, fun w' => by go_simp <;> rfl, ?_⟩); go_simp; refine hK _ ?_; clear hK K)
  refine Text.done ?_
  go_wp2_with fail
  have hbA : Below w2.heap.size w2 (w2.alloc (.cells #[.int .u8 1] 5)) := (Below.refl _ _).alloc (Nat.le_refl _) _
  have HF : Hid (Four (Py.frP xs, Py.itP xs ys, [], [1]) (.slice A3 n3 c3) (.slice A5 n5 c5) (.slice none 0 0) (.slice (some ⟨w2.heap.size, 0, none⟩) 1 1) (w2.alloc (.cells #[.int .u8 1] 5))) := Lib.hid ⟨_, _, _, _, _, _, _, _, _, _, _, _, rfl, rfl, rfl, rfl, H22.out.kept hbA, H21.out.kept hbA, BS.nil, BS.of_blk (l := [1]) (Blk.new w2 5 _) rfl (by decide)⟩
  have HBA := Lib.hid (below_then HB2.out hbA)
  clear hbA H21 H22 HB2
  go_loopw [3, 5, 7, 8] (fun v3 v5 v7 v8 wr => ∃ s, Hid (Four s v3 v5 v7 v8 wr) ∧ Hid (Py.dcA (n + t) s = Py.dcA (n + t) (Py.frP xs, Py.itP xs ys, [], [1])) ∧ Hid (Below w.heap.size w wr)) (fun _ v5 _ _ _ => lenV v5)
  case atStart => exact ⟨_, HF, Lib.hid rfl, HBA⟩
  case round =>
    obtain ⟨s, hf, hs, hb⟩ := hrel
    obtain ⟨A3, n3, c3, A5, n5, c5, A7, n7, c7, A8, n8, c8, rfl, rfl, rfl, rfl, b3, b5, b7, b8⟩ := hf.out
    have HB3 := Lib.hid b3
    have HB5 := Lib.hid b5
    have HB7 := Lib.hid b7
    have HB8 := Lib.hid b8
    have hm5 := b5.len_le
    have htl : Py.tl s.2.1 ≤ n5 := by have := Py.tl_le s.2.1; rw [b5.1] at this; exact this
    have hcw := H.out.kept hb.out
    have d0 := hcw.c0
    have d2 := hcw.c2
    obtain ⟨m, hm⟩ : ∃ m, m = Py.tl s.2.1 := ⟨_, rfl⟩
    rw [← hm] at htl
    have HM := Lib.hid hm
    have HNT : Hid ((n : Int) + (t : Int) ≤ 2000) := Lib.hid (by have := HN.out; have := HT.out; omega)
    have hnt := HNT.out
    have hm47 : (m : Int) ≤ 140737488355328 := by omega
    have ht0 : (0 : Int) ≤ (t : Int) := by omega
    have ht1 : (t : Int) ≤ 1000 := by have := HT.out; omega
    have HDG := Lib.hid (fun (W : World) (hW : BS W A5 n5 c5 s.2.1) => (show Calls Try.prog 86 #[.slice A5 n5 c5] W fun e w' => e = .returned (.int .i64 ((m : Int) - 1)) ∧ W = w' by rw [hm]; exact degree_any A5 n5 c5 s.2.1 W hW))
    clear b3 b5 b7 b8 hf hcw hm
    by_cases hgo : n + t + 2 ≤ 2 * m
    · have q : decide ((n : Int) + (t : Int) ≤ 2 * ((m : Int) - 1)) = true := by simp; omega
      go_wp2_with fail
      go_quiet ((go_at_call 86; exact quiet_left (HDG.out _ (HB5.out.drewN _))))
      obtain ⟨wd, hwd⟩ : ∃ wd : World, wd = wr.drewN nq := ⟨_, rfl⟩
      have D3 : Hid (BS wd A3 n3 c3 s.1) := Lib.hid (by rw [hwd]; exact HB3.out.drewN _)
      have D5 : Hid (BS wd A5 n5 c5 s.2.1) := Lib.hid (by rw [hwd]; exact HB5.out.drewN _)
      have D7 : Hid (BS wd A7 n7 c7 s.2.2.1) := Lib.hid (by rw [hwd]; exact HB7.out.drewN _)
      have D8 : Hid (BS wd A8 n8 c8 s.2.2.2) := Lib.hid (by rw [hwd]; exact HB8.out.drewN _)
      have DB : Hid (Below w.heap.size w wd) := Lib.hid (by rw [hwd]; exact below_drewN hb.out _)
      rw [← hwd]
      have HLT : Hid ((Py.divP s.1 s.2.1).2.length < m) := Lib.hid (by have := Py.divP_lt s.1 s.2.1 (by rw [← HM.out]; omega); rw [← HM.out] at this; exact this)
      have HSG : Hid (Py.dcA (n + t) (Py.dcS s) = Py.dcA (n + t) (Py.frP xs, Py.itP xs ys, [], [1])) := Lib.hid (by rw [← Py.dcA_go (n + t) s (by rw [← HM.out]; omega)]; exact hs.out)
      clear hwd HB3 HB5 HB7 HB8 hb HDG d0 d2 q hs
      go_wp2_with fail
      refine (divmod_any A3 A5 n3 c3 n5 c5 _ _ wd D3.out D5.out).mono ?_
      rintro e w4 ⟨Aq, nq', cq, Ar, nr, cr, rr, rfl, h41, h42, h43, h44, h45⟩
      have H41 := Lib.hid h41
      have H42 := Lib.hid h42
      have E5 := Lib.hid (D5.out.kept h45)
      have E7 := Lib.hid (D7.out.kept h45)
      have E8 := Lib.hid (D8.out.kept h45)
      have EB := Lib.hid (below_then DB.out h45)
      clear h41 h42 h43 h44 h45 D3 D5 D7 D8 DB
      go_wp2_with fail
      refine (pmul_any Aq A8 nq' cq n8 c8 _ _ w4 H41.out E8.out).mono ?_
      rintro e w5 ⟨vp, rp, rfl, Ap, np, cp, rfl, h51, h52, h53⟩
      have H51 := Lib.hid h51
      have F5 := Lib.hid (E5.out.kept h53)
      have F7 := Lib.hid (E7.out.kept h53)
      have F8 := Lib.hid (E8.out.kept h53)
      have FR := Lib.hid (H42.out.kept h53)
      have FB := Lib.hid (below_then EB.out h53)
      clear h51 h52 h53 E5 E7 E8 EB H41 H42
      go_wp2_with fail
      refine (add_any A7 Ap n7 c7 np cp _ _ w5 F7.out H51.out).mono ?_
      rintro e w6 ⟨va, rfl, ga, na, rfl, h61, h62, h63, h64⟩
      have H6 : Hid (Four (Py.dcS s) (.slice A5 n5 c5) (.slice Ar nr cr) (.slice A8 n8 c8) (.slice (some ⟨ga, 0, none⟩) na na) w6) := Lib.hid ⟨_, _, _, _, _, _, _, _, _, _, _, _, rfl, rfl, rfl, rfl, F5.out.kept h64, FR.out.kept h64, F8.out.kept h64, BS.of_blk h63 h61 (by
        have h1 := Py.tl_le (Py.xorL s.2.2.1 (Py.mulP (Py.divP s.1 s.2.1).1 s.2.2.2))
        have h2 := Py.trim_length (Py.xorL s.2.2.1 (Py.mulP (Py.divP s.1 s.2.1).1 s.2.2.2))
        have h3 : (Py.xorL s.2.2.1 (Py.mulP (Py.divP s.1 s.2.1).1 s.2.2.2)).length = max n7 np := by rw [Py.xorL, tab_length, F7.out.1, H51.out.1]
        have h4 := F7.out.2.2.1
        have h5 := H51.out.2.2.1
        have h6 : (Py.addP s.2.2.1 (Py.mulP (Py.divP s.1 s.2.1).1 s.2.2.2)).length = na := h61
        unfold Py.addP at h6
        omega)⟩
      have HNR : Hid (nr < n5) := Lib.hid (by have h1 := FR.out.1; have h2 := HLT.out; omega)
      have HB6 := Lib.hid (below_then FB.out h64)
      clear h61 h62 h63 h64
      go_wp2_with fail
      go_roundw
      case rel => exact ⟨_, H6, HSG, HB6⟩
      case measure => exact HNR.out
    · have q : decide ((n : Int) + (t : Int) ≤ 2 * ((m : Int) - 1)) = false := by simp; omega
      go_wp2_with fail
      go_quiet ((go_at_call 86; exact quiet_left (HDG.out _ (HB5.out.drewN _))))
      obtain ⟨wd, hwd⟩ : ∃ wd : World, wd = wr.drewN nq := ⟨_, rfl⟩
      have D5 : Hid (BS wd A5 n5 c5 s.2.1) := Lib.hid (by rw [hwd]; exact HB5.out.drewN _)
      have D8 : Hid (BS wd A8 n8 c8 s.2.2.2) := Lib.hid (by rw [hwd]; exact HB8.out.drewN _)
      have DB : Hid (Below w.heap.size w wd) := Lib.hid (by rw [hwd]; exact below_drewN hb.out _)
      rw [← hwd]
      have HSG : Hid ((Py.divP s.2.1 s.2.2.2).1 = Py.dcP xs ys t) := Lib.hid (by
        unfold Py.dcP
        rw [HLX.out, ← hs.out, Py.dcA_end (n + t) s (by rw [← HM.out]; omega)])
      clear hwd HB3 HB5 HB7 HB8 hb HDG d0 d2 q hs
      go_wp2_with fail
      refine (divmod_any A5 A8 n5 c5 n8 c8 _ _ wd D5.out D8.out).mono ?_
      rintro e w4 ⟨Aq, nq', cq, Ar, nr, cr, rr, rfl, h41, h42, h43, h44, h45⟩
      rw [HSG.out] at h41
      have HG : Hid (GvB (Py.dcP xs ys t) w (.slice Aq nq' cq) w4) := Lib.hid ⟨_, _, _, rfl, h41, (fun a e => Nat.le_trans DB.out.size (h43 a e)), below_then DB.out h45⟩
      clear h41 h42 h43 h44 h45
      go_wp2_with fail
      go_ret
      exact ⟨_, rfl, HG.out⟩
end Go.Proofs.Ytakedococfklgaa
/- Contract of column.mark. -/
namespace Go.Proofs.Ytakedococfklgaa
open Go.RowKit Gf

attribute [local go_sem] Gf.xor_bits Gf.and_bits Gf.or_bits Gf.ne_zero_iff Gf.eq_zero_iff Gf.eq_one_iff Gf.beq_bytes Gf.bne_bytes Gf.bv_toNat

def boR (l : List Bool) : Array Value := (l.map Value.bool).toArray
theorem gO_eq {l : List Bool} {k : Nat} (h : k < l.length) : gO l k = l[k] := by simp [gO, List.getD, List.getElem?_eq_getElem h]
theorem boR_get (l : List Bool) (k : Nat) (h : k < l.length) : (boR l)[k]? = some (.bool (gO l k)) := by
  rw [gO_eq h]; simp [boR, List.getElem?_eq_getElem h]
theorem boR_set (l : List Bool) (k : Nat) (b : Bool) : (boR l).setIfInBounds k (.bool b) = boR (l.set k b) := by
  simp [boR, List.map_set]
theorem WS.of_blk {w : World} {g n : Nat} {t : TypeId} {l : List Bool} (h : Blk w g t (boR l)) (hn : l.length = n) (hl : n ≤ lim) : WS w (some ⟨g, 0, none⟩) n n l :=
  ⟨hn, Nat.le_refl _, hl, fun k hk => ⟨g, 0, rfl, by rw [Nat.zero_add, h.cell]; exact boR_get l k (by omega)⟩⟩

/-- The polynomial that mark takes. -/
def mkP (xs ys : List UInt8) (wl : List Bool) (t most : Nat) : List UInt8 := if most < dsK xs ys (thP xs ys wl t) xs.length then Py.dcP xs ys t else thP xs ys wl t
def mkB (xs ys : List UInt8) (wl : List Bool) (t most : Nat) : Bool := !decide (t < (mkP xs ys wl t most).length) && !decide (most < dsK xs ys (mkP xs ys wl t most) xs.length)
/-- The marks after k rounds. -/
def mkK (xs ys p : List UInt8) (wl : List Bool) (k : Nat) : List Bool := (List.range wl.length).map fun i => if i < k then gO wl i || decide (Py.ev p (gB xs i) ≠ gB ys i) else gO wl i
theorem mkK_length (xs ys p : List UInt8) (wl : List Bool) (k : Nat) : (mkK xs ys p wl k).length = wl.length := by simp [mkK]
theorem mkK_get (xs ys p : List UInt8) (wl : List Bool) (k i : Nat) (h : i < wl.length) : gO (mkK xs ys p wl k) i = if i < k then gO wl i || decide (Py.ev p (gB xs i) ≠ gB ys i) else gO wl i := by
  rw [gO_eq (by rw [mkK_length]; exact h)]; simp [mkK]
theorem gO_ext {a b : List Bool} (hl : a.length = b.length) (h : ∀ k, k < a.length → gO a k = gO b k) : a = b := by
  apply List.ext_getElem hl
  intro i h1 h2
  have := h i h1
  rwa [gO_eq h1, gO_eq h2] at this
theorem mkK_zero (xs ys p : List UInt8) (wl : List Bool) : mkK xs ys p wl 0 = wl :=
  gO_ext (mkK_length _ _ _ _ _) (fun k hk => by rw [mkK_length] at hk; rw [mkK_get _ _ _ _ _ _ hk, if_neg (by omega)])
theorem mkK_same (xs ys p : List UInt8) (wl : List Bool) (k : Nat) (h : Py.ev p (gB xs k) = gB ys k) : mkK xs ys p wl (k + 1) = mkK xs ys p wl k :=
  gO_ext (by rw [mkK_length, mkK_length]) (fun i hi => by
    rw [mkK_length] at hi
    rw [mkK_get _ _ _ _ _ _ hi, mkK_get _ _ _ _ _ _ hi]
    by_cases e : i = k
    · subst e; rw [if_pos (by omega), if_neg (by omega)]; simp [h]
    · by_cases h2 : i < k
      · rw [if_pos (by omega), if_pos h2]
      · rw [if_neg (by omega), if_neg h2])
theorem mkK_set (xs ys p : List UInt8) (wl : List Bool) (k : Nat) (hk : k < wl.length) (h : Py.ev p (gB xs k) ≠ gB ys k) : (mkK xs ys p wl k).set k true = mkK xs ys p wl (k + 1) :=
  gO_ext (by rw [List.length_set, mkK_length, mkK_length]) (fun i hi => by
    rw [List.length_set, mkK_length] at hi
    rw [mkK_get _ _ _ _ _ _ hi]
    by_cases e : i = k
    · subst e
      rw [if_pos (by omega), gO, List.getD_eq_getElem?_getD, List.getElem?_set_self (by rw [mkK_length]; exact hi)]
      simp [h]
    · have : gO ((mkK xs ys p wl k).set k true) i = gO (mkK xs ys p wl k) i := by
        simp [gO, List.getD, List.getElem?_set_ne (fun e' => e e'.symm)]
      rw [this, mkK_get _ _ _ _ _ _ hi]
      by_cases h2 : i < k
      · rw [if_pos h2, if_pos (by omega)]
      · rw [if_neg h2, if_neg (by omega)])

def MarkRet (b : Bool) (gw : Nat) (t : TypeId) (l : List Bool) (w : World) (e : Ending) (w' : World) : Prop := e = .returned (.bool b) ∧ (b = true → Blk w' gw t (boR l)) ∧ Kp (· = gw) w w'

theorem Col.kp {w w' : World} {gc gw : Nat} {A A' : Option Addr} {n c c' t : Nat} {xs ys : List UInt8} (h : Col w gc A A' n c c' t xs ys) (hk : Kp (· = gw) w w') (hg : gc ≠ gw) (hA : AtB A (· ≠ gw)) (hA' : AtB A' (· ≠ gw)) : Col w' gc A A' n c c' t xs ys :=
  ⟨hk.cell h.c0 hg, hk.cell h.c1 hg, hk.cell h.c2 hg, far_kept h.b0 hk hA, far_kept h.b1 hk hA'⟩

set_option maxRecDepth 100000 in
set_option maxHeartbeats 2000000 in
theorem mark_any (gc gw : Nat) (A A' : Option Addr) (n c c' t most : Nat) (tw : TypeId) (xs ys : List UInt8) (wl : List Bool) (w : World) (h : Col w gc A A' n c c' t xs ys) (hw : Blk w gw tw (boR wl)) (hwl : wl.length = n) (hn : n ≤ 1000) (ht : t ≤ 1000) (hd : Py.Dst xs)
    (hgc : gc ≠ gw) (hA : AtB A (· ≠ gw)) (hA' : AtB A' (· ≠ gw)) :
    Calls Try.prog 47 #[.pointer (some ⟨gc, 0, none⟩), .slice (some ⟨gw, 0, none⟩) n n, .int .i64 (most : Int)] w (MarkRet (mkB xs ys wl t most) gw tw (mkK xs ys (mkP xs ys wl t most) wl n) w) := by
  have H := Lib.hid h
  have HW := Lib.hid hw
  have HWL := Lib.hid hwl
  have HLX := Lib.hid h.b0.1
  have HD := Lib.hid hd
  have hn2 : n ≤ 140737488355328 := by omega
  have HN := Lib.hid hn
  have HT := Lib.hid ht
  have hgw := hw.lt
  clear h hw hd hn ht hwl
  go_enter Try.func47, Try.ntmps47
  go_wp2_with fail
  refine (through_any gc A A' _ n c c' t n xs ys wl w H.out (WS.of_blk HW.out HWL.out (by unfold lim; omega)) HN.out HD.out).mono ?_
  rintro e w1 ⟨v1, rfl, A1, n1, c1, rfl, h11, h12, h13⟩
  have P1 := Lib.hid h11
  have P2 := Lib.hid h12
  have H1 := Lib.hid (H.out.kept h13)
  have B1 := Lib.hid h13
  clear h11 h12 h13
  have HP : Hid (mkP xs ys wl t most = if most < dsK xs ys (thP xs ys wl t) n then Py.dcP xs ys t else thP xs ys wl t) := Lib.hid (by rw [mkP, HLX.out])
  have HMB : Hid (mkB xs ys wl t most = (!decide (t < (mkP xs ys wl t most).length) && !decide (most < dsK xs ys (mkP xs ys wl t most) n))) := Lib.hid (by rw [mkB, HLX.out])
  obtain ⟨P, hP⟩ : ∃ P, P = mkP xs ys wl t most := ⟨_, rfl⟩
  rw [← hP] at HP HMB
  have HPE := Lib.hid hP
  obtain ⟨d1, hd1⟩ : ∃ d, d = dsK xs ys (thP xs ys wl t) n := ⟨_, rfl⟩
  have hdl1 : d1 ≤ n := by rw [hd1]; exact dsK_le _ _ _ _
  rw [← hd1] at HP
  have HD1 := Lib.hid (distance_any gc A A' A1 n c c' t n1 c1 xs ys _ w1 H1.out P1.out)
  rw [← hd1] at HD1
  clear hP hd1
  go_wp2_with fail
  refine HD1.out.mono ?_
  rintro e w2 ⟨rfl, m2, hm2⟩
  have H2 : Hid (Col w2 gc A A' n c c' t xs ys) := Lib.hid (by rw [hm2]; exact H1.out.drewN _)
  have B2 : Hid (Below w.heap.size w w2) := Lib.hid (by rw [hm2]; exact below_drewN B1.out _)
  have Q1 : Hid (BS w2 A1 n1 c1 (thP xs ys wl t)) := Lib.hid (by rw [hm2]; exact P1.out.drewN _)
  clear hm2 HD1 H1 B1 P1
  -- both ways meet: a polynomial in memory of its own
  by_cases hmd : most < d1
  case' pos =>
    have q : decide ((most : Int) < (d1 : Int)) = true := by simp; omega
    have q' : decide (most < d1) = true := by simpa using hmd
    have HPP : Hid (P = Py.dcP xs ys t) := Lib.hid (by rw [HP.out, if_pos hmd])
    go_wp2_with fail
    refine (decode_any gc A A' n c c' t xs ys w2 H2.out HN.out HT.out HD.out).mono ?_
    rintro e w3 ⟨v3, rfl, A3, n3, c3, rfl, h31, h32, h33⟩
    rw [← HPP.out] at h31
    have R1 := Lib.hid h31
    have R2' : Hid (AtB A3 (w.heap.size ≤ ·)) := Lib.hid (fun a e => Nat.le_trans B2.out.size (h32 a e))
    have H3 := Lib.hid (H2.out.kept h33)
    have B3 := Lib.hid (below_then B2.out h33)
    clear h31 h32 h33 q q' HPP H2 B2 Q1 P2
  case' neg =>
    have q : decide ((most : Int) < (d1 : Int)) = false := by simp; omega
    have q' : decide (most < d1) = false := by simpa using hmd
    have HPP : Hid (P = thP xs ys wl t) := Lib.hid (by rw [HP.out, if_neg hmd])
    obtain ⟨w3, rfl⟩ : ∃ w3, w3 = w2 := ⟨_, rfl⟩
    obtain ⟨A3, rfl⟩ : ∃ A3, A3 = A1 := ⟨_, rfl⟩
    obtain ⟨n3, rfl⟩ : ∃ n3, n3 = n1 := ⟨_, rfl⟩
    obtain ⟨c3, rfl⟩ : ∃ c3, c3 = c1 := ⟨_, rfl⟩
    have R1 : Hid (BS w3 A3 n3 c3 P) := Lib.hid (by rw [HPP.out]; exact Q1.out)
    have R2' := P2
    have H3 := H2
    have B3 := B2
    clear HPP H2 B2 Q1 P2
  all_goals
    have hn3 : n3 ≤ 140737488355328 := R1.out.len_le
    have HN3 : Hid (P.length = n3) := Lib.hid R1.out.1
    have cc2 := H3.out.c2
    obtain ⟨d2, hd2⟩ : ∃ d, d = dsK xs ys P n := ⟨_, rfl⟩
    have hdl2 : d2 ≤ n := by rw [hd2]; exact dsK_le _ _ _ _
    have HD2 := Lib.hid (distance_any gc A A' A3 n c c' t n3 c3 xs ys P w3 H3.out R1.out)
    rw [← hd2] at HD2 HMB
    clear hd2
    rw [HN3.out] at HMB
    by_cases htn : t < n3
    · have q1 : decide ((t : Int) < (n3 : Int)) = true := by simp; omega
      have q1' : decide (t < n3) = true := by simpa using htn
      have HF : Hid (mkB xs ys wl t most = false) := Lib.hid (by rw [HMB.out, q1']; rfl)
      go_wp2_with fail
      go_ret
      rw [HF.out]
      exact ⟨rfl, fun h => by (cases h), Kp.of_below B3.out⟩
    · have q1 : decide ((t : Int) < (n3 : Int)) = false := by simp; omega
      have q1' : decide (t < n3) = false := by simpa using htn
      go_wp2_with fail
      refine HD2.out.mono ?_
      rintro e w4 ⟨rfl, m4, hm4⟩
      have H4 : Hid (Col w4 gc A A' n c c' t xs ys) := Lib.hid (by rw [hm4]; exact H3.out.drewN _)
      have B4 : Hid (Below w.heap.size w w4) := Lib.hid (by rw [hm4]; exact below_drewN B3.out _)
      have S1 : Hid (BS w4 A3 n3 c3 P) := Lib.hid (by rw [hm4]; exact R1.out.drewN _)
      clear hm4 HD2 H3 B3 R1 cc2
      by_cases hmd2 : most < d2
      · have q2 : decide ((most : Int) < (d2 : Int)) = true := by simp; omega
        have q2' : decide (most < d2) = true := by simpa using hmd2
        have HF : Hid (mkB xs ys wl t most = false) := Lib.hid (by rw [HMB.out, q1', q2']; rfl)
        go_wp2_with fail
        go_ret
        rw [HF.out]
        exact ⟨rfl, fun h => by (cases h), Kp.of_below B4.out⟩
      · have q2 : decide ((most : Int) < (d2 : Int)) = false := by simp; omega
        have q2' : decide (most < d2) = false := by simpa using hmd2
        have HF : Hid (mkB xs ys wl t most = true) := Lib.hid (by rw [HMB.out, q1', q2']; rfl)
        have cc0 := H4.out.c0
        have BW4 : Hid (Blk w4 gw tw (boR (mkK xs ys P wl 0))) := Lib.hid (by rw [mkK_zero]; exact HW.out.kept B4.out)
        go_wp2_with fail
        clear cc0 q1 q1' q2 q2'
        go_loopw [39] (fun i wr => ∃ k : Nat, k ≤ n ∧ i = .int .i64 (k : Int) ∧ Hid (Blk wr gw tw (boR (mkK xs ys P wl k))) ∧ Hid (Kp (· = gw) w4 wr)) (fun i _ => n - (intOf i).toNat)
        case atStart => exact ⟨0, by omega, rfl, BW4, Lib.hid (Kp.refl _ _)⟩
        case round =>
          obtain ⟨k, hk, rfl, hbw, hkp⟩ := hrel
          by_cases hlt : k < n
          · have HCW := H4.out.kp hkp.out hgc hA hA'
            obtain ⟨gx, ox, rfl, hcx⟩ := HCW.b0.at_ (Below.refl _ _) hlt
            obtain ⟨gy, oy, rfl, hcy⟩ := HCW.b1.at_ (Below.refl _ _) hlt
            have cc1 := HCW.c1
            have T1 : Hid (BS wr A3 n3 c3 P) := Lib.hid (far_kept S1.out hkp.out (fun a e h9 => by have := R2'.out a e; omega))
            have hwc := hbw.out.cell k
            rw [boR_get _ _ (by rw [mkK_length, HWL.out]; exact hlt)] at hwc
            have hwf := hbw.out.frozen k
            clear HCW
            by_cases he : Py.ev P (gB xs k) = gB ys k
            · have q : (Py.ev P (gB xs k) != gB ys k) = false := by simpa using he
              have HS : Hid (Blk wr gw tw (boR (mkK xs ys P wl (k + 1)))) := Lib.hid (by rw [mkK_same _ _ _ _ _ he]; exact hbw.out)
              have HE := Lib.hid he
              clear he
              go_wp2_with fail
              go_quiet ((go_at_call 69; exact Calls.quiet_of (eval_any _ _ _ _ _ _ (T1.out.drewN _))))
              go_wp2_with fail
              go_roundw
              case rel => exact ⟨k + 1, by omega, by go_num, Lib.hid (HS.out.drewN _), Lib.hid (hkp.out.drewN _)⟩
              case measure => simp [intOf]; omega
            · have q : (Py.ev P (gB xs k) != gB ys k) = true := by simpa using he
              have HS : Hid (∀ m, Blk ((wr.drewN m).setCell ⟨gw, k, none⟩ (.bool true)) gw tw (boR (mkK xs ys P wl (k + 1)))) := Lib.hid (fun m => by
                have := (hbw.out.drewN m).set_ k (.bool true)
                rw [boR_set, mkK_set _ _ _ _ _ (by rw [HWL.out]; exact hlt) he] at this
                exact this)
              have HE := Lib.hid he
              clear he
              go_wp2_with fail
              go_quiet ((go_at_call 69; exact Calls.quiet_of (eval_any _ _ _ _ _ _ (T1.out.drewN _))))
              go_wp2_with fail
              go_roundw
              case rel => exact ⟨k + 1, by omega, by go_num, Lib.hid (HS.out _), Lib.hid ((hkp.out.drewN _).set (.inl rfl) _)⟩
              case measure => simp [intOf]; omega
          · obtain rfl : k = n := by omega
            go_wp2_with fail
            go_ret
            rw [HF.out]
            exact ⟨rfl, fun _ => (by rw [← HPE.out]; exact hbw.out), (Kp.of_below B4.out).trans hkp.out⟩
end Go.Proofs.Ytakedococfklgaa
