/- The reference's Choices. -/
import Derived.Test.YtklfficlegfhjaaGreatMam
import Derived.Test.YtklfficlegfhjaaGreatC13
namespace Go.Proofs.YtklfficlegfhjaaGreat
open Go Go.RowKit Gf Sha

/-- A list of lists of ints, all of the call's own. -/
def OC (w : World) (base : Nat) (v : Value) (L : List (List Int)) : Prop :=
 ∃ css : List Value, css.length = L.length ∧ RW w 39 1 v L.length css ∧ (∀ b, v.ownBlock = some b → base ≤ b) ∧ ∀ k (h : k < L.length) (h' : k < css.length), OwnI w base css[k] L[k]
section
variable {w w' : World} {base : Nat} {v v' : Value} {L : List (List Int)}
theorem OC.kept (h : OC w base v L) (hb : Below w.heap.size w w') : OC w' base v L :=
 let ⟨css, h1, h2, h3, h4⟩ := h; ⟨css, h1, h2.kept hb, h3, fun k a b => (h4 k a b).kept hb⟩
theorem OwnI.kp {S : Nat → Prop} {x : List Int} (h : OwnI w base v x) (hk : Kp S w w') (hS : ∀ b, v.ownBlock = some b → ¬ S b) : OwnI w' base v x := ⟨h.1.kp hk hS, h.2⟩
theorem OC.kp {S : Nat → Prop} (h : OC w base v L) (hk : Kp S w w') (hS : ∀ b, base ≤ b → ¬ S b) : OC w' base v L :=
 let ⟨css, h1, h2, h3, h4⟩ := h; ⟨css, h1, h2.kp hk (fun b hb => hS b (h3 b hb)), h3, fun k a b => (h4 k a b).kp hk (fun b' hb => hS b' ((h4 k a b).2 b' hb))⟩
theorem OC.low (h : OC w base v L) {b0 : Nat} (hb : b0 ≤ base) : OC w b0 v L :=
 let ⟨css, h1, h2, h3, h4⟩ := h; ⟨css, h1, h2, fun b e => Nat.le_trans hb (h3 b e), fun k a b => ⟨(h4 k a b).1, fun b' e => Nat.le_trans hb ((h4 k a b).2 b' e)⟩⟩
theorem OC.nilB {g : Nat} (h : BL w g 39 []) (hg : base ≤ g) : OC w base (.slice (some ⟨g, 0, none⟩) 0 0) [] :=
 ⟨[], rfl, RW.of_blk h (by simp) (by decide), fun b hb => by cases hb; exact hg, fun k a => by cases a⟩
theorem OC.oneB {g : Nat} {u : Value} {x : List Int} (h : BL w g 39 [u]) (hg : base ≤ g) (hu : OwnI w base u x) : OC w base (.slice (some ⟨g, 0, none⟩) 1 1) [x] :=
 ⟨[u], rfl, RW.of_blk h (by simp) (by decide), fun b hb => by cases hb; exact hg, fun k a b => by
  have e : k = 0 := by simp at a; omega
  subst e
  exact hu⟩
theorem OC.push {u : Value} {x : List Int} {css : List Value} (h1 : css.length = L.length) (h2 : RW w 39 1 v L.length css) (h3 : ∀ b, v.ownBlock = some b → base ≤ b) (h4 : ∀ k (h : k < L.length) (h' : k < css.length), OwnI w base css[k] L[k])
  (hu : OwnI w base u x) (hb : base ≤ w.heap.size) (ap : AppR w 39 1 v L.length 1 css [u] v' w') : OC w' base v' (L ++ [x]) := by
 have hkp : ∀ (u : Value) (x : List Int), OwnI w base u x → OwnI w' base u x := fun u x hu => hu.kp ap.kp (fun b e e2 => by
  obtain ⟨cs, hc⟩ := hu.1.ty e
  exact h2.ne_bl hc (by decide) b e2 rfl)
 refine ⟨css ++ [u], by simp [h1], by have := ap.row; simpa using this, fun b e => (ap.own b e).elim (h3 b) (fun h => by omega), fun k a b => ?_⟩
 by_cases hlt : k < L.length
 ·
  rw [List.getElem_append_left (by omega), List.getElem_append_left hlt]
  exact hkp _ _ (h4 k hlt (by omega))
 ·
  have e : k = L.length := by simp at a; omega
  subst e
  rw [List.getElem_append_right (by omega), List.getElem_append_right (by omega)]
  simpa using hkp _ _ hu
/-- The element at a place. -/
theorem OC.at_ (h : OC w base v L) {k : Nat} {x : List Int} (hk : L[k]? = some x) : ∃ g o c u, v = .slice (some ⟨g, o, none⟩) L.length c ∧ w.cell? ⟨g, o + k, none⟩ = some u ∧ OwnI w base u x := by
 obtain ⟨hl, rfl⟩ := List.getElem?_eq_some_iff.1 hk
 obtain ⟨css, h1, h2, h3, h4⟩ := h
 obtain ⟨g, o, c, e, _, hat⟩ := h2.at_ (by omega)
 exact ⟨g, o, c, css[k], e, hat k css[k] (by rw [List.getElem?_eq_getElem (by omega)]), h4 k hl (by omega)⟩
theorem OC.form (h : OC w base v L) : ∃ A c, v = .slice A L.length c := by
 obtain ⟨css, h1, h2, _⟩ := h
 obtain ⟨A, c, e, _⟩ := h2.form
 exact ⟨A, c, e⟩
end
theorem combos_count {α : Type} : ∀ (l : List α) (n : Nat), (combos l n).length ≤ 2 ^ l.length
 | [], 0 => by simp [combos]
 | [], n + 1 => by simp [combos]
 | x :: l, 0 => by simp [combos]; exact Nat.one_le_two_pow
 | x :: l, n + 1 => by
  have h1 := combos_count l n
  have h2 := combos_count l (n + 1)
  rw [combos, List.length_append, List.length_map, List.length_cons, Nat.pow_succ]
  omega
theorem combos_4096 {α : Type} {l : List α} (n : Nat) (h : l.length ≤ 12) : (combos l n).length ≤ 4096 :=
 Nat.le_trans (combos_count l n) (Nat.le_trans (Nat.pow_le_pow_right (by decide) h) (by decide))
theorem bslIs0 (w : World) : (Instr.buildSlice 97 0 #[]).run Tryz.prog w = .ok (.slice (some ⟨w.heap.size, 0, none⟩) 0 0) (w.alloc (.cells ([] : List Value).toArray 39)) := by kernel_rfl
theorem bslIs1 (A : Option Addr) (n c : Nat) (w : World) : (Instr.buildSlice 97 1 #[(0, .slice A n c)]).run Tryz.prog w = .ok (.slice (some ⟨w.heap.size, 0, none⟩) 1 1) (w.alloc (.cells [.slice A n c].toArray 39)) := by kernel_rfl
theorem int_src {w : World} {base : Nat} {u : Value} {x : List Int} (h : OwnI w base u x) (hok : ∀ i ∈ x, wfI i) (hl : x.length ≤ 1000) : ∃ A c, u = .slice A x.length c ∧ ∀ w', Below w.heap.size w w' → Src Tryz.prog 1 39 u x.length (iL x) w' := by
 obtain ⟨A, c, rfl, hls, _⟩ := h.ls hok (by unfold lim; omega)
 obtain ⟨css, k1, k2, k3, k4⟩ := hls.src (P := Tryz.prog) (fun _ _ h => len_int _ _ h) (fun _ _ h => ones_int _ _ h) Tryz.underlying39
 have e : css.flatten = iL x := by
  have : css = x.map (fun i => [intV i]) := by
   apply List.ext_getElem
   ·
    simp [k1]
   ·
    intro k a b
    rw [List.getElem_map]
    exact (k3 k (by simpa using b) a).1
  rw [this]
  unfold iL
  clear this k1 k2 k3 k4 hls hok hl h
  induction x with
  | nil => rfl
  | cons i x ih => simp [ih]
 rw [e] at k4
 exact ⟨A, c, rfl, k4⟩
theorem wpList_cutM {P : Program} {w : World} {ops : Array Oper} {rest : List Oper} {o : Oper} {a : Act} {Q : Exit → Act → World → Prop} (hg : o.guard = none) (s lo : Operand) (ty te : TypeId) (m : Nat) (hop : o.op = .slice ty s (some lo) none none) (hu : P.underlying ty = some (.slice te)) (h2 : (sizeOf te).run P w = .ok m w)
  (A : Option Addr) (n c k : Nat) (hs : a.eval s = .slice A n c) (hlo : a.eval lo = .int .i64 (k : Int)) (hk : k ≤ n) (A2 : Option Addr) (n2 c2 : Nat) (e1 : A2 = cutM A c k m) (e2 : n2 = n - k) (e3 : c2 = c - k) (h : wpList P ops Q rest (a.put o.dst (.slice A2 n2 c2)) w) : wpList P ops Q (o :: rest) a w := by
 subst e1 e2 e3
 exact wpList_plain hg fun _ hK => wp_val (exec_cutM s lo ty te m hop hu h2 A n c k hs hlo hk) (hK _ _ h)
end Go.Proofs.YtklfficlegfhjaaGreat
