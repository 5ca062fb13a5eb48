/- Lemmas for Locate: factors of none or some, a slice behind the first elements, places. -/
import Derived.Test.YtoeeklkebcgmaaaLoc0
namespace Go.Proofs.Ytoeeklkebcgmaaa
open Go.RowKit Gf

theorem IS.drop {w : World} {A : Option Addr} {n c d : Nat} {z : List Nat} (h : IS w A n c (ints z)) (hd : 0 < d) (hdn : d < n) : IS w (A.map fun x => x.add d) (n - d) (c - d) (ints (z.drop d)) := by
  have hl : z.length = n := by rw [← ints_length, h.1]
  have h3 := h.2.2.1
  refine ⟨by rw [ints_length, List.length_drop, hl], by have := h.2.1; omega, by unfold lim at h3 ⊢; omega, fun k hk => ?_⟩
  obtain ⟨g, o, e, hc⟩ := h.nat (Below.refl _ _) (show d + k < n by omega)
  refine ⟨g, o + d, by rw [e]; simp [Addr.add, show d ≠ 0 by omega], ?_⟩
  have e1 : gI (ints (z.drop d)) k = (gN z (d + k) : Int) := by
    rw [gI_eq (by rw [ints_length, List.length_drop]; omega), gN_eq (by omega)]
    simp [ints]
  show w.cell? ⟨g, o + d + k, none⟩ = some (.int .i64 (gI (ints (z.drop d)) k))
  rw [e1, Nat.add_assoc]
  exact hc
theorem gN_drop {z : List Nat} {d k : Nat} : gN (z.drop d) k = gN z (d + k) := by simp [gN, List.getD]
theorem facM_nil (d : Nat) (z : List Nat) : facM d z [] = [] := List.length_eq_zero_iff.1 (by rw [facM_length]; rfl)

def FacRet (F : List (List UInt8)) (n' : Nat) (w : World) (e : Ending) (w' : World) : Prop := ∃ A c, e = .returned (.slice A n' c) ∧ MS w' A n' c F ∧ Below w.heap.size w w'

theorem factors_gen (gt d : Nat) (A A' : Option Addr) (n n' c c' : Nat) (z y : List Nat) (w : World) (ht : Blk w gt 80 (tblA d 16 0)) (hd : d ≤ 8) (hd0 : 0 < d) (h : IS w A n c (ints z)) (hz : ∀ i, i < n → gN z i < 16) (hn : d ≤ n)
    (hyl : y.length = n') (h' : 0 < n' → IS w A' n' c' (ints y)) (hy : ∀ i, i < n' → gN y i < 16) (hn64 : n' ≤ 64) (hreg : Reg d z) :
    Calls Try.prog 41 #[.pointer (some ⟨gt, 0, none⟩), .slice A n c, .slice A' n' c'] w (FacRet (facM d z y) n' w) := by
  rcases Nat.eq_zero_or_pos n' with h0 | h0
  · subst h0
    have : y = [] := List.length_eq_zero_iff.1 hyl
    subst this
    refine (factors_none gt A A' n c c' w).mono ?_
    rintro e w' ⟨rfl, rfl⟩
    exact ⟨none, 0, rfl, by rw [facM_nil]; exact MS.nil, Below.refl _ _⟩
  · refine (factors_any gt d A A' n n' c c' z y w ht hd hd0 h hz hn (h' h0) hy h0 hn64 hreg).mono ?_
    rintro e w' ⟨v, rfl, hv⟩
    obtain ⟨g1, n1, rfl, hn1, hms, hb1⟩ := hv.ms (by rw [facM_length, hyl]; unfold lim; omega)
    obtain rfl : n1 = n' := by rw [← hn1, facM_length, hyl]
    exact ⟨_, _, rfl, hms, hb1⟩

theorem cfl_lt {m F : List (List UInt8)} {d L n : Nat} (hr : Rect m L) (hm : m.length = n) (hL : 0 < L) : ∀ j, d + j ≤ n → (∀ i, i < j → (prd m (gR F i) L).length = L) → cfl m F d L j < L := by
  intro j
  induction j with
  | zero => intro _ _; simp [cfl]; omega
  | succ j ih =>
    intro hj hp
    have h1 := ih (by omega) (fun i hi => hp i (by omega))
    simp only [cfl]
    split
    · exact h1
    · rename_i hne
      have hl1 : (gR m (d + j)).length = L := hr _ (by omega)
      have := (fdf_spec _ _ (by rw [hl1, hp j (by omega)]) hne).1
      split <;> omega
theorem ownsRow_base {w : World} {b b' : Nat} {e : TypeId} {v : Value} {n : Nat} {xs : List Value} (h : w.ownsRow b' e 1 v n xs) (hb : b ≤ b') : w.ownsRow b e 1 v n xs := by
  refine ⟨h.1, ?_⟩
  rcases h.2 with h2 | ⟨g, cap, cur, h1, h2, h3⟩
  · exact .inl h2
  · exact .inr ⟨g, cap, cur, h1, Nat.le_trans hb h2, h3⟩
end Go.Proofs.Ytoeeklkebcgmaaa
