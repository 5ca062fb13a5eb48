/- Plain: shares of one sharing, in any number and order: they are valid, agree, and give every other share. -/
import Derived.Test.YtakedococfklgaaSqm
import Derived.Test.YtakedococfklgaaB2
import Derived.Test.YtakedococfklgaaSmm
namespace Go.Proofs.Ytakedococfklgaa
open Go.RowKit Gf

/-- m consists of shares of the sharing (s, co), at different elements. -/
structure Good (m : List (Int × List UInt8)) (s : List UInt8) (co : List (List UInt8)) : Prop where
  x : ∀ i, i < m.length → 1 ≤ (gS m i).1 ∧ (gS m i).1 ≤ 255
  d : ∀ i, i < m.length → (gS m i).2 = spK s co (gX m i) s.length
  n : ∀ i j, j < i → i < m.length → (gS m j).1 ≠ (gS m i).1

theorem gX_take {m : List (Int × List UInt8)} {t i : Nat} (h : i < t) : gX (m.take t) i = gX m i := by rw [gX, gX, gS_take h]
theorem gI_xsL {m : List (Int × List UInt8)} {i : Nat} (h : i < m.length) : gI (xsL m) i = (gS m i).1 := by
  rw [gI_eq (by rw [xsL, List.length_map]; exact h), gS_eq h]; simp [xsL]
theorem sh_of {m : List (Int × List UInt8)} {L : Nat} (h64 : m.length ≤ 64) (hE : Eql m L) (hL : L ≤ 1024) (hx : ∀ i, i < m.length → 1 ≤ (gS m i).1 ∧ (gS m i).1 ≤ 255) (hn : ∀ i j, j < i → i < m.length → (gS m j).1 ≠ (gS m i).1) : shB m = true := by
  rw [shB_all (fun i hi => ?_)]
  · have hl : (xsL m).length = m.length := by rw [xsL, List.length_map]
    refine xsB_true (by rw [hl]; exact h64) (fun i hi => ?_)
    rw [hl] at hi
    unfold xOk
    rw [gI_xsL hi, vX_iff.2 (hx i hi)]
    have : (List.range i).any (fun j => gI (xsL m) j == (gS m i).1) = false := by
      rw [List.any_eq_false]; intro j hj
      have hj' := List.mem_range.1 hj
      rw [gI_xsL (by omega)]
      simpa using hn i j hj' hi
    rw [this]; rfl
  · unfold dOk
    exact decide_eq_true ⟨by rw [hE i hi, hE 0 (by omega)], by rw [hE i hi]; exact hL⟩

section
variable {m : List (Int × List UInt8)} {s : List UInt8} {co : List (List UInt8)}
theorem Good.eql (h : Good m s co) : Eql m s.length := fun i hi => by rw [h.d i hi, spK_length]
theorem Good.sh (h : Good m s co) (h64 : m.length ≤ 64) (hL : s.length ≤ 1024) : shB m = true := sh_of h64 h.eql hL h.x h.n
theorem Good.val (h : Good m s co) {i b : Nat} (hi : i < m.length) (hb : b < s.length) : gB (gS m i).2 b = Py.ev (spP s co b) (gX m i) := by
  rw [h.d i hi, spK, gB_tab _ hb, rv_ev]
theorem Good.dst (h : Good m s co) : Py.Dst (Py.xsU m) := fun i j hij hj e => by
  rw [Py.xsU_length] at hj
  rw [Py.gB_xsU (by omega), Py.gB_xsU hj] at e
  have h1 := h.x i (by omega)
  have h2 := h.x j hj
  have e1 := gX_eq (l := m) (k := i) (by omega) (by omega)
  have e2 := gX_eq (l := m) (k := j) (by omega) (by omega)
  exact h.n j i hij hj (by rw [e1, e2, e])
theorem Good.take (h : Good m s co) (t : Nat) : Good (m.take t) s co := by
  have hl : ∀ i, i < (m.take t).length → i < t ∧ i < m.length := fun i hi => by rw [List.length_take] at hi; omega
  exact ⟨fun i hi => by rw [gS_take (hl i hi).1]; exact h.x i (hl i hi).2, fun i hi => by rw [gS_take (hl i hi).1, gX_take (hl i hi).1]; exact h.d i (hl i hi).2, fun i j hj hi => by rw [gS_take (hl i hi).1, gS_take (by have := (hl i hi).1; omega)]; exact h.n i j hj (hl i hi).2⟩
theorem Good.vl (h : Good m s co) (hl : m.length = co.length + 1) (X : UInt8) : vlA m X = spK s co X s.length := by
  have hE := h.eql
  have h0 : (gS m 0).2.length = s.length := hE 0 (by omega)
  have hv : (vlK m X s.length m.length).length = s.length := vlK_length hE X _ (Nat.le_refl _)
  unfold vlA
  rw [h0]
  refine gB_ext (by rw [hv, spK_length]) fun b hb => ?_
  rw [hv] at hb
  rw [Py.vl_ev hE hb h.dst (p := spP s co b) (by rw [spP, List.length_cons, List.length_map, hl]; exact Nat.le_refl _) (fun j hj => (h.val hj hb).symm) X, spK, gB_tab _ hb, rv_ev]
theorem Good.vlt (h : Good m s co) {t : Nat} (ht : t = co.length + 1) (hl : t ≤ m.length) (X : UInt8) : vlA (m.take t) X = spK s co X s.length :=
  (h.take t).vl (by rw [List.length_take]; omega) X
theorem Good.ag (h : Good m s co) {t : Nat} (ht : t = co.length + 1) : agB m t = true := agB_true fun i hti hi => by
  unfold agK
  exact decide_eq_true (by rw [h.vlt ht (by omega), h.d i hi])
theorem spK_zero (s : List UInt8) (co : List (List UInt8)) : spK s co 0 s.length = s := by
  refine gB_ext (spK_length _ _ _ _) fun b hb => ?_
  rw [spK_length] at hb
  rw [spK, gB_tab _ hb, rv_ev, ev_at0]; rfl
theorem Good.short (h : Good m s co) (h64 : m.length ≤ 64) (hL : s.length ≤ 1024) {t : Nat} (ht1 : 1 ≤ t) (ht2 : t ≤ 16) (hl : m.length < t) : ckE m (t : Int) = 10 ∧ cbL m (t : Int) 0 = [] := by
  have h1 : ckE m (t : Int) = 10 := by
    unfold ckE
    rw [h.sh h64 hL, vT_iff.2 ⟨by omega, by omega⟩, Bool.and_self, if_pos rfl, if_pos (by omega)]
  exact ⟨h1, by unfold cbL; rw [h1, if_neg (by decide)]⟩
theorem Good.ok (h : Good m s co) (h64 : m.length ≤ 64) (hL : s.length ≤ 1024) {t : Nat} (ht2 : t ≤ 16) (ht : t = co.length + 1) (hl : t ≤ m.length) : ckE m (t : Int) = 0 ∧ cbL m (t : Int) 0 = s := by
  have h1 : ckE m (t : Int) = 0 := by
    unfold ckE
    rw [h.sh h64 hL, vT_iff.2 ⟨by omega, by omega⟩, Bool.and_self, if_pos rfl, if_neg (by omega), show (t : Int).toNat = t by omega, h.ag ht, if_pos rfl]
  refine ⟨h1, ?_⟩
  unfold cbL
  rw [h1, if_pos rfl, show (t : Int).toNat = t by omega, h.vlt ht hl, spK_zero]
theorem Good.ext (h : Good m s co) (h64 : m.length ≤ 64) (hL : s.length ≤ 1024) {t : Nat} (ht2 : t ≤ 16) (ht : t = co.length + 1) (hl : t ≤ m.length) {x : Int} (hx : vX x = true) : exE m (t : Int) x = 0 ∧ exX m (t : Int) x = x ∧ exL m (t : Int) x = spK s co (UInt8.ofNat x.toNat) s.length := by
  have h1 : exE m (t : Int) x = 0 := by unfold exE; rw [hx, if_pos rfl, (h.ok h64 hL ht2 ht hl).1]
  refine ⟨h1, by unfold exX; rw [h1, if_pos rfl], ?_⟩
  unfold exL
  rw [h1, if_pos rfl, show (t : Int).toNat = t by omega, h.vlt ht hl]
theorem Good.chk (h : Good m s co) (h64 : m.length ≤ 64) (hL : s.length ≤ 1024) {t : Nat} (ht2 : t ≤ 16) (ht : t = co.length + 1) : chE m (t : Int) = 0 ∧ chB m (t : Int) = true := by
  have h1 : (shB m && vT (t : Int)) = true := by rw [h.sh h64 hL, vT_iff.2 ⟨by omega, by omega⟩]; rfl
  refine ⟨by unfold chE; rw [h1, if_pos rfl], ?_⟩
  unfold chB
  rw [h1, show (t : Int).toNat = t by omega, h.ag ht]; rfl
theorem wnK_good {z : List Int} (hz : xsB z = true) : Good (wnK s co z) s co := by
  obtain ⟨_, h2, h3⟩ := xsB_spec hz
  refine ⟨fun i hi => ?_, fun i hi => ?_, fun i j hj hi => ?_⟩
  · rw [wnK_length] at hi; rw [gS_wnK hi]; exact h2 i hi
  · rw [wnK_length] at hi; rw [gX_wnK hi, gS_wnK hi]
  · rw [wnK_length] at hi; rw [gS_wnK hi, gS_wnK (by omega)]; exact h3 i j hj hi
/-- Which share a chosen one is. -/
theorem pk_map (l : List (Int × List UInt8)) (P : Nat → Bool) : ∀ k, ∃ f : Nat → Nat, (∀ i, i < (pkK l P k).length → f i < k ∧ gS (pkK l P k) i = gS l (f i)) ∧ ∀ i j, j < i → i < (pkK l P k).length → f j < f i
  | 0 => ⟨id, fun i hi => absurd hi (by simp [pkK]), fun i j _ hi => absurd hi (by simp [pkK])⟩
  | k + 1 => by
    obtain ⟨f, h1, h2⟩ := pk_map l P k
    rw [pkK]
    cases hP : P k with
    | false =>
      rw [if_neg (by decide)]
      exact ⟨f, fun i hi => ⟨by have := (h1 i hi).1; omega, (h1 i hi).2⟩, h2⟩
    | true =>
      rw [if_pos rfl]
      refine ⟨fun i => if i < (pkK l P k).length then f i else k, fun i hi => ?_, fun i j hj hi => ?_⟩
      · rw [List.length_append, List.length_singleton] at hi
        by_cases e : i < (pkK l P k).length
        · simp only [if_pos e]
          exact ⟨by have := (h1 i e).1; omega, by rw [gS_append_left e]; exact (h1 i e).2⟩
        · simp only [if_neg e]
          obtain rfl : i = (pkK l P k).length := by omega
          exact ⟨by omega, gS_append_self⟩
      · rw [List.length_append, List.length_singleton] at hi
        by_cases e : i < (pkK l P k).length
        · simp only [if_pos e, if_pos (show j < (pkK l P k).length by omega)]
          exact h2 i j hj e
        · simp only [if_neg e, if_pos (show j < (pkK l P k).length by omega)]
          exact (h1 j (by omega)).1
theorem Good.pk (h : Good m s co) (P : Nat → Bool) : Good (pkK m P m.length) s co := by
  obtain ⟨f, h1, h2⟩ := pk_map m P m.length
  refine ⟨fun i hi => ?_, fun i hi => ?_, fun i j hj hi => ?_⟩
  · rw [(h1 i hi).2]; exact h.x _ (h1 i hi).1
  · rw [gX, (h1 i hi).2]; exact h.d _ (h1 i hi).1
  · rw [(h1 i hi).2, (h1 j (by omega)).2]; exact h.n _ _ (h2 i j hj hi) (h1 i hi).1
end
end Go.Proofs.Ytakedococfklgaa
