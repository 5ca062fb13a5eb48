/- Plain facts about the shares that Split gives, and about the coefficients that fit. -/
import Derived.Test.YtakedococfklgaaRe2m
import Derived.Test.YtakedococfklgaaPam
import Derived.Test.YtakedococfklgaaFi0m
namespace Go.Proofs.Ytakedococfklgaa
open Go.RowKit Gf

/-! ### the plain law -/
theorem hor_length {m : List (List UInt8)} (x : UInt8) {L : Nat} (hm : ∀ j, j < m.length → (gR m j).length = L) : ∀ j, j ≤ m.length → (hor m x L j).length = L
  | 0, _ => zeros_length L
  | j + 1, h => by
    have h1 := hor_length x hm j (by omega)
    rw [hor, muladd_length _ _ _ (by rw [hm _ (by omega), h1]), h1]
theorem hor_at {m : List (List UInt8)} (x : UInt8) {L : Nat} (hm : ∀ j, j < m.length → (gR m j).length = L) {b : Nat} (hb : b < L) : ∀ j, j ≤ m.length → gB (hor m x L j) b = Py.ev ((m.drop (m.length - j)).map (fun r => gB r b)) x
  | 0, _ => by
    rw [Nat.sub_zero, List.drop_length]
    show gB (zeros L) b = 0
    rw [gB_eq (by rw [zeros_length]; exact hb)]
    simp [zeros]
  | j + 1, h => by
    have h1 := hor_length x hm j (by omega)
    have h2 : m.length - (j + 1) < m.length := by omega
    rw [hor, Py.gB_mad (by rw [hm _ (by omega), h1]) (by rw [h1]; exact hb), hor_at x hm hb j (by omega), List.drop_eq_getElem_cons h2, List.map_cons, Py.ev_cons, show m.length - (j + 1) + 1 = m.length - j by omega, show m.length - 1 - j = m.length - (j + 1) by omega, gR_eq h2, mul_comm]
theorem spl_share {s : List UInt8} {co : List (List UInt8)} (hr : ∀ j, j < co.length → (gR co j).length = s.length) (X : UInt8) : evl (splM s co) X = spK s co X s.length := by
  have hm : ∀ j, j < (splM s co).length → (gR (splM s co) j).length = s.length := fun j hj => by
    cases j with
    | zero => rfl
    | succ j => exact hr j (by simpa [splM] using hj)
  have hl : (evl (splM s co) X).length = s.length := hor_length X hm _ (Nat.le_refl _)
  apply List.ext_getElem (by rw [hl, spK_length])
  intro i h1 h2
  have hi : i < s.length := by rw [← hl]; exact h1
  rw [← gB_eq h1, ← gB_eq h2, spK, gB_tab _ hi, rv_ev]
  show gB (hor (splM s co) X s.length (splM s co).length) i = _
  rw [hor_at X hm hi _ (Nat.le_refl _), Nat.sub_self]
  rfl
/-- The specified shares. -/
def wnK (s : List UInt8) (co : List (List UInt8)) (z : List Int) : List (Int × List UInt8) := z.map fun x => (x, spK s co (UInt8.ofNat x.toNat) s.length)
theorem wnK_take (s : List UInt8) (co : List (List UInt8)) (z : List Int) (k : Nat) (h : k < z.length) : wnK s co (z.take (k + 1)) = wnK s co (z.take k) ++ [(gI z k, spK s co (UInt8.ofNat (gI z k).toNat) s.length)] := by
  rw [List.take_succ_eq_append_getElem h, gI_eq h, wnK, List.map_append]; rfl
theorem ltB_rows {m : List (List UInt8)} {n : Nat} (h : ltB m n = true) : m.length < 16 ∧ ∀ j, j < m.length → (gR m j).length = n := by
  unfold ltB at h
  rw [Bool.and_eq_true, List.all_eq_true] at h
  refine ⟨by simpa using h.2, fun j hj => ?_⟩
  have h1 := h.1 j (List.mem_range.2 hj)
  have h2 : ((gR m j).length : Int) = (n : Int) := by simpa using h1
  omega
theorem wn_spl {s : List UInt8} {co : List (List UInt8)} (hr : ∀ j, j < co.length → (gR co j).length = s.length) (z : List Int) : splS s co z = wnK s co z := by
  unfold splS wnK
  exact List.map_congr_left fun x _ => by rw [spl_share hr]
theorem spl_no {s : List UInt8} {co : List (List UInt8)} {z : List Int} (h : (ltB co s.length && xsB z) = false) : splE s co z = 1 ∧ splL s co z = [] := by
  have h1 : splE s co z = 1 := by unfold splE; rw [h]; rfl
  exact ⟨h1, by unfold splL; rw [h1]; rfl⟩
theorem spl_big {s : List UInt8} {co : List (List UInt8)} {z : List Int} (h : (ltB co s.length && xsB z) = true) (hb : 1024 < s.length) : splE s co z = 2 ∧ splL s co z = [] := by
  have h1 : splE s co z = 2 := by unfold splE; rw [h, if_pos rfl, if_pos hb]
  exact ⟨h1, by unfold splL; rw [h1]; rfl⟩
theorem spl_ok {s : List UInt8} {co : List (List UInt8)} {z : List Int} (h : (ltB co s.length && xsB z) = true) (hb : ¬ 1024 < s.length) : splE s co z = 0 ∧ splL s co z = splS s co z := by
  have h1 : splE s co z = 0 := by unfold splE; rw [h, if_pos rfl, if_neg hb]
  exact ⟨h1, by unfold splL; rw [h1]; rfl⟩

/-! ### shares of a sharing -/
theorem spl_zero {s : List UInt8} {co : List (List UInt8)} {z : List Int} (h : splE s co z = 0) : ltB co s.length = true ∧ xsB z = true ∧ s.length ≤ 1024 := by
  unfold splE at h
  cases h1 : (ltB co s.length && xsB z) with
  | false => rw [h1, if_neg (by decide)] at h; exact absurd h (by decide)
  | true =>
    rw [h1, if_pos rfl] at h
    rw [Bool.and_eq_true] at h1
    refine ⟨h1.1, h1.2, ?_⟩
    by_cases h2 : 1024 < s.length
    · rw [if_pos h2] at h; exact absurd h (by decide)
    · omega
section
variable {s : List UInt8} {co : List (List UInt8)} {z : List Int}
theorem wnK_length : (wnK s co z).length = z.length := by rw [wnK, List.length_map]
theorem gS_wnK {i : Nat} (h : i < z.length) : gS (wnK s co z) i = (gI z i, spK s co (UInt8.ofNat (gI z i).toNat) s.length) := by
  rw [gS_eq (by rw [wnK_length]; exact h), gI_eq h]; simp [wnK]
theorem gX_wnK {i : Nat} (h : i < z.length) : gX (wnK s co z) i = UInt8.ofNat (gI z i).toNat := by rw [gX, gS_wnK h]
theorem wnK_eql : Eql (wnK s co z) s.length := fun k hk => by
  rw [wnK_length] at hk
  rw [gS_wnK hk]; exact spK_length _ _ _ _
theorem wnK_val {i b : Nat} (h : i < z.length) (hb : b < s.length) : gB (gS (wnK s co z) i).2 b = Py.ev (spP s co b) (gX (wnK s co z) i) := by
  rw [gX_wnK h, gS_wnK h]
  show gB (spK s co _ s.length) b = _
  rw [spK, gB_tab _ hb, rv_ev]
theorem xsL_wnK : xsL (wnK s co z) = z := by
  unfold xsL wnK; rw [List.map_map]
  exact (List.map_congr_left fun _ _ => rfl).trans (List.map_id z)
theorem wnK_sh (hz : xsB z = true) (hn : s.length ≤ 1024) : shB (wnK s co z) = true := by
  rw [shB_all (fun i hi => ?_), xsL_wnK]
  · exact hz
  · unfold dOk
    refine decide_eq_true ⟨?_, ?_⟩
    · rw [wnK_eql i hi, wnK_eql 0 (by omega)]
    · rw [wnK_eql i hi]; exact hn
end

/-! ### coefficients that fit -/
theorem gR_ge {m : List (List UInt8)} {r : Nat} (h : m.length ≤ r) : gR m r = [] := by unfold gR; rw [List.getD_eq_getElem?_getD, List.getElem?_eq_none h]; rfl
theorem ev_at0 : ∀ p : List UInt8, Py.ev p 0 = gB p 0
  | [] => rfl
  | a :: l => by rw [Py.ev_cons, mul_zero, Py.z_xor]; rfl
section
variable {s : List UInt8} {l : List (Int × List UInt8)}
theorem fiX_length : (fiX l).length = l.length + 1 := by rw [fiX, List.length_cons, coX, tab_length]
theorem gB_fiX {i : Nat} (h : i < l.length) : gB (fiX l) (i + 1) = gX l i := by rw [fiX, gB_cons_succ, coX, gB_tab _ h]
theorem fiP_length (b : Nat) : (fiP s l b).length ≤ l.length + 1 := by
  have := Py.itP_length (fiX l) (fiY s l b)
  rw [fiX_length] at this; exact this
theorem fiP_zero (hd : Py.Dst (fiX l)) (b : Nat) : gB (fiP s l b) 0 = gB s b := by
  have h1 := Py.itP_value (ys := fiY s l b) hd (i := 0) (by rw [fiX_length]; omega)
  rw [show gB (fiX l) 0 = 0 from rfl, ev_at0] at h1
  exact h1
theorem fiP_val (hd : Py.Dst (fiX l)) {b i : Nat} (hi : i < l.length) : Py.ev (fiP s l b) (gX l i) = gB (gS l i).2 b := by
  have h1 := Py.itP_value (ys := fiY s l b) hd (i := i + 1) (by rw [fiX_length]; omega)
  rw [gB_fiX hi] at h1
  rw [fiP, h1, fiY, gB_cons_succ, coY, gB_tab _ hi]
theorem fiM_length : (fiM s l).length = l.length := by rw [fiM, List.length_map, List.length_range]
theorem gR_fiM {r : Nat} (h : r < l.length) : gR (fiM s l) r = tab s.length fun j => gB (fiP s l j) (r + 1) := by
  rw [gR_eq (by rw [fiM_length]; exact h)]; simp [fiM]
theorem fiM_rows {r : Nat} (h : r < l.length) : (gR (fiM s l) r).length = s.length := by rw [gR_fiM h, tab_length]
theorem gB_col {m : List (List UInt8)} {b r : Nat} : gB (m.map fun r => gB r b) r = gB (gR m r) b := by
  by_cases h : r < m.length
  · rw [gB_eq (by rw [List.length_map]; exact h), gR_eq h]; simp
  · rw [gB_ge (by rw [List.length_map]; omega), gR_ge (by omega)]; rfl
theorem fi_coef (hd : Py.Dst (fiX l)) {b : Nat} (hb : b < s.length) (k : Nat) : gB (spP s (fiM s l) b) k = gB (fiP s l b) k := by
  cases k with
  | zero => rw [fiP_zero hd]; rfl
  | succ r =>
    rw [spP, gB_cons_succ, gB_col]
    by_cases h : r < l.length
    · rw [gR_fiM h, gB_tab _ hb]
    · rw [gR_ge (by rw [fiM_length]; omega), gB_ge (l := fiP s l b) (by have := fiP_length (s := s) (l := l) b; omega)]; rfl
theorem fi_same {co : List (List UInt8)} {z : List Int} {o : List UInt8} (ho : o.length = s.length) (hd : Py.Dst (fiX (wnK s co z))) : wnK o (fiM o (wnK s co z)) z = wnK s co z := by
  obtain ⟨l, hl⟩ : ∃ l, l = wnK s co z := ⟨_, rfl⟩
  have hn : l.length = z.length := by rw [hl, wnK_length]
  rw [← hl] at hd ⊢
  apply List.ext_getElem (by rw [wnK_length, hn])
  intro i h1 h2
  rw [← gS_eq h1, ← gS_eq h2]
  have hi : i < z.length := by rw [wnK_length] at h1; exact h1
  have e1 : gS l i = (gI z i, spK s co (UInt8.ofNat (gI z i).toNat) s.length) := by rw [hl]; exact gS_wnK hi
  rw [gS_wnK hi, e1]
  refine Prod.ext rfl ?_
  show spK o (fiM o l) _ o.length = spK s co _ s.length
  refine gB_ext (by rw [spK_length, spK_length, ho]) fun b hb => ?_
  rw [spK_length] at hb
  have hX : UInt8.ofNat (gI z i).toNat = gX l i := by rw [gX, e1]
  rw [hX]
  have e2 := fiP_val (s := o) hd (b := b) (i := i) (by omega)
  rw [e1] at e2
  rw [spK, gB_tab _ hb, rv_ev, Py.ev_congr (fi_coef hd hb), e2, hX]
theorem fi_back {co : List (List UInt8)} {z : List Int} (hz : z.length = co.length) (hr : ∀ j, j < co.length → (gR co j).length = s.length) (hd : Py.Dst (fiX (wnK s co z))) : fiM s (wnK s co z) = co := by
  refine gR_ext (by rw [fiM_length, wnK_length, hz]) fun r hrl => ?_
  rw [fiM_length, wnK_length] at hrl
  refine gB_ext (by rw [fiM_rows (by rw [wnK_length]; exact hrl), hr r (by omega)]) fun b hb => ?_
  rw [fiM_rows (by rw [wnK_length]; exact hrl)] at hb
  rw [gR_fiM (by rw [wnK_length]; exact hrl), gB_tab _ hb]
  have h1 := Py.unique (p := fiP s (wnK s co z) b) (q := spP s co b) hd (by rw [fiX_length]; exact fiP_length b) (by rw [fiX_length, wnK_length, spP, List.length_cons, List.length_map, hz]; exact Nat.le_refl _) (fun i hi => by
    cases i with
    | zero => rw [show gB (fiX (wnK s co z)) 0 = 0 from rfl, ev_at0, ev_at0, fiP_zero hd]; rfl
    | succ i =>
      rw [fiX_length] at hi
      have hi2 : i < (wnK s co z).length := by omega
      rw [gB_fiX hi2, fiP_val hd hi2, wnK_val (by rw [wnK_length] at hi2; exact hi2) hb]) (r + 1)
  rw [h1, spP, gB_cons_succ, gB_col]
end
end Go.Proofs.Ytakedococfklgaa
