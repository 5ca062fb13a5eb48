/- Plain: what ShamirFits compares. -/
import Derived.Test.YtakedococfklgaaFt0m
import Derived.Test.YtakedococfklgaaFt2m
import Derived.Test.YtakedococfklgaaFt3m
import Derived.Test.YtakedococfklgaaAd0m
import Derived.Test.YtakedococfklgaaCb1m
namespace Go.Proofs.Ytakedococfklgaa
open Go.RowKit Gf

theorem rf_rr {l : List (Int × List UInt8)} {co : List (List UInt8)} {L : Nat} (hE : Eql l L) (hr : 0 < l.length → ∀ j, j < co.length → (gR co j).length = L) : ∀ k, k ≤ l.length → rfK l co k = rrK l co L k
  | 0, _ => rfl
  | k + 1, hk => by
    have h0 : (gS l 0).2.length = L := hE 0 (by omega)
    have hk2 : (gS l k).2.length = L := hE k (by omega)
    rw [rfK, rrK, rf_rr hE hr k (by omega), h0]
    have hz : (zeros L).length = L := zeros_length L
    have e : muladd (gS l k).2 (evl (splM (zeros L) co) (gX l k)) 1 = rrD l co L k L := by
      rw [spl_share (s := zeros L) (by rw [hz]; exact hr (by omega)), hz]
      have hsl := spK_length (zeros L) co (gX l k) L
      refine gB_ext (by rw [rrD_length, muladd_length _ _ _ (by rw [hk2, hsl]), hsl]) fun i hi => ?_
      rw [muladd_length _ _ _ (by rw [hk2, hsl]), hsl] at hi
      rw [Py.gB_mad (by rw [hk2, hsl]) (by rw [hsl]; exact hi), rrD, gB_tab _ hi, one_mul, xor_comm]
    rw [e]
theorem rrK_length (l : List (Int × List UInt8)) (co : List (List UInt8)) (L : Nat) : ∀ k, (rrK l co L k).length = k
  | 0 => rfl
  | k + 1 => by rw [rrK, List.length_append, rrK_length l co L k]; rfl
/-- Whether Refresh refuses. -/
def rfX (l : List (Int × List UInt8)) (co : List (List UInt8)) : Bool := !shB l || decide (15 < co.length) || (decide (0 < l.length) && !ltB co (lnK l))
theorem rfX_true {l : List (Int × List UInt8)} {co : List (List UInt8)} (h : rfX l co = true) : rfE l co = 1 ∧ rfL l co = [] := by
  have h1 : rfE l co = 1 := by
    unfold rfX at h
    unfold rfE
    cases hs : shB l with
    | false => rfl
    | true =>
      rw [hs] at h
      by_cases h2 : co.length < 16
      · rw [decide_eq_true h2, Bool.true_and, if_pos rfl]
        rw [decide_eq_false (by omega)] at h
        by_cases h3 : l.length = 0
        · rw [h3] at h; cases h
        · rw [if_neg h3]
          rw [decide_eq_true (by omega)] at h
          have hl : lnK l = (gS l 0).2.length := by unfold lnK; rw [if_neg h3]
          rw [hl] at h
          cases hb : ltB co (gS l 0).2.length with
          | true => rw [hb] at h; cases h
          | false => rfl
      · rw [decide_eq_false h2]; rfl
  exact ⟨h1, by unfold rfL; rw [h1, if_neg (by decide)]⟩
theorem rfX_false {l : List (Int × List UInt8)} {co : List (List UInt8)} (h : rfX l co = false) : rfE l co = 0 ∧ rfL l co = rrK l co (lnK l) l.length ∧ shB l = true ∧ co.length ≤ 15 ∧ (0 < l.length → ∀ j, j < co.length → (gR co j).length = lnK l) := by
  unfold rfX at h
  rw [Bool.or_eq_false_iff, Bool.or_eq_false_iff] at h
  obtain ⟨⟨h1, h2⟩, h3⟩ := h
  have hs : shB l = true := by cases e : shB l with | true => rfl | false => rw [e] at h1; cases h1
  have hc := of_decide_eq_false h2
  have hrow : 0 < l.length → ltB co (lnK l) = true := fun h0 => by
    rw [decide_eq_true h0, Bool.true_and] at h3
    cases e : ltB co (lnK l) with | true => rfl | false => rw [e] at h3; cases h3
  have hrr : 0 < l.length → ∀ j, j < co.length → (gR co j).length = lnK l := fun h0 => (ltB_rows (hrow h0)).2
  have hE : rfE l co = 0 := by
    unfold rfE
    rw [hs, decide_eq_true (show co.length < 16 by omega), Bool.true_and, if_pos rfl]
    by_cases h0 : l.length = 0
    · rw [if_pos h0]
    · have hl : lnK l = (gS l 0).2.length := by unfold lnK; rw [if_neg h0]
      rw [if_neg h0, ← hl, hrow (by omega), if_pos rfl]
  refine ⟨hE, ?_, hs, by omega, hrr⟩
  unfold rfL
  rw [if_pos hE]
  exact rf_rr (eql_ln hs) hrr _ (Nat.le_refl _)
/-- Whether Fits refuses. -/
def fiB (s : List UInt8) (l : List (Int × List UInt8)) (t : Int) : Bool := !shB l || !vT t || !decide ((l.length : Int) = t - 1) || (decide (0 < l.length) && !decide (lnK l = s.length)) || decide (1024 < s.length)
end Go.Proofs.Ytakedococfklgaa
