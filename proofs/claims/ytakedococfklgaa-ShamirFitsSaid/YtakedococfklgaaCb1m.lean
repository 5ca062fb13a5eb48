/- Plain: what Combine, Extend and Check return is what the reference's Agreed says. -/
import Derived.Test.YtakedococfklgaaCb0m
namespace Go.Proofs.Ytakedococfklgaa
open Go.RowKit Gf

section
variable {l : List (Int × List UInt8)} {t : Int}
theorem coX_ds (h : shB l = true) : Py.Dst (coX l) := fun i j hij hj e => by
  obtain ⟨_, _, _, sp4, sp5⟩ := shB_spec h
  rw [coX_len] at hj
  rw [gB_coX (by omega), gB_coX hj] at e
  have h1 := sp4 i (by omega)
  have h2 := sp4 j hj
  exact sp5 j i hij hj (by rw [gX_eq (l := l) (k := i) (by omega) (by omega), gX_eq (l := l) (k := j) (by omega) (by omega), e])
theorem eql_ln (h : shB l = true) : Eql l (lnK l) := fun k hk => by
  obtain ⟨_, sp2, _⟩ := shB_spec h
  rw [lnK, if_neg (by omega)]; exact sp2 k hk
theorem ck_ag : ckE l t = agE l t := by
  unfold ckE agE
  cases hs : (shB l && vT t) with
  | false => rfl
  | true =>
    rw [Bool.and_eq_true] at hs
    by_cases hn : (l.length : Int) < t
    · rw [if_pos rfl, if_pos rfl, if_pos hn, if_pos hn]
    · have h1 := vT_iff.1 hs.2
      rw [if_pos rfl, if_pos rfl, if_neg hn, if_neg hn, ag_bl (L := lnK l) (eql_ln hs.1) (coX_ds hs.1) (by omega) (by omega), show ((t.toNat : Nat) : Int) = t by omega]
theorem ag_cases : (agE l t = 1 ∧ (shB l && vT t) = false) ∨ ((shB l && vT t) = true ∧ (agE l t = 10 ∨ agE l t = 13 ∨ agE l t = 0)) := by
  unfold agE
  cases hs : (shB l && vT t) with
  | false => exact .inl ⟨rfl, rfl⟩
  | true =>
    refine .inr ⟨rfl, ?_⟩
    rw [if_pos rfl]
    by_cases hn : (l.length : Int) < t
    · rw [if_pos hn]; exact .inl rfl
    · rw [if_neg hn]
      cases blB (shgK l (lnK l)) t with
      | true => exact .inr (.inr rfl)
      | false => exact .inr (.inl rfl)
theorem ag_bad (h : agE l t = 1) : chE l t = 1 ∧ chB l t = false ∧ cbL l t 0 = [] := by
  rcases ag_cases (l := l) (t := t) with h1 | ⟨_, h2 | h2 | h2⟩
  · refine ⟨by unfold chE; rw [h1.2]; rfl, by unfold chB; rw [h1.2]; rfl, by unfold cbL; rw [ck_ag, h, if_neg (by decide)]⟩
  all_goals (rw [h] at h2; exact absurd h2 (by decide))
theorem ag_good (h : agE l t ≠ 1) : chE l t = 0 ∧ chB l t = decide (agE l t ≠ 13) := by
  rcases ag_cases (l := l) (t := t) with h1 | ⟨hs, h2⟩
  · exact absurd h1.1 h
  refine ⟨by unfold chE; rw [hs]; rfl, ?_⟩
  unfold chB
  rw [hs, Bool.true_and]
  have hs' := hs
  rw [Bool.and_eq_true] at hs'
  have h3 := vT_iff.1 hs'.2
  by_cases hn : (l.length : Int) < t
  · have h4 : agE l t = 10 := by unfold agE; rw [hs, if_pos rfl, if_pos hn]
    rw [h4, agB_true fun i hi hl => absurd hl (by omega)]; rfl
  · have h5 := ag_bl (L := lnK l) (eql_ln hs'.1) (coX_ds hs'.1) (t := t.toNat) (by omega) (by omega)
    rw [show ((t.toNat : Nat) : Int) = t by omega] at h5
    have h4 : agE l t = if blB (shgK l (lnK l)) t then 0 else 13 := by unfold agE; rw [hs, if_pos rfl, if_neg hn]
    rw [h5, h4]
    cases blB (shgK l (lnK l)) t <;> rfl
theorem ag_zero (h : agE l t = 0) (X : UInt8) : vlA (l.take t.toNat) X = atK (agM l t) X (agM l t).length := by
  have hM : agM l t = shgK l (lnK l) := by unfold agM; rw [if_pos h]
  rw [hM, shgK_length]
  rcases ag_cases (l := l) (t := t) with h1 | ⟨hs, _⟩
  · rw [h] at h1; exact absurd h1.1 (by decide)
  have hs' := hs
  rw [Bool.and_eq_true] at hs'
  have h3 := vT_iff.1 hs'.2
  have hn : ¬ (l.length : Int) < t := fun hn => by
    have h4 : agE l t = 10 := by unfold agE; rw [hs, if_pos rfl, if_pos hn]
    rw [h] at h4; exact absurd h4 (by decide)
  have h4 : agE l t = if blB (shgK l (lnK l)) t then 0 else 13 := by unfold agE; rw [hs, if_pos rfl, if_neg hn]
  refine bl_vl (L := lnK l) (eql_ln hs'.1) (coX_ds hs'.1) (by omega) (by omega) ?_ X
  rw [show ((t.toNat : Nat) : Int) = t by omega]
  cases hb : blB (shgK l (lnK l)) t with
  | true => rfl
  | false => rw [h4, hb] at h; exact absurd h (by decide)
end
end Go.Proofs.Ytakedococfklgaa
