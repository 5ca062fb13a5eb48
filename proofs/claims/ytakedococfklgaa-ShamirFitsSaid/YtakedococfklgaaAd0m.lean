/- Plain: sums of shares are shares of the sum; refreshed shares. -/
import Derived.Test.YtakedococfklgaaGdm
import Derived.Test.YtakedococfklgaaRfrm
namespace Go.Proofs.Ytakedococfklgaa
open Go.RowKit Gf

/-- The sums of the rows. -/
def xmR (c d : List (List UInt8)) : List (List UInt8) := (List.range c.length).map fun j => muladd (gR c j) (gR d j) 1
theorem xmR_length (c d : List (List UInt8)) : (xmR c d).length = c.length := by rw [xmR, List.length_map, List.length_range]
theorem gR_xmR {c d : List (List UInt8)} {r : Nat} (h : r < c.length) : gR (xmR c d) r = muladd (gR c r) (gR d r) 1 := by
  rw [gR_eq (by rw [xmR_length]; exact h)]; simp [xmR]
theorem gB_mad1 {a b : List UInt8} (h : a.length = b.length) (i : Nat) : gB (muladd a b 1) i = gB a i ^^^ mul 1 (gB b i) := by
  by_cases hi : i < b.length
  · rw [Py.gB_mad h hi, xor_comm]
  · rw [gB_ge (by rw [muladd_length _ _ _ h]; omega), gB_ge (l := a) (by omega), gB_ge (l := b) (by omega)]; rfl
/-- The sums of the shares of two sharings. -/
def smK (a b : List UInt8) (c d : List (List UInt8)) (z : List Int) : List (Int × List UInt8) := z.map fun x => (x, muladd (spK a c (UInt8.ofNat x.toNat) a.length) (spK b d (UInt8.ofNat x.toNat) b.length) 1)
section
variable {a b : List UInt8} {c d : List (List UInt8)} {z : List Int}
theorem smK_length : (smK a b c d z).length = z.length := by rw [smK, List.length_map]
theorem smK_take {k : Nat} (h : k < z.length) : smK a b c d (z.take (k + 1)) = smK a b c d (z.take k) ++ [(gI z k, muladd (gS (wnK a c z) k).2 (gS (wnK b d z) k).2 1)] := by
  rw [List.take_succ_eq_append_getElem h, gS_wnK h, gS_wnK h, gI_eq h, smK, List.map_append]; rfl
theorem gS_smK {i : Nat} (h : i < z.length) : gS (smK a b c d z) i = (gI z i, muladd (spK a c (UInt8.ofNat (gI z i).toNat) a.length) (spK b d (UInt8.ofNat (gI z i).toNat) b.length) 1) := by
  rw [gS_eq (by rw [smK_length]; exact h), gI_eq h]; simp [smK]
theorem sm_coef (hab : a.length = b.length) (hcd : c.length = d.length) (hc : ∀ j, j < c.length → (gR c j).length = a.length) (hd : ∀ j, j < d.length → (gR d j).length = b.length) (i k : Nat) : gB (spP (muladd a b 1) (xmR c d) i) k = gB (spP a c i) k ^^^ mul 1 (gB (spP b d i) k) := by
  cases k with
  | zero => exact gB_mad1 hab i
  | succ r =>
    rw [spP, spP, spP, gB_cons_succ, gB_cons_succ, gB_cons_succ, gB_col, gB_col, gB_col]
    by_cases h : r < c.length
    · rw [gR_xmR h, gB_mad1 (by rw [hc r h, hd r (by omega), hab])]
    · rw [gR_ge (by rw [xmR_length]; omega), gR_ge (m := c) (by omega), gR_ge (m := d) (by omega), gB_ge (l := []) (by simp)]; rfl
theorem sm_good (hz : xsB z = true) (hab : a.length = b.length) (hcd : c.length = d.length) (hc : ∀ j, j < c.length → (gR c j).length = a.length) (hd : ∀ j, j < d.length → (gR d j).length = b.length) : Good (smK a b c d z) (muladd a b 1) (xmR c d) := by
  obtain ⟨_, h2, h3⟩ := xsB_spec hz
  have hml : (muladd a b 1).length = a.length := by rw [muladd_length _ _ _ hab, hab]
  refine ⟨fun i hi => ?_, fun i hi => ?_, fun i j hj hi => ?_⟩
  · rw [smK_length] at hi; rw [gS_smK hi]; exact h2 i hi
  · rw [smK_length] at hi
    have hX : gX (smK a b c d z) i = UInt8.ofNat (gI z i).toNat := by rw [gX, gS_smK hi]
    rw [hX, gS_smK hi]
    show muladd (spK a c _ a.length) (spK b d _ b.length) 1 = spK _ _ _ _
    refine gB_ext (by rw [muladd_length _ _ _ (by rw [spK_length, spK_length, hab]), spK_length, spK_length, hml, hab]) fun k hk => ?_
    rw [muladd_length _ _ _ (by rw [spK_length, spK_length, hab]), spK_length] at hk
    rw [gB_mad1 (by rw [spK_length, spK_length, hab]), spK, spK, spK, gB_tab _ (by omega), gB_tab _ hk, gB_tab _ (by omega), rv_ev, rv_ev, rv_ev]
    exact (Py.ev_lin 1 _ (sm_coef hab hcd hc hd k)).symm
  · rw [smK_length] at hi; rw [gS_smK hi, gS_smK (by omega)]; exact h3 i j hj hi
theorem mad_zeros (a : List UInt8) : muladd a (zeros a.length) 1 = a := by
  have hl : a.length = (zeros a.length).length := (zeros_length _).symm
  refine gB_ext (by rw [muladd_length _ _ _ hl, zeros_length]) fun k hk => ?_
  rw [muladd_length _ _ _ hl, zeros_length] at hk
  rw [gB_mad1 hl, one_mul, gB_eq (l := zeros a.length) (by rw [zeros_length]; exact hk)]
  simp [zeros]
theorem rf_sm (hd : ∀ j, j < d.length → (gR d j).length = a.length) (h0 : 0 < z.length) : ∀ k, k ≤ z.length → rfK (wnK a c z) d k = smK a (zeros a.length) c d (z.take k)
  | 0, _ => rfl
  | k + 1, h => by
    have hL : (gS (wnK a c z) 0).2.length = a.length := wnK_eql 0 (by rw [wnK_length]; exact h0)
    have hk : k < z.length := by omega
    rw [rfK, rf_sm hd h0 k (by omega), smK_take hk, hL, gX_wnK hk, spl_share (by rw [zeros_length]; exact hd), gS_wnK hk, gS_wnK hk]
theorem rf_ok (hz : xsB z = true) (hn : a.length ≤ 1024) (hd16 : d.length < 16) (hd : ∀ j, j < d.length → (gR d j).length = a.length) (h0 : 0 < z.length) : rfE (wnK a c z) d = 0 ∧ rfL (wnK a c z) d = smK a (zeros a.length) c d z := by
  have hL : (gS (wnK a c z) 0).2.length = a.length := wnK_eql 0 (by rw [wnK_length]; exact h0)
  have hlt : ltB d (a.length : Int) = true := by
    unfold ltB
    rw [Bool.and_eq_true, List.all_eq_true]
    exact ⟨fun j hj => decide_eq_true (by rw [hd j (List.mem_range.1 hj)]), decide_eq_true hd16⟩
  have h1 : rfE (wnK a c z) d = 0 := by
    unfold rfE
    rw [wnK_sh hz hn, decide_eq_true hd16, Bool.and_self, if_pos rfl, if_neg (by rw [wnK_length]; omega), hL, hlt, if_pos rfl]
  refine ⟨h1, ?_⟩
  unfold rfL
  rw [h1, if_pos rfl, wnK_length, rf_sm hd h0 _ (Nat.le_refl _), List.take_of_length_le (Nat.le_refl _)]
end
end Go.Proofs.Ytakedococfklgaa
