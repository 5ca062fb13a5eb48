/- Contracts of package matrix: combine, Apply, Mul. -/
import Derived.Test.YtoeeklkebcgmaaaMat
import Derived.Deep.RegionHeld3
import Derived.Deep.RegionLaw
import Derived.Deep.RegionWith
namespace Go.Proofs.Ytoeeklkebcgmaaa
open Go.RowKit Gf

attribute [local go_sem] Gf.xor_bits Gf.and_bits Gf.or_bits Gf.ne_zero_iff Gf.eq_zero_iff Gf.eq_one_iff Gf.beq_bytes Gf.bne_bytes Gf.bv_toNat

/-- One row times blocks of length L, after the first k elements of the row. -/
def comb (row : List UInt8) (blocks : List (List UInt8)) (L : Nat) : Nat → List UInt8
  | 0 => zeros L
  | k + 1 => if gB row k = 0 then comb row blocks L k else muladd (comb row blocks L k) (gR blocks k) (gB row k)
theorem comb_length (row : List UInt8) (blocks : List (List UInt8)) (L : Nat) (hr : Rect blocks L) : ∀ k, k ≤ blocks.length → (comb row blocks L k).length = L
  | 0, _ => zeros_length L
  | k + 1, h => by
    unfold comb
    have ih := comb_length row blocks L hr k (by omega)
    by_cases e : gB row k = 0
    · rw [if_pos e]; exact ih
    · rw [if_neg e, muladd_length _ _ _ (by rw [ih, hr k (by omega)]), hr k (by omega)]

/-- Rows i of the product: those before r are done, row r after k elements, the others zero. -/
def crow (m blocks : List (List UInt8)) (L r k i : Nat) : List UInt8 := comb (gR m i) blocks L (if i < r then (gR m i).length else if i = r then k else 0)
def cmat (m blocks : List (List UInt8)) (L r k : Nat) : List (List UInt8) := (List.range m.length).map (crow m blocks L r k)
theorem cmat_length (m blocks : List (List UInt8)) (L r k : Nat) : (cmat m blocks L r k).length = m.length := by simp [cmat]
theorem cmat_get (m blocks : List (List UInt8)) (L r k i : Nat) (h : i < m.length) : gR (cmat m blocks L r k) i = crow m blocks L r k i := by
  rw [gR_eq (by rw [cmat_length]; exact h)]; simp [cmat]
theorem cmat_zero (m blocks : List (List UInt8)) (L : Nat) : cmat m blocks L 0 0 = (List.range m.length).map (fun _ => zeros L) := by
  apply List.ext_getElem (by simp [cmat])
  intro i h1 h2
  simp [cmat, crow, comb]
theorem cmat_next (m blocks : List (List UInt8)) (L r : Nat) (k : Nat) (h : (gR m r).length ≤ k) (hk : k ≤ (gR m r).length) : cmat m blocks L r k = cmat m blocks L (r + 1) 0 := by
  obtain rfl : k = (gR m r).length := by omega
  apply List.ext_getElem (by simp [cmat])
  intro i h1 h2
  simp only [cmat, List.getElem_map, List.getElem_range, crow]
  by_cases e1 : i < r
  · rw [if_pos e1, if_pos (by omega)]
  · rw [if_neg e1]
    by_cases e2 : i = r
    · subst e2; rw [if_pos rfl, if_pos (by omega)]
    · rw [if_neg e2, if_neg (by omega)]
      by_cases e3 : i = r + 1
      · rw [if_pos e3]
      · rw [if_neg e3]
theorem cmat_skip (m blocks : List (List UInt8)) (L r k : Nat) (h : gB (gR m r) k = 0) : cmat m blocks L r k = cmat m blocks L r (k + 1) := by
  apply List.ext_getElem (by simp [cmat])
  intro i h1 h2
  simp only [cmat, List.getElem_map, List.getElem_range, crow]
  by_cases e1 : i < r
  · rw [if_pos e1, if_pos e1]
  · rw [if_neg e1, if_neg e1]
    by_cases e2 : i = r
    · subst e2; rw [if_pos rfl, if_pos rfl]; conv => rhs; unfold comb
      rw [if_pos h]
    · rw [if_neg e2, if_neg e2]
theorem cmat_set (m blocks : List (List UInt8)) (L r k : Nat) (_hr : r < m.length) (h : gB (gR m r) k ≠ 0) :
    (cmat m blocks L r k).set r (muladd (crow m blocks L r k r) (gR blocks k) (gB (gR m r) k)) = cmat m blocks L r (k + 1) := by
  apply List.ext_getElem (by simp [cmat])
  intro i h1 h2
  rw [List.getElem_set]
  simp only [cmat, List.getElem_map, List.getElem_range]
  by_cases e : r = i
  · subst e
    rw [if_pos rfl]
    simp only [crow, Nat.lt_irrefl, if_false, if_true]
    conv => rhs; unfold comb
    rw [if_neg h]
  · rw [if_neg e]
    simp only [crow]
    by_cases e1 : i < r
    · rw [if_pos e1, if_pos e1]
    · rw [if_neg e1, if_neg e1, if_neg (Ne.symm e), if_neg (Ne.symm e)]
theorem crow_length (m blocks : List (List UInt8)) (L r k i : Nat) (hr : Rect blocks L) (hm : Rect m blocks.length) (hi : i < m.length) (hk : k ≤ blocks.length) : (crow m blocks L r k i).length = L := by
  unfold crow
  apply comb_length _ _ _ hr
  by_cases e1 : i < r
  · rw [if_pos e1, hm i hi]; exact Nat.le_refl _
  · rw [if_neg e1]; by_cases e2 : i = r
    · rw [if_pos e2]; exact hk
    · rw [if_neg e2]; omega

def CombI (m blocks : List (List UInt8)) (L g r k : Nat) (w wr : World) : Prop :=
  ∃ cs, RowsBlk wr g 22 cs (cmat m blocks L r k) ∧ Below w.heap.size w wr ∧ w.heap.size ≤ g

set_option maxHeartbeats 1000000 in
theorem combine_any (A A' : Option Addr) (n n' c c' : Nat) (m blocks : List (List UInt8)) (L : Nat) (w : World) (h : MS w A n c m) (h' : MS w A' n' c' blocks)
    (hm : Rect m n') (hbk : Rect blocks L) (hL : L ≤ 140737488355328) :
    Calls Try.prog 55 #[.slice A n c, .slice A' n' c', .int .i64 (L : Int)] w (Rets (NewM 22 (cmat m blocks L n 0)) w) := by
  have hn := h.len_le
  have hn' := h'.len_le
  have HLm := Lib.hid h.1
  have HLb := Lib.hid h'.1
  go_enter Try.func55, Try.ntmps55
  go_wp2_with (go_at_call 65; refine (zeros_any n L _ hn hL).mono ?_; rintro e w1 ⟨rfl, hgrid⟩)
  go_loopw [18] (fun i wr => ∃ r : Nat, r ≤ n ∧ i = .int .i64 (r : Int) ∧ CombI m blocks L w.heap.size r 0 w wr) (fun i _ => n - (intOf i).toNat)
  case atStart =>
    refine ⟨0, by omega, rfl, ptrs w.heap.size L n n, ?_, hgrid.2.2.1, Nat.le_refl _⟩
    rw [cmat_zero, HLm.out]
    exact hgrid.rowsBlk (fun i _ => zeros_length L) hL
  case round =>
    obtain ⟨r, hr, rfl, cs, h1, hb, _⟩ := hrel
    by_cases hlt : r < n
    · obtain ⟨ga, oa, A1, n1, c1, rfl, hca0, hra⟩ := h.at_ (Below.refl _ _) hlt
      obtain rfl : n1 = n' := by rw [← hra.1, hm r (by rw [HLm.out]; exact hlt)]
      have hca := cell_kept hb hca0
      have H1 := Lib.hid h1
      have HB := Lib.hid hb
      clear h1 hb hca0
      go_wp2
      obtain ⟨wo, rfl⟩ : ∃ wo : World, wo = wr := ⟨_, rfl⟩
      go_loopw [25] (fun i wr => ∃ k : Nat, k ≤ n1 ∧ i = .int .i64 (k : Int) ∧ CombI m blocks L w.heap.size r k w wr) (fun i _ => n1 - (intOf i).toNat)
      case atStart => exact ⟨0, by omega, rfl, _, H1.out, HB.out, Nat.le_refl _⟩
      case round =>
        obtain ⟨k, hk, rfl, cs', h2, hb2, _⟩ := hrel
        clear hca
        by_cases hlt2 : k < n1
        · obtain ⟨gr, ob, rfl, hcr⟩ := hra.at_ hb2 hlt2
          by_cases hz : gB (gR m r) k = 0
          · have hz' : (gB (gR m r) k != 0) = false := by simp [hz]
            have HR : Hid (CombI m blocks L w.heap.size r (k + 1) w wr) := Lib.hid ⟨cs', by rw [← cmat_skip _ _ _ _ _ hz]; exact h2, hb2, Nat.le_refl _⟩
            clear hz h2 hb2
            go_wp2
            go_roundw
            case rel => exact ⟨k + 1, by omega, by go_num, HR.out⟩
            case measure => simp [intOf]; omega
          · have hz' : (gB (gR m r) k != 0) = true := by simp [hz]
            obtain ⟨gb, o2, A2, n2, c2, rfl, hcb0, hrb⟩ := h'.at_ (Below.refl _ _) hlt2
            have hcb := cell_kept hb2 hcb0
            obtain ⟨A3, n3, c3, hc3, hr3⟩ := h2.cell (i := r) (by rw [cmat_length, HLm.out]; exact hlt)
            rw [cmat_get _ _ _ _ _ _ (by rw [HLm.out]; exact hlt)] at hr3
            obtain rfl : n2 = L := by rw [← hrb.1, hbk k (by rw [HLb.out]; exact hlt2)]
            obtain rfl : n3 = n2 := by
              rw [← hr3.1, crow_length m blocks n2 r k r hbk (by rw [HLb.out]; exact hm) (by rw [HLm.out]; exact hlt) (by rw [HLb.out]; exact hk)]
            have hrbw := hrb.kept hb2
            have f3 := h2.1.frozen r
            have HS := Lib.hid (cmat_set m blocks n3 r k (by rw [HLm.out]; exact hlt) hz)
            have H2 := Lib.hid h2
            have HB2 := Lib.hid hb2
            have HR3 := Lib.hid hr3
            have HRB := Lib.hid hrbw
            have q1 : (0 : Int) ≤ (r : Int) := by omega
            have q2 : (r : Int) < (n : Int) := by omega
            have q3 : (0 : Int) ≤ (k : Int) := by omega
            have q4 : (k : Int) < (n1 : Int) := by omega
            clear hz h2 hb2 hcb0 hrb hr3 hrbw
            go_wp2
            go_region_with (go_at_call 66; refine (muladd_any _ _ _ _ _ _ _ _ _ HR3.out.drew HRB.out.drew).mono ?_; rintro e w2 ⟨v, rfl, g2, nn, rfl, hnn, hg2, hblk2, hbe2⟩; have hc2 := cell_kept (w := wr.drew) hbe2 hc3; have hf2 := (H2.out.1.drew.kept hbe2).frozen r)
            all_goals
              go_wp2
              go_roundw
              case rel =>
                have hml : nn ≤ lim := by
                  rw [← hnn, muladd_length _ _ _ (by rw [HR3.out.1, HRB.out.1]), HRB.out.1]; exact hL
                have := ((H2.out.drew).kept hbe2).set_ (i := r) (by rw [cmat_length, HLm.out]; exact hlt) (BS.of_blk hblk2 hnn hml)
                rw [HS.out] at this
                exact ⟨k + 1, by omega, by go_num, _, this, (below_thenB HB2.out HB2.out.size (below_ofDrew hbe2)).setCell (Nat.le_refl _) _, Nat.le_refl _⟩
              case measure => simp [intOf]; omega
        · have HR : Hid (CombI m blocks L w.heap.size (r + 1) 0 w wr) := by
            refine Lib.hid ⟨cs', ?_, hb2, Nat.le_refl _⟩
            rw [← cmat_next m blocks L r k (by rw [hm r (by rw [HLm.out]; exact hlt)]; omega) (by rw [hm r (by rw [HLm.out]; exact hlt)]; omega)]
            exact h2
          clear h2 hb2
          go_wp2
          go_roundw
          case rel => exact ⟨r + 1, by omega, by go_num, HR.out⟩
          case measure => simp [intOf]; omega
    · obtain rfl : r = n := by omega
      have HR : Hid (NewM 22 (cmat m blocks L r 0) w (.slice (some ⟨w.heap.size, 0, none⟩) r r) wr) := by
        exact Lib.hid ⟨w.heap.size, cs, r, rfl, by rw [cmat_length, HLm.out], Nat.le_refl _, h1, hb⟩
      clear h1 hb
      go_wp2
      go_ret
      exact ⟨_, rfl, HR.out⟩
end Go.Proofs.Ytoeeklkebcgmaaa
