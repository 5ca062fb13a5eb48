/- reedsolomon.Coefficients refuses; contract of kinkeepref04.Apply for one row. -/
import Derived.Test.YtoeeklkebcgmaaaA2
import Derived.Test.YtoeeklkebcgmaaaA7
namespace Go.Proofs.Ytoeeklkebcgmaaa
open Go.RowKit Gf

attribute [local go_sem] Gf.xor_bits Gf.and_bits Gf.or_bits Gf.ne_zero_iff Gf.eq_zero_iff Gf.eq_one_iff Gf.beq_bytes Gf.bne_bytes Gf.bv_toNat

/-- Coefficients' error. -/
def cfE (d t : Int) (z : List Int) (i : Int) : Int := if ixE d t z ≠ 0 ∨ i < 0 ∨ t ≤ i then 1 else if (z.length : Int) < d then 10 else 0
theorem ixE_cases (d t : Int) (z : List Int) : ixE d t z = 0 ∨ ixE d t z = 1 := by unfold ixE; split <;> simp

set_option maxHeartbeats 1000000 in
theorem coeff_bad (d t i : Int) (A : Option Addr) (n c : Nat) (z : List Int) (w : World) (h : IS w A n c z) (hbad : cfE d t z i ≠ 0) :
    Calls Try.prog 29 #[.int .i64 d, .int .i64 t, .slice A n c, .int .i64 i] w (Bad (cfE d t z i) w) := by
  have HL := Lib.hid h.1
  have HI := Lib.hid h
  have HB := Lib.hid hbad
  clear h hbad
  go_enter Try.func29, Try.ntmps29
  go_wp2_with fail
  refine (checkIndices_any d t A n c z w HI.out).mono ?_
  rintro e w1 ⟨rfl, hb1⟩
  have HB1 := Lib.hid hb1
  clear hb1
  rcases ixE_cases d t z with h0 | h0
  · by_cases h2 : i < 0
    · have HE : Hid (cfE d t z i = 1) := Lib.hid (by unfold cfE; rw [if_pos (.inr (.inl h2))])
      have q1 : decide (i < 0) = true := by simpa using h2
      rw [h0]
      clear HB h0 h2
      go_wp2_with fail
      go_ret2
      exact ⟨by rw [HE.out]; rfl, HB1.out⟩
    · have q1 : decide (i < 0) = false := by simpa using h2
      by_cases h3 : t ≤ i
      · have HE : Hid (cfE d t z i = 1) := Lib.hid (by unfold cfE; rw [if_pos (.inr (.inr h3))])
        have q2 : decide (t ≤ i) = true := by simpa using h3
        rw [h0]
        clear HB h0 h2 h3
        go_wp2_with fail
        go_ret2
        exact ⟨by rw [HE.out]; rfl, HB1.out⟩
      · have q2 : decide (t ≤ i) = false := by simpa using h3
        by_cases h4 : (n : Int) < d
        · have HE : Hid (cfE d t z i = 10) := Lib.hid (by unfold cfE; rw [if_neg (by rw [h0]; simp; omega), if_pos (by rw [HL.out]; exact h4)])
          have q3 : decide ((n : Int) < d) = true := by simpa using h4
          rw [h0]
          clear HB h0 h2 h3 h4
          go_wp2_with fail
          go_ret2
          exact ⟨by rw [HE.out]; rfl, HB1.out⟩
        · exact absurd (by unfold cfE; rw [if_neg (by rw [h0]; simp; omega), if_neg (by rw [HL.out]; exact h4)]) HB.out
  · have HE : Hid (cfE d t z i = 1) := Lib.hid (by unfold cfE; rw [if_pos (.inl (by rw [h0]; decide))])
    rw [h0]
    clear HB h0
    go_wp2_with fail
    go_ret2
    exact ⟨by rw [HE.out]; rfl, HB1.out⟩

set_option maxRecDepth 100000 in
set_option maxHeartbeats 2000000 in
theorem apply1_any (A : Option Addr) (c : Nat) (f : List UInt8) (A' : Option Addr) (n c' : Nat) (m : List (List UInt8)) (L : Nat) (w : World) (h : MS w A 1 c [f]) (h' : MS w A' n c' m) (hr : Rect m L) (hn : 0 < n) (hn8 : n ≤ 8) (hf : f.length = n) :
    Calls Try.prog 32 #[.slice A 1 c, .slice A' n c'] w fun e w' => ∃ gO cap, e = .returned (.slice (some ⟨gO, 0, none⟩) 1 cap) ∧ TabB w gO cap 1 L [pcR f m L] w' := by
  have HLm := Lib.hid h'.1
  have HF := Lib.hid h
  have HM := Lib.hid h'
  have HRC := Lib.hid hr
  have HFL := Lib.hid hf
  clear h h' hr hf
  obtain ⟨g0, o0, A0, n0, c0, rfl, hc0, hr0⟩ := HM.out.at_ (Below.refl _ _) hn
  obtain rfl : n0 = L := by rw [← hr0.1]; exact HRC.out 0 (by rw [HLm.out]; exact hn)
  rw [Nat.add_zero] at hc0
  have hL := hr0.len_le
  have HLL := Lib.hid hL
  have hL' : (n0 : Int) ≤ 140737488355328 := by omega
  clear hr0 hL
  have hn' : (0 : Int) < (n : Int) := by omega
  go_enter Try.func32, Try.ntmps32
  go_wp2_with fail
  refine (zero_any 1 n0 w (by omega) (by omega) HLL.out).mono ?_
  rintro e w1 ⟨gO, cap, G, rfl, ht1, hb1⟩
  have HT1 : Hid (TabB w gO cap 1 n0 [ppart f m n0 0 0] w1) := Lib.hid ⟨⟨G, by rw [ppart_zero]; exact ht1⟩, hb1⟩
  clear ht1 hb1
  go_wp2_with fail
  go_loopw [7] (fun x wr => (x = .int .i64 0 ∧ Hid (TabB w gO cap 1 n0 [ppart f m n0 0 0] wr)) ∨ (x = .int .i64 1 ∧ Hid (TabB w gO cap 1 n0 [pcR f m n0] wr))) (fun x _ => 1 - (intOf x).toNat)
  case atStart => exact .inl ⟨rfl, HT1⟩
  case round =>
    rcases hrel with ⟨rfl, HJ0⟩ | ⟨rfl, hI⟩
    · have hi1 : Hid (0 < 1) := Lib.hid (by decide)
      clear HT1
      go_wp2_with fail
      go_loopw [8] (fun x wr => ∃ j : Nat, j ≤ n0 ∧ x = .int .i64 (j : Int) ∧ Hid (TabB w gO cap 1 n0 [ppart f m n0 j 0] wr)) (fun x _ => n0 - (intOf x).toNat)
      case atStart => exact ⟨0, by omega, rfl, HJ0⟩
      case round =>
        obtain ⟨j, hj, rfl, hJ⟩ := hrel
        by_cases hlt : j < n0
        · go_wp2_with fail
          go_loopw [9] (fun x wr => ∃ k : Nat, k ≤ n ∧ x = .int .i64 (k : Int) ∧ Hid (TabB w gO cap 1 n0 [ppart f m n0 j k] wr)) (fun x _ => n - (intOf x).toNat)
          case atStart => exact ⟨0, by omega, rfl, hJ⟩
          case round =>
            obtain ⟨k, hk, rfl, hI2⟩ := hrel
            by_cases hkn : k < n
            · obtain ⟨⟨G, ht⟩, hb⟩ := hI2.out
              obtain ⟨g2, o2, A2, n2, c2, e2, hc2, hr2⟩ := HM.out.at_ hb hkn
              injection e2 with e2
              injection e2 with e21 e22
              subst e21 e22
              obtain rfl : n2 = n0 := by rw [← hr2.1]; exact HRC.out k (by rw [HLm.out]; exact hkn)
              obtain ⟨g3, o3, rfl, hc3⟩ := hr2.at_ (Below.refl _ _) hlt
              obtain ⟨g4, o4, A4, n4, c4, rfl, hc4, hr4⟩ := HF.out.at_ hb hi1.out
              rw [Nat.add_zero] at hc4
              obtain rfl : n4 = n := by rw [← hr4.1]; exact HFL.out
              obtain ⟨g5, o5, rfl, hc5⟩ := hr4.at_ (Below.refl _ _) hkn
              have hgf : gB (gR [f] 0) k = gB f k := rfl
              rw [hgf] at hc5
              have x1 := ht.cell hi1.out
              have x2 : wr.cell? ⟨G 0, j, none⟩ = some (B (xs1 f m j k)) := by
                rw [ht.at_ hi1.out hlt, show gR [ppart f m n2 j k] 0 = ppart f m n2 j k from rfl, ppart_get _ _ _ _ _ hlt]
              have x3 := ht.frozen hi1.out j
              have HR : Hid (TabB w gO cap 1 n2 [ppart f m n2 j (k + 1)] (wr.setCell ⟨G 0, j, none⟩ (B (xs1 f m j k ^^^ mul (gB f k) (gB (gR m k) j)))).drew) := by
                have h3 := ht.put hi1.out j (xs1 f m j (k + 1))
                have e9 : [ppart f m n2 j k].set 0 ((gR [ppart f m n2 j k] 0).set j (xs1 f m j (k + 1))) = [ppart f m n2 j (k + 1)] := by
                  rw [show gR [ppart f m n2 j k] 0 = ppart f m n2 j k from rfl, ppart_set]; rfl
                rw [e9] at h3
                exact Lib.hid ⟨⟨G, h3.drew⟩, (ht.putBelow hb hi1.out j _).drew⟩
              obtain ⟨xa, hxa⟩ : ∃ xa, xa = xs1 f m j k := ⟨_, rfl⟩
              obtain ⟨xb, hxb⟩ : ∃ xb, xb = gB f k := ⟨_, rfl⟩
              obtain ⟨xc, hxc⟩ : ∃ xc, xc = gB (gR m k) j := ⟨_, rfl⟩
              rw [← hxa] at x2 HR
              rw [← hxb] at hc5 HR
              rw [← hxc] at hc3 HR
              obtain ⟨gi, hgi⟩ : ∃ gi, gi = G 0 := ⟨_, rfl⟩
              rw [← hgi] at x1 x2 x3 HR
              clear ht hb hr2 hr4 hI2 hxa hxb hxc hJ hgf hgi HJ0
              go_wp2_with fail
              refine Text.wp_region_text (fun _ => True) [(0, 4), (1, 4), (2, 4), (4, 4), (5, 4), (6, 4), (7, 4), (9, 4), (12, 4), (13, 4), (14, 4), (16, 4), (19, 4), (20, 4), (21, 4), (23, 4), (3, 1), (8, 1), (10, 4), (11, 1), (15, 1), (17, 4), (18, 1), (22, 1), (24, 4), (25, 1), (26, 1), (27, 4), (28, 4), (29, 2)] (by kernel_rfl) (by kernel_rfl) (fun _ _ _ _ _ h => h) (trivial) ?_
              iterate 16 (refine Text.purek rfl rfl (fun K hK => ⟨_, fun w' => by go_simp <;> rfl, ?_⟩); go_simp; refine hK _ ?_; clear hK K)
              iterate 2 (refine Text.readk rfl rfl (fun K hK => ⟨_, by go_simp <;> rfl, ?_⟩); go_simp; refine hK _ ?_; clear hK K)
              (refine Text.purek rfl rfl (fun K hK => ⟨_, fun w' => by go_simp <;> rfl, ?_⟩); go_simp; refine hK _ ?_; clear hK K)
              iterate 2 (refine Text.readk rfl rfl (fun K hK => ⟨_, by go_simp <;> rfl, ?_⟩); go_simp; refine hK _ ?_; clear hK K)
              (refine Text.purek rfl rfl (fun K hK => ⟨_, fun w' => by go_simp <;> rfl, ?_⟩); go_simp; refine hK _ ?_; clear hK K)
              iterate 2 (refine Text.readk rfl rfl (fun K hK => ⟨_, by go_simp <;> rfl, ?_⟩); go_simp; refine hK _ ?_; clear hK K)
              (refine Text.purek rfl rfl (fun K hK => ⟨_, fun w' => by go_simp <;> rfl, ?_⟩); go_simp; refine hK _ ?_; clear hK K)
              (refine Text.readk rfl rfl (fun K hK => ⟨_, by go_simp <;> rfl, ?_⟩); go_simp; refine hK _ ?_; clear hK K)
              refine Text.quietk rfl rfl (fun K hK => ?_)
              refine ⟨_, _, _, by go_simp <;> rfl, rmul_any xb xc _, ?_⟩
              go_simp
              refine hK _ ?_
              clear hK K
              iterate 2 (refine Text.purek rfl rfl (fun K hK => ⟨_, fun w' => by go_simp <;> rfl, ?_⟩); go_simp; refine hK _ ?_; clear hK K)
              refine Text.eff rfl rfl (fun K hK => ?_)
              go_simp
              refine hK _ _ trivial ?_
              clear hK K
              refine Text.done ?_
              go_wp2_with fail
              go_roundw
              case rel => exact ⟨k + 1, by omega, by go_num, HR⟩
              case measure => simp [intOf]; omega
            · obtain rfl : k = n := by omega
              have HR : Hid (TabB w gO cap 1 n0 [ppart f m n0 (j + 1) 0] wr) := Lib.hid (by rw [← ppart_next, HLm.out]; exact hI2.out)
              clear hI2 hJ HJ0
              go_wp2_with fail
              go_roundw
              case rel => exact ⟨j + 1, by omega, by go_num, HR⟩
              case measure => simp [intOf]; omega
        · obtain rfl : j = n0 := by omega
          have HR : Hid (TabB w gO cap 1 j [pcR f m j] wr) := Lib.hid (by rw [← ppart_all]; exact hJ.out)
          clear hJ HJ0
          go_wp2_with fail
          go_roundw
          case rel => exact .inr ⟨by go_num, HR⟩
          case measure => simp [intOf]
    · have HR := hI
      clear hI HT1
      go_wp2_with fail
      go_ret
      exact ⟨gO, cap, rfl, HR.out⟩
end Go.Proofs.Ytoeeklkebcgmaaa
