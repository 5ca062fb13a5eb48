/- ShamirDetects: for every input the law returns true, and its arguments read behind the call as they read before. No condition. The walk. -/
import Derived.Test.YtakedococfklgaaAw2m
import Derived.Test.YtakedococfklgaaDt1m
import Derived.Test.YtakedococfklgaaFewm
namespace Go.Proofs.Ytakedococfklgaa
open Go.RowKit Gf

theorem spl_bad {s : List UInt8} {co : List (List UInt8)} {z : List Int} (h : splE s co z ≠ 0) : splL s co z = [] := by unfold splL; rw [if_neg h]
theorem at_mod (a : UInt8) (n : Nat) : (bv a).tmod (n : Int) = ((a.toNat % n : Nat) : Int) := by unfold bv; rw [Int.tmod_eq_emod_of_nonneg (by omega)]; omega

set_option maxRecDepth 100000 in
set_option maxHeartbeats 8000000 in
theorem det_walk (As : Option Addr) (n cs : Nat) (s : List UInt8) (Ac : Option Addr) (nc cc : Nat) (co : List (List UInt8)) (Az : Option Addr) (nz cz : Nat) (z : List Int) (at' ch : UInt8) (w : World) (hs : BS w As n cs s) (hc : MS w Ac nc cc co) (hz : IS w Az nz cz z) :
    Calls Try.prog 9 #[.slice As n cs, .slice Ac nc cc, .slice Az nz cz, .int .u8 (bv at'), .int .u8 (bv ch)] w fun e w' => e = .returned (.bool true) ∧ Below w.heap.size w w' := by
  have HLS := Lib.hid hs.1
  have HLC := Lib.hid hc.1
  have HLZ := Lib.hid hz.1
  have hn := hs.len_le
  have hnc := hc.len_le
  have hnz := hz.len_le
  have HS := Lib.hid hs
  have HC := Lib.hid hc
  have HZ := Lib.hid hz
  clear hs hc hz
  cases hf : fwB n nc nz with
  | false =>
    have HF := Lib.hid hf
    clear hf
    go_enter Try.func9, Try.ntmps9
    go_wp2_with fail
    refine (awake_any _).mono ?_
    rintro e w1 ⟨rfl, hb1⟩
    have HB1 := Lib.hid hb1
    clear hb1
    go_wp2_with fail
    refine (few_any As Ac Az n cs nc cc nz cz w1).mono ?_
    rintro e w' ⟨rfl, rfl⟩
    rw [HF.out]
    go_wp2_with fail
    go_ret
    exact ⟨rfl, HB1.out⟩
  | true =>
    have HF := Lib.hid hf
    have HFT := Lib.hid (fwB_true hf)
    clear hf
    by_cases hn0 : n = 0
    · have q0 : ((n : Int) == 0) = true := by simp; omega
      clear hn0
      go_enter Try.func9, Try.ntmps9
      go_wp2_with fail
      refine (awake_any _).mono ?_
      rintro e w1 ⟨rfl, hb1⟩
      have HB1 := Lib.hid hb1
      clear hb1
      go_wp2_with fail
      refine (few_any As Ac Az n cs nc cc nz cz w1).mono ?_
      rintro e w' ⟨rfl, rfl⟩
      rw [HF.out]
      go_wp2_with fail
      go_ret
      exact ⟨rfl, HB1.out⟩
    · have q0 : ((n : Int) == 0) = false := by simp; omega
      by_cases hch : ch = 0
      · subst hch
        have hc0 : bv 0 = 0 := rfl
        rw [hc0]
        go_enter Try.func9, Try.ntmps9
        go_wp2_with fail
        refine (awake_any _).mono ?_
        rintro e w1 ⟨rfl, hb1⟩
        have HB1 := Lib.hid hb1
        clear hb1
        go_wp2_with fail
        refine (few_any As Ac Az n cs nc cc nz cz w1).mono ?_
        rintro e w' ⟨rfl, rfl⟩
        rw [HF.out]
        go_wp2_with fail
        go_ret
        exact ⟨rfl, HB1.out⟩
      · have qc : (bv ch == 0) = false := by rw [eq_zero_iff]; simpa using hch
        have HCH := Lib.hid hch
        by_cases he3 : splE s co z = 0
        · obtain ⟨hl, hx, hle⟩ := spl_zero he3
          obtain ⟨hco, hrows⟩ := ltB_rows hl
          have HSL : Hid (splS s co z = wnK s co z) := Lib.hid (wn_spl hrows z)
          have HL1 : Hid (ltB co (n : Int) = true) := Lib.hid (by rw [← HLS.out]; exact hl)
          have HX1 := Lib.hid hx
          have HB0 : Hid (¬ 1024 < n) := Lib.hid (by rw [← HLS.out]; omega)
          have HLIM : Hid (nz * 32 ≤ lim) := Lib.hid (by have := HFT.out; unfold lim; omega)
          have HLE := Lib.hid hle
          clear hl hx hle hco hrows he3 hch
          by_cases hnt : nz ≤ nc + 1
          · have q1 : decide ((nz : Int) ≤ (nc : Int) + 1) = true := by simp; omega
            go_enter Try.func9, Try.ntmps9
            go_wp2_with fail
            refine (awake_any _).mono ?_
            rintro e w1 ⟨rfl, hb1⟩
            have HB1 := Lib.hid hb1
            clear hb1
            go_wp2_with fail
            refine (few_any As Ac Az n cs nc cc nz cz w1).mono ?_
            rintro e w' ⟨rfl, rfl⟩
            rw [HF.out]
            go_wp2_with fail
            refine (split_own As Ac Az n cs nc cc nz cz s co z w1 (HS.out.kept HB1.out) (HC.out.kept HB1.out) (HZ.out.kept HB1.out) HL1.out HX1.out HB0.out).mono ?_
            rintro e w2 ⟨v2, rfl, ⟨q, ho2⟩, hx2⟩
            rw [HSL.out] at ho2
            have HB2 := Lib.hid (below_then HB1.out hx2)
            obtain ⟨A2, c2, rfl, hs2⟩ := ho2.owns.ss HLIM.out
            clear hx2 ho2 hs2
            go_wp2_with fail
            go_ret
            exact ⟨rfl, HB2.out⟩
          · have q1 : decide ((nz : Int) ≤ (nc : Int) + 1) = false := by simp; omega
            have HNT := Lib.hid hnt
            have hnz0 : 0 < nz := by omega
            obtain ⟨i, hi⟩ : ∃ i, i = at'.toNat % nz := ⟨_, rfl⟩
            obtain ⟨b, hb⟩ : ∃ b, b = at'.toNat % n := ⟨_, rfl⟩
            have hin : i < nz := by rw [hi]; exact Nat.mod_lt _ hnz0
            have hbn : b < n := by rw [hb]; exact Nat.mod_lt _ (by omega)
            have hnn : ¬ nz = 0 := by omega
            have wr1 : IntKind.i64.wrap (bv at') = bv at' := by rw [IntKind.wrap_i64]; have := bv_lo at'; have := bv_hi at'; omega
            have r1 : (bv at').tmod (nz : Int) = (i : Int) := by rw [at_mod, hi]
            have r2 : (bv at').tmod (n : Int) = (b : Int) := by rw [at_mod, hb]
            obtain ⟨y, hy⟩ : ∃ y, y = gB (gS (wnK s co z) i).2 b := ⟨_, rfl⟩
            have hrl : (gS (wnK s co z) i).2.length = n := by rw [wnK_eql i (by rw [wnK_length, HLZ.out]; exact hin), HLS.out]
            have HRL := Lib.hid hrl
            have HALT : Hid (Alt s co z i b (y ^^^ ch)) := Lib.hid ⟨HX1.out, HLE.out, by rw [HLZ.out]; have := HFT.out; omega, by rw [HLC.out]; have := HFT.out; omega, by rw [HLZ.out, HLC.out]; omega, by rw [HLZ.out]; exact hin, by rw [HLS.out]; exact hbn, fun e => HCH.out (by
              rw [← hy] at e
              have h9 : y ^^^ (y ^^^ ch) = ch := by rw [← xor_assoc, xor_cancel]; simp
              rw [← h9, e, xor_cancel])⟩
            have HY := Lib.hid hy
            have HCK := Lib.hid HALT.out.check
            rw [HLC.out] at HCK
            clear hi hb hy hrl hnt
            by_cases hsh : nz < nc + 1 + 2
            · have q2 : decide ((nz : Int) < (nc : Int) + 1 + 2) = true := by simp; omega
              have HW : Hid (wrF (altS (wnK s co z) i b (y ^^^ ch)) (nc + 1) = none) := Lib.hid (by have := HALT.out.short (by rw [HLZ.out, HLC.out]; exact hsh); rwa [HLC.out] at this)
              clear hsh
              go_enter Try.func9, Try.ntmps9
              go_wp2_with fail
              refine (awake_any _).mono ?_
              rintro e w1 ⟨rfl, hb1⟩
              have HB1 := Lib.hid hb1
              clear hb1
              go_wp2_with fail
              refine (few_any As Ac Az n cs nc cc nz cz w1).mono ?_
              rintro e w' ⟨rfl, rfl⟩
              rw [HF.out]
              go_wp2_with fail
              refine (split_own As Ac Az n cs nc cc nz cz s co z w1 (HS.out.kept HB1.out) (HC.out.kept HB1.out) (HZ.out.kept HB1.out) HL1.out HX1.out HB0.out).mono ?_
              rintro e w2 ⟨v2, rfl, ⟨q, ho2⟩, hx2⟩
              rw [HSL.out] at ho2
              have HB2 := Lib.hid (below_then HB1.out hx2)
              obtain ⟨gl, cl, g, o, k, c, rfl, hk, hs2, hg, hc1, hc2, hfz, hcx, hgg, hst⟩ := ho2.alt HLIM.out hin (by rw [HRL.out]; exact hbn)
              rw [HRL.out] at hk
              subst hk
              have hpt : w2.cell? ⟨gl, i * 2 + 1, none⟩ = some (.slice (some ⟨g, o, none⟩) k c) := hc1
              rw [← HY.out] at hc2
              unfold B at hc2
              have hbnd : (b : Int) < (k : Int) := by omega
              have hbnd2 : (i : Int) < (nz : Int) := by omega
              have HST := Lib.hid hst
              have HG := Lib.hid (Nat.le_trans HB1.out.size hg)
              have HGG := Lib.hid hgg
              have HCX := Lib.hid hcx
              clear hx2 ho2 hs2 hg hst hc1 hgg hcx
              go_wp2_with fail
              refine Text.wp_region_text (fun _ => True) [(0, 4), (1, 4), (2, 4), (3, 4), (4, 4), (5, 4), (6, 4), (7, 4), (8, 4), (9, 4), (10, 4), (11, 4)] (by kernel_rfl) (by kernel_rfl) (fun _ _ _ _ _ h => h) (trivial) ?_
              iterate 12 (refine Text.purek rfl rfl (fun K hK => ⟨_, fun w' => by go_simp <;> rfl, ?_⟩); go_simp; refine hK _ ?_; clear hK K)
              refine Text.done ?_
              go_wp2_with fail
              refine Text.wp_region_text (fun _ => True) [(0, 4), (1, 4), (2, 4), (3, 4), (5, 4), (6, 4), (7, 4), (8, 4), (9, 4), (11, 4), (14, 4), (4, 1), (10, 1), (12, 4), (13, 1), (15, 1), (16, 4), (17, 3)] (by kernel_rfl) (by kernel_rfl) (fun _ _ _ _ _ h => h) (trivial) ?_
              iterate 11 (refine Text.purek rfl rfl (fun K hK => ⟨_, fun w' => by go_simp <;> rfl, ?_⟩); go_simp; refine hK _ ?_; clear hK K)
              iterate 2 (refine Text.readk rfl rfl (fun K hK => ⟨_, by go_simp <;> rfl, ?_⟩); go_simp; refine hK _ ?_; clear hK K)
              (refine Text.purek rfl rfl (fun K hK => ⟨_, fun w' => by go_simp <;> rfl, ?_⟩); go_simp; refine hK _ ?_; clear hK K)
              (refine Text.readk rfl rfl (fun K hK => ⟨_, by go_simp <;> rfl, ?_⟩); go_simp; refine hK _ ?_; clear hK K)
              refine Text.quietk rfl rfl (fun K hK => ?_)
              refine ⟨_, _, _, by first | (go_simp; exact ⟨rfl, rfl⟩) | (go_simp <;> rfl), gadd_any y ch _, ?_⟩
              go_simp
              refine hK _ ?_
              clear hK K
              (refine Text.purek rfl rfl (fun K hK => ⟨_, fun w' => by go_simp <;> rfl, ?_⟩); go_simp; refine hK _ ?_; clear hK K)
              refine Text.last rfl rfl (fun K hK => ?_)
              go_simp
              obtain ⟨w3, hw3⟩ : ∃ W, W = (w2.setCell ⟨g, o + b, none⟩ (.int .u8 (bv (y ^^^ ch)))).drew.drew := ⟨_, rfl⟩
              have H3 : Hid (SS w3 (some ⟨gl, 0, none⟩) nz cl (altS (wnK s co z) i b (y ^^^ ch))) := Lib.hid (by rw [hw3]; exact HST.out (y ^^^ ch))
              have HB3 : Hid (Below w.heap.size w w3) := Lib.hid (by rw [hw3]; exact (HB2.out.setCell HG.out _).drew.drew)
              have HX3 : Hid (w3.cell? ⟨gl, i * 2, none⟩ = some (.int .i64 (gI z i))) := Lib.hid (by
                rw [hw3]
                show (w2.setCell ⟨g, o + b, none⟩ _).cell? ⟨gl, i * 2, none⟩ = _
                rw [World.cell?_setCell_other _ _ _ _ (by intro e9; injection e9 with e9 _; exact HGG.out e9.symm), HCX.out, gS_wnK (by rw [HLZ.out]; exact hin)])
              rw [← hw3]
              refine hK _ _ ?_
              clear hK K hw3 hpt hc2 hfz
              refine Text.done ?_
              go_wp2_with fail
              refine (check2_any _ nz cl ((nc : Int) + 1) _ w3 H3.out).mono ?_
              rintro e w4 ⟨rfl, hx4⟩
              rw [HCK.out.1, HCK.out.2.1]
              have H4 := Lib.hid (H3.out.kept hx4)
              have HX4 := Lib.hid (cell_kept hx4 HX3.out)
              have HB4 := Lib.hid (below_then HB3.out hx4)
              clear hx4
              go_wp2_with fail
              refine (combine_any _ nz cl ((nc : Int) + 1) _ w4 H4.out).mono ?_
              rintro e w5 ⟨v5, rfl, A5, n5, c5, rfl, hb5, _, hx5⟩
              rw [HCK.out.2.2.1]
              rw [HCK.out.2.2.2] at hb5
              obtain rfl : n5 = 0 := hb5.1.symm
              have H5 := Lib.hid (H4.out.kept hx5)
              have HX5 := Lib.hid (cell_kept hx5 HX4.out)
              have HB5 := Lib.hid (below_then HB4.out hx5)
              clear hb5 hx5
              go_wp2_with fail
              have hwr := wrong_ok _ nz cl (nc + 1) _ w5 H5.out HALT.out.sh (by omega) (by have := HFT.out; omega) (by have := HNT.out; omega)
              rw [show ((nc + 1 : Nat) : Int) = (nc : Int) + 1 by omega, HW.out] at hwr
              refine hwr.mono ?_
              clear hwr
              rintro e w6 ⟨hx6, he6⟩
              cases he6
              have HB6 := Lib.hid (below_then HB5.out hx6)
              clear hx6
              go_wp2_with fail
              go_ret
              exact ⟨rfl, HB6.out⟩
            · have q2 : decide ((nz : Int) < (nc : Int) + 1 + 2) = false := by simp; omega
              have HW : Hid (wrF (altS (wnK s co z) i b (y ^^^ ch)) (nc + 1) = some [gI z i]) := Lib.hid (by have := HALT.out.found (by rw [HLZ.out, HLC.out]; omega); rwa [HLC.out] at this)
              clear hsh
              go_enter Try.func9, Try.ntmps9
              go_wp2_with fail
              refine (awake_any _).mono ?_
              rintro e w1 ⟨rfl, hb1⟩
              have HB1 := Lib.hid hb1
              clear hb1
              go_wp2_with fail
              refine (few_any As Ac Az n cs nc cc nz cz w1).mono ?_
              rintro e w' ⟨rfl, rfl⟩
              rw [HF.out]
              go_wp2_with fail
              refine (split_own As Ac Az n cs nc cc nz cz s co z w1 (HS.out.kept HB1.out) (HC.out.kept HB1.out) (HZ.out.kept HB1.out) HL1.out HX1.out HB0.out).mono ?_
              rintro e w2 ⟨v2, rfl, ⟨q, ho2⟩, hx2⟩
              rw [HSL.out] at ho2
              have HB2 := Lib.hid (below_then HB1.out hx2)
              obtain ⟨gl, cl, g, o, k, c, rfl, hk, hs2, hg, hc1, hc2, hfz, hcx, hgg, hst⟩ := ho2.alt HLIM.out hin (by rw [HRL.out]; exact hbn)
              rw [HRL.out] at hk
              subst hk
              have hpt : w2.cell? ⟨gl, i * 2 + 1, none⟩ = some (.slice (some ⟨g, o, none⟩) k c) := hc1
              rw [← HY.out] at hc2
              unfold B at hc2
              have hbnd : (b : Int) < (k : Int) := by omega
              have hbnd2 : (i : Int) < (nz : Int) := by omega
              have HST := Lib.hid hst
              have HG := Lib.hid (Nat.le_trans HB1.out.size hg)
              have HGG := Lib.hid hgg
              have HCX := Lib.hid hcx
              clear hx2 ho2 hs2 hg hst hc1 hgg hcx
              go_wp2_with fail
              refine Text.wp_region_text (fun _ => True) [(0, 4), (1, 4), (2, 4), (3, 4), (4, 4), (5, 4), (6, 4), (7, 4), (8, 4), (9, 4), (10, 4), (11, 4)] (by kernel_rfl) (by kernel_rfl) (fun _ _ _ _ _ h => h) (trivial) ?_
              iterate 12 (refine Text.purek rfl rfl (fun K hK => ⟨_, fun w' => by go_simp <;> rfl, ?_⟩); go_simp; refine hK _ ?_; clear hK K)
              refine Text.done ?_
              go_wp2_with fail
              refine Text.wp_region_text (fun _ => True) [(0, 4), (1, 4), (2, 4), (3, 4), (5, 4), (6, 4), (7, 4), (8, 4), (9, 4), (11, 4), (14, 4), (4, 1), (10, 1), (12, 4), (13, 1), (15, 1), (16, 4), (17, 3)] (by kernel_rfl) (by kernel_rfl) (fun _ _ _ _ _ h => h) (trivial) ?_
              iterate 11 (refine Text.purek rfl rfl (fun K hK => ⟨_, fun w' => by go_simp <;> rfl, ?_⟩); go_simp; refine hK _ ?_; clear hK K)
              iterate 2 (refine Text.readk rfl rfl (fun K hK => ⟨_, by go_simp <;> rfl, ?_⟩); go_simp; refine hK _ ?_; clear hK K)
              (refine Text.purek rfl rfl (fun K hK => ⟨_, fun w' => by go_simp <;> rfl, ?_⟩); go_simp; refine hK _ ?_; clear hK K)
              (refine Text.readk rfl rfl (fun K hK => ⟨_, by go_simp <;> rfl, ?_⟩); go_simp; refine hK _ ?_; clear hK K)
              refine Text.quietk rfl rfl (fun K hK => ?_)
              refine ⟨_, _, _, by first | (go_simp; exact ⟨rfl, rfl⟩) | (go_simp <;> rfl), gadd_any y ch _, ?_⟩
              go_simp
              refine hK _ ?_
              clear hK K
              (refine Text.purek rfl rfl (fun K hK => ⟨_, fun w' => by go_simp <;> rfl, ?_⟩); go_simp; refine hK _ ?_; clear hK K)
              refine Text.last rfl rfl (fun K hK => ?_)
              go_simp
              obtain ⟨w3, hw3⟩ : ∃ W, W = (w2.setCell ⟨g, o + b, none⟩ (.int .u8 (bv (y ^^^ ch)))).drew.drew := ⟨_, rfl⟩
              have H3 : Hid (SS w3 (some ⟨gl, 0, none⟩) nz cl (altS (wnK s co z) i b (y ^^^ ch))) := Lib.hid (by rw [hw3]; exact HST.out (y ^^^ ch))
              have HB3 : Hid (Below w.heap.size w w3) := Lib.hid (by rw [hw3]; exact (HB2.out.setCell HG.out _).drew.drew)
              have HX3 : Hid (w3.cell? ⟨gl, i * 2, none⟩ = some (.int .i64 (gI z i))) := Lib.hid (by
                rw [hw3]
                show (w2.setCell ⟨g, o + b, none⟩ _).cell? ⟨gl, i * 2, none⟩ = _
                rw [World.cell?_setCell_other _ _ _ _ (by intro e9; injection e9 with e9 _; exact HGG.out e9.symm), HCX.out, gS_wnK (by rw [HLZ.out]; exact hin)])
              rw [← hw3]
              refine hK _ _ ?_
              clear hK K hw3 hpt hc2 hfz
              refine Text.done ?_
              go_wp2_with fail
              refine (check2_any _ nz cl ((nc : Int) + 1) _ w3 H3.out).mono ?_
              rintro e w4 ⟨rfl, hx4⟩
              rw [HCK.out.1, HCK.out.2.1]
              have H4 := Lib.hid (H3.out.kept hx4)
              have HX4 := Lib.hid (cell_kept hx4 HX3.out)
              have HB4 := Lib.hid (below_then HB3.out hx4)
              clear hx4
              go_wp2_with fail
              refine (combine_any _ nz cl ((nc : Int) + 1) _ w4 H4.out).mono ?_
              rintro e w5 ⟨v5, rfl, A5, n5, c5, rfl, hb5, _, hx5⟩
              rw [HCK.out.2.2.1]
              rw [HCK.out.2.2.2] at hb5
              obtain rfl : n5 = 0 := hb5.1.symm
              have H5 := Lib.hid (H4.out.kept hx5)
              have HX5 := Lib.hid (cell_kept hx5 HX4.out)
              have HB5 := Lib.hid (below_then HB4.out hx5)
              clear hb5 hx5
              go_wp2_with fail
              have hwr := wrong_ok _ nz cl (nc + 1) _ w5 H5.out HALT.out.sh (by omega) (by have := HFT.out; omega) (by have := HNT.out; omega)
              rw [show ((nc + 1 : Nat) : Int) = (nc : Int) + 1 by omega, HW.out] at hwr
              refine hwr.mono ?_
              clear hwr
              rintro e w6 ⟨hx6, v6, rfl, h62⟩
              obtain ⟨A6, c6, rfl, h63⟩ := IS.of_own h62 (by show 1 * 8 ≤ lim; decide)
              obtain ⟨gi, oi, rfl, ci⟩ := h63.at_ (Below.refl _ _) (show 0 < 1 by omega)
              have ci' : w6.cell? ⟨gi, oi, none⟩ = some (.int .i64 (gI z i)) := ci
              have cx' := cell_kept hx6 HX5.out
              rw [show ([gI z i] : List Int).length = 1 from rfl]
              have HB6 := Lib.hid (below_then HB5.out hx6)
              clear hx6 h62 h63 ci
              go_wp2_with fail
              refine Text.wp_region_text (fun _ => True) [(0, 4), (1, 4), (2, 4), (3, 4), (4, 4), (5, 4), (6, 4), (7, 4), (8, 4), (9, 4), (11, 4), (12, 4), (13, 4), (14, 4), (10, 1), (15, 1), (16, 4), (17, 4), (18, 4)] (by kernel_rfl) (by kernel_rfl) (fun _ _ _ _ _ h => h) (trivial) ?_
              iterate 14 (refine Text.purek rfl rfl (fun K hK => ⟨_, fun w' => by go_simp <;> rfl, ?_⟩); go_simp; refine hK _ ?_; clear hK K)
              iterate 2 (refine Text.readk rfl rfl (fun K hK => ⟨_, by go_simp <;> rfl, ?_⟩); go_simp; refine hK _ ?_; clear hK K)
              iterate 3 (refine Text.purek rfl rfl (fun K hK => ⟨_, fun w' => by go_simp <;> rfl, ?_⟩); go_simp; refine hK _ ?_; clear hK K)
              refine Text.done ?_
              go_wp2_with fail
              go_ret
              exact ⟨rfl, HB6.out.drew⟩
        · have q3 : (splE s co z != 0) = true := by simpa using he3
          have HSL := Lib.hid (spl_bad he3)
          obtain ⟨E, hE⟩ : ∃ E, E = splE s co z := ⟨_, rfl⟩
          rw [← hE] at q3
          have HE := Lib.hid hE
          clear he3 hE hch
          go_enter Try.func9, Try.ntmps9
          go_wp2_with fail
          refine (awake_any _).mono ?_
          rintro e w1 ⟨rfl, hb1⟩
          have HB1 := Lib.hid hb1
          clear hb1
          go_wp2_with fail
          refine (few_any As Ac Az n cs nc cc nz cz w1).mono ?_
          rintro e w' ⟨rfl, rfl⟩
          rw [HF.out]
          go_wp2_with fail
          refine (split_any As Ac Az n cs nc cc nz cz s co z w1 (HS.out.kept HB1.out) (HC.out.kept HB1.out) (HZ.out.kept HB1.out)).mono ?_
          rintro e w2 ⟨v2, rfl, ho2, hx2⟩
          rw [← HE.out]
          rw [HSL.out] at ho2
          obtain ⟨A2, c2, rfl, hs2⟩ := ho2.ss (by show 0 * 32 ≤ lim; decide)
          have HB2 := Lib.hid (below_then HB1.out hx2)
          clear hx2 ho2 hs2
          go_wp2_with fail
          go_ret
          exact ⟨rfl, HB2.out⟩
end Go.Proofs.Ytakedococfklgaa
