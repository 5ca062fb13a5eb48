/- ShamirCombines: for every input the law returns true, and its arguments read behind the call as they read before. No condition. The walk. -/
import Derived.Test.YtakedococfklgaaLCm2m
import Derived.Test.YtakedococfklgaaCb1m
import Derived.Test.YtakedococfklgaaRe9m
namespace Go.Proofs.Ytakedococfklgaa
open Go.RowKit Gf

set_option maxRecDepth 100000 in
set_option maxHeartbeats 8000000 in
theorem cmb_walk (A : Option Addr) (n c : Nat) (l : List (Int × List UInt8)) (t x : Int) (w : World) (h : SS w A n c l) :
    Calls Try.prog 7 #[.slice A n c, .int .i64 t, .int .i64 x] w fun e w' => e = .returned (.bool true) ∧ Below w.heap.size w w' := by
  have hn := h.len_le
  have H := Lib.hid h
  clear h
  cases hlo : loB l 10 6 with
  | true =>
    have HLO := Lib.hid hlo
    clear hlo
    go_enter Try.func7, Try.ntmps7
    go_wp2_with fail
    refine (awake_any _).mono ?_
    rintro e w1 ⟨rfl, hb1⟩
    have HB1 := Lib.hid hb1
    clear hb1
    go_wp2_with fail
    refine (long_any A n c 10 6 l w1 (H.out.kept HB1.out)).mono ?_
    rintro e w2 ⟨rfl, hb2⟩
    rw [HLO.out]
    have HB2 := Lib.hid (below_then HB1.out hb2)
    clear hb2
    go_wp2_with fail
    go_ret
    exact ⟨rfl, HB2.out⟩
  | false =>
    have HLO := Lib.hid hlo
    clear hlo
    by_cases h1 : agE l t = 1
    · have HAE := Lib.hid h1
      obtain ⟨g1, g2, g3⟩ := ag_bad h1
      have HCK : Hid (ckE l t = 1) := Lib.hid (by rw [ck_ag, h1])
      have HCB := Lib.hid g3
      have hf : exE l t x = 1 := by unfold exE; rw [HCK.out]; split <;> rfl
      have HXE := Lib.hid hf
      have HXX : Hid (exX l t x = 0) := Lib.hid (by unfold exX; rw [hf, if_neg (by decide)])
      have HXL : Hid (exL l t x = []) := Lib.hid (by unfold exL; rw [hf, if_neg (by decide)])
      have HCE := Lib.hid g1
      have HCI := Lib.hid g2
      have HAM : Hid (agM l t = []) := Lib.hid (agM_no (by rw [h1]; decide))
      clear h1 g1 g2 g3 hf
      go_enter Try.func7, Try.ntmps7
      go_wp2_with fail
      refine (awake_any _).mono ?_
      rintro e w1 ⟨rfl, hb1⟩
      have HB1 := Lib.hid hb1
      clear hb1
      go_wp2_with fail
      refine (long_any A n c 10 6 l w1 (H.out.kept HB1.out)).mono ?_
      rintro e w2 ⟨rfl, hb2⟩
      rw [HLO.out]
      have HB2 := Lib.hid (below_then HB1.out hb2)
      clear hb2
      go_wp2_with fail
      refine (combine_any A n c t l w2 (H.out.kept HB2.out)).mono ?_
      rintro e w3 ⟨v3, rfl, A3, n3, c3, rfl, hb3, _, hx3⟩
      rw [HCK.out]
      rw [HCB.out] at hb3
      have H3 := Lib.hid hb3
      have HB3 := Lib.hid (below_then HB2.out hx3)
      clear hb3 hx3
      go_wp2_with fail
      refine (extend_any A n c t x l w3 (H.out.kept HB3.out)).mono ?_
      rintro e w4 ⟨A4, n4, c4, rfl, hb4, _, hx4⟩
      rw [HXE.out, HXX.out]
      rw [HXL.out] at hb4
      have H34 := Lib.hid (H3.out.kept hx4)
      have HB4 := Lib.hid (below_then HB3.out hx4)
      have H4 := Lib.hid hb4
      clear hb4 hx4
      go_wp2_with fail
      obtain rfl : n3 = 0 := H3.out.1.symm
      obtain rfl : n4 = 0 := H4.out.1.symm
      have hb5 := kb1 w4 (.cells #[.int .i64 0, .slice A4 0 c4] 33)
      have k5 := Blk.new w4 33 #[.int .i64 0, .slice A4 0 c4]
      refine (check2_any A n c t l _ ((H.out.kept HB4.out).kept hb5)).mono ?_
      rintro e w5 ⟨rfl, hx5⟩
      rw [HCE.out, HCI.out]
      have HK5 := Lib.hid (k5.kept hx5)
      have HB5 := Lib.hid (below_then HB4.out (below_then hb5 hx5))
      clear hb5 k5 hx5
      go_wp2_with fail
      refine (ragreed_any A n c t l w5 (H.out.kept HB5.out)).mono ?_
      rintro e w6 ⟨A6, c6, rfl, hm6, hx6⟩
      rw [HAE.out, HAM.out]
      have hk6 := HK5.out.kept hx6
      have p0 : w6.cell? ⟨w4.heap.size, 0, none⟩ = some (.int .i64 0) := by rw [hk6.cell]; rfl
      have p1 : w6.cell? ⟨w4.heap.size, 1, none⟩ = some (.slice A4 0 c4) := by rw [hk6.cell]; rfl
      have HB6 := Lib.hid (below_then HB5.out hx6)
      clear hk6 hx6 hm6
      go_wp2_with fail
      go_ret
      exact ⟨rfl, HB6.out⟩
    · obtain ⟨g1, g2⟩ := ag_good h1
      have hE : agE l t = 10 ∨ agE l t = 13 ∨ agE l t = 0 := by
        rcases ag_cases (l := l) (t := t) with h2 | h2
        · exact absurd h2.1 h1
        · exact h2.2
      have HCE := Lib.hid g1
      clear h1 g1
      rcases hE with hE | hE | hE
      · have HAE := Lib.hid hE
        have HCK : Hid (ckE l t = 10) := Lib.hid (by rw [ck_ag, hE])
        have HCB : Hid (cbL l t 0 = []) := Lib.hid (by unfold cbL; rw [HCK.out, if_neg (by decide)])
        have HCI : Hid (chB l t = true) := Lib.hid (by rw [g2, hE]; rfl)
        have HAM : Hid (agM l t = []) := Lib.hid (agM_no (by rw [hE]; decide))
        cases hv : vX x with
        | true =>
          have q1 : decide (x < 1) = false := by have := vX_iff.1 hv; simp; omega
          have q2 : decide (255 < x) = false := by have := vX_iff.1 hv; simp; omega
          have hf : exE l t x = 10 := by unfold exE; rw [hv, if_pos rfl, HCK.out]
          have HXE := Lib.hid hf
          have HXX : Hid (exX l t x = 0) := Lib.hid (by unfold exX; rw [hf, if_neg (by decide)])
          have HXL : Hid (exL l t x = []) := Lib.hid (by unfold exL; rw [hf, if_neg (by decide)])
          clear hE hv hf g2
          go_enter Try.func7, Try.ntmps7
          go_wp2_with fail
          refine (awake_any _).mono ?_
          rintro e w1 ⟨rfl, hb1⟩
          have HB1 := Lib.hid hb1
          clear hb1
          go_wp2_with fail
          refine (long_any A n c 10 6 l w1 (H.out.kept HB1.out)).mono ?_
          rintro e w2 ⟨rfl, hb2⟩
          rw [HLO.out]
          have HB2 := Lib.hid (below_then HB1.out hb2)
          clear hb2
          go_wp2_with fail
          refine (combine_any A n c t l w2 (H.out.kept HB2.out)).mono ?_
          rintro e w3 ⟨v3, rfl, A3, n3, c3, rfl, hb3, _, hx3⟩
          rw [HCK.out]
          rw [HCB.out] at hb3
          have H3 := Lib.hid hb3
          have HB3 := Lib.hid (below_then HB2.out hx3)
          clear hb3 hx3
          go_wp2_with fail
          refine (extend_any A n c t x l w3 (H.out.kept HB3.out)).mono ?_
          rintro e w4 ⟨A4, n4, c4, rfl, hb4, _, hx4⟩
          rw [HXE.out, HXX.out]
          rw [HXL.out] at hb4
          have H34 := Lib.hid (H3.out.kept hx4)
          have HB4 := Lib.hid (below_then HB3.out hx4)
          have H4 := Lib.hid hb4
          clear hb4 hx4
          go_wp2_with fail
          obtain rfl : n3 = 0 := H3.out.1.symm
          obtain rfl : n4 = 0 := H4.out.1.symm
          have hb5 := kb1 w4 (.cells #[.int .i64 0, .slice A4 0 c4] 33)
          have k5 := Blk.new w4 33 #[.int .i64 0, .slice A4 0 c4]
          refine (check2_any A n c t l _ ((H.out.kept HB4.out).kept hb5)).mono ?_
          rintro e w5 ⟨rfl, hx5⟩
          rw [HCE.out, HCI.out]
          have HK5 := Lib.hid (k5.kept hx5)
          have HB5 := Lib.hid (below_then HB4.out (below_then hb5 hx5))
          clear hb5 k5 hx5
          go_wp2_with fail
          refine (ragreed_any A n c t l w5 (H.out.kept HB5.out)).mono ?_
          rintro e w6 ⟨A6, c6, rfl, hm6, hx6⟩
          rw [HAE.out, HAM.out]
          have hk6 := HK5.out.kept hx6
          have p0 : w6.cell? ⟨w4.heap.size, 0, none⟩ = some (.int .i64 0) := by rw [hk6.cell]; rfl
          have p1 : w6.cell? ⟨w4.heap.size, 1, none⟩ = some (.slice A4 0 c4) := by rw [hk6.cell]; rfl
          have HB6 := Lib.hid (below_then HB5.out hx6)
          clear hk6 hx6 hm6
          go_wp2_with fail
          go_ret
          exact ⟨rfl, HB6.out⟩
        | false =>
          have hf : exE l t x = 1 := by unfold exE; rw [hv]; rfl
          have HXE := Lib.hid hf
          have HXX : Hid (exX l t x = 0) := Lib.hid (by unfold exX; rw [hf, if_neg (by decide)])
          have HXL : Hid (exL l t x = []) := Lib.hid (by unfold exL; rw [hf, if_neg (by decide)])
          by_cases hx1 : x < 1
          · have q1 : decide (x < 1) = true := by simpa using hx1
            clear hE hv hf g2 hx1
            go_enter Try.func7, Try.ntmps7
            go_wp2_with fail
            refine (awake_any _).mono ?_
            rintro e w1 ⟨rfl, hb1⟩
            have HB1 := Lib.hid hb1
            clear hb1
            go_wp2_with fail
            refine (long_any A n c 10 6 l w1 (H.out.kept HB1.out)).mono ?_
            rintro e w2 ⟨rfl, hb2⟩
            rw [HLO.out]
            have HB2 := Lib.hid (below_then HB1.out hb2)
            clear hb2
            go_wp2_with fail
            refine (combine_any A n c t l w2 (H.out.kept HB2.out)).mono ?_
            rintro e w3 ⟨v3, rfl, A3, n3, c3, rfl, hb3, _, hx3⟩
            rw [HCK.out]
            rw [HCB.out] at hb3
            have H3 := Lib.hid hb3
            have HB3 := Lib.hid (below_then HB2.out hx3)
            clear hb3 hx3
            go_wp2_with fail
            refine (extend_any A n c t x l w3 (H.out.kept HB3.out)).mono ?_
            rintro e w4 ⟨A4, n4, c4, rfl, hb4, _, hx4⟩
            rw [HXE.out, HXX.out]
            rw [HXL.out] at hb4
            have H34 := Lib.hid (H3.out.kept hx4)
            have HB4 := Lib.hid (below_then HB3.out hx4)
            have H4 := Lib.hid hb4
            clear hb4 hx4
            go_wp2_with fail
            obtain rfl : n3 = 0 := H3.out.1.symm
            obtain rfl : n4 = 0 := H4.out.1.symm
            have hb5 := kb1 w4 (.cells #[.int .i64 0, .slice A4 0 c4] 33)
            have k5 := Blk.new w4 33 #[.int .i64 0, .slice A4 0 c4]
            refine (check2_any A n c t l _ ((H.out.kept HB4.out).kept hb5)).mono ?_
            rintro e w5 ⟨rfl, hx5⟩
            rw [HCE.out, HCI.out]
            have HK5 := Lib.hid (k5.kept hx5)
            have HB5 := Lib.hid (below_then HB4.out (below_then hb5 hx5))
            clear hb5 k5 hx5
            go_wp2_with fail
            refine (ragreed_any A n c t l w5 (H.out.kept HB5.out)).mono ?_
            rintro e w6 ⟨A6, c6, rfl, hm6, hx6⟩
            rw [HAE.out, HAM.out]
            have hk6 := HK5.out.kept hx6
            have p0 : w6.cell? ⟨w4.heap.size, 0, none⟩ = some (.int .i64 0) := by rw [hk6.cell]; rfl
            have p1 : w6.cell? ⟨w4.heap.size, 1, none⟩ = some (.slice A4 0 c4) := by rw [hk6.cell]; rfl
            have HB6 := Lib.hid (below_then HB5.out hx6)
            clear hk6 hx6 hm6
            go_wp2_with fail
            refine Text.wp_region_text (fun _ => True) [(0, 4), (1, 4), (2, 4), (3, 4), (4, 1), (5, 4), (6, 4), (7, 4), (8, 4), (9, 1), (10, 4), (11, 4), (12, 4), (13, 4), (14, 4), (15, 4), (16, 4), (17, 4), (18, 4), (19, 4), (20, 4), (21, 4), (22, 4), (23, 4), (24, 4), (25, 4), (26, 4)] (by kernel_rfl) (by kernel_rfl) (fun _ _ _ _ _ h => h) (trivial) ?_
            iterate 4 (refine Text.purek rfl rfl (fun K hK => ⟨_, fun w' => by go_simp <;> rfl, ?_⟩); go_simp; refine hK _ ?_; clear hK K)
            (refine Text.readk rfl rfl (fun K hK => ⟨_, by go_simp <;> rfl, ?_⟩); go_simp; refine hK _ ?_; clear hK K)
            iterate 4 (refine Text.purek rfl rfl (fun K hK => ⟨_, fun w' => by go_simp <;> rfl, ?_⟩); go_simp; refine hK _ ?_; clear hK K)
            (refine Text.readk rfl rfl (fun K hK => ⟨_, by go_simp <;> rfl, ?_⟩); go_simp; refine hK _ ?_; clear hK K)
            iterate 7 (refine Text.purek rfl rfl (fun K hK => ⟨_, fun w' => by go_simp <;> rfl, ?_⟩); go_simp; refine hK _ ?_; clear hK K)
            iterate 7 (refine Text.skipk (.inr (.inr rfl)) rfl rfl (fun K hK => ?_); go_simp; refine hK _ ?_; clear hK K)
            iterate 3 (refine Text.purek rfl rfl (fun K hK => ⟨_, fun w' => by go_simp <;> rfl, ?_⟩); go_simp; refine hK _ ?_; clear hK K)
            refine Text.done ?_
            go_wp2_with fail
            go_ret
            exact ⟨rfl, HB6.out.drew⟩
          · have q1 : decide (x < 1) = false := by simpa using hx1
            have q2 : decide (255 < x) = true := by
              have : ¬ (1 ≤ x ∧ x ≤ 255) := fun h => by rw [vX_iff.2 h] at hv; cases hv
              simp; omega
            clear hE hv hf g2 hx1
            go_enter Try.func7, Try.ntmps7
            go_wp2_with fail
            refine (awake_any _).mono ?_
            rintro e w1 ⟨rfl, hb1⟩
            have HB1 := Lib.hid hb1
            clear hb1
            go_wp2_with fail
            refine (long_any A n c 10 6 l w1 (H.out.kept HB1.out)).mono ?_
            rintro e w2 ⟨rfl, hb2⟩
            rw [HLO.out]
            have HB2 := Lib.hid (below_then HB1.out hb2)
            clear hb2
            go_wp2_with fail
            refine (combine_any A n c t l w2 (H.out.kept HB2.out)).mono ?_
            rintro e w3 ⟨v3, rfl, A3, n3, c3, rfl, hb3, _, hx3⟩
            rw [HCK.out]
            rw [HCB.out] at hb3
            have H3 := Lib.hid hb3
            have HB3 := Lib.hid (below_then HB2.out hx3)
            clear hb3 hx3
            go_wp2_with fail
            refine (extend_any A n c t x l w3 (H.out.kept HB3.out)).mono ?_
            rintro e w4 ⟨A4, n4, c4, rfl, hb4, _, hx4⟩
            rw [HXE.out, HXX.out]
            rw [HXL.out] at hb4
            have H34 := Lib.hid (H3.out.kept hx4)
            have HB4 := Lib.hid (below_then HB3.out hx4)
            have H4 := Lib.hid hb4
            clear hb4 hx4
            go_wp2_with fail
            obtain rfl : n3 = 0 := H3.out.1.symm
            obtain rfl : n4 = 0 := H4.out.1.symm
            have hb5 := kb1 w4 (.cells #[.int .i64 0, .slice A4 0 c4] 33)
            have k5 := Blk.new w4 33 #[.int .i64 0, .slice A4 0 c4]
            refine (check2_any A n c t l _ ((H.out.kept HB4.out).kept hb5)).mono ?_
            rintro e w5 ⟨rfl, hx5⟩
            rw [HCE.out, HCI.out]
            have HK5 := Lib.hid (k5.kept hx5)
            have HB5 := Lib.hid (below_then HB4.out (below_then hb5 hx5))
            clear hb5 k5 hx5
            go_wp2_with fail
            refine (ragreed_any A n c t l w5 (H.out.kept HB5.out)).mono ?_
            rintro e w6 ⟨A6, c6, rfl, hm6, hx6⟩
            rw [HAE.out, HAM.out]
            have hk6 := HK5.out.kept hx6
            have p0 : w6.cell? ⟨w4.heap.size, 0, none⟩ = some (.int .i64 0) := by rw [hk6.cell]; rfl
            have p1 : w6.cell? ⟨w4.heap.size, 1, none⟩ = some (.slice A4 0 c4) := by rw [hk6.cell]; rfl
            have HB6 := Lib.hid (below_then HB5.out hx6)
            clear hk6 hx6 hm6
            go_wp2_with fail
            refine Text.wp_region_text (fun _ => True) [(0, 4), (1, 4), (2, 4), (3, 4), (4, 1), (5, 4), (6, 4), (7, 4), (8, 4), (9, 1), (10, 4), (11, 4), (12, 4), (13, 4), (14, 4), (15, 4), (16, 4), (17, 4), (18, 4), (19, 4), (20, 4), (21, 4), (22, 4), (23, 4), (24, 4), (25, 4), (26, 4)] (by kernel_rfl) (by kernel_rfl) (fun _ _ _ _ _ h => h) (trivial) ?_
            iterate 4 (refine Text.purek rfl rfl (fun K hK => ⟨_, fun w' => by go_simp <;> rfl, ?_⟩); go_simp; refine hK _ ?_; clear hK K)
            (refine Text.readk rfl rfl (fun K hK => ⟨_, by go_simp <;> rfl, ?_⟩); go_simp; refine hK _ ?_; clear hK K)
            iterate 4 (refine Text.purek rfl rfl (fun K hK => ⟨_, fun w' => by go_simp <;> rfl, ?_⟩); go_simp; refine hK _ ?_; clear hK K)
            (refine Text.readk rfl rfl (fun K hK => ⟨_, by go_simp <;> rfl, ?_⟩); go_simp; refine hK _ ?_; clear hK K)
            iterate 7 (refine Text.purek rfl rfl (fun K hK => ⟨_, fun w' => by go_simp <;> rfl, ?_⟩); go_simp; refine hK _ ?_; clear hK K)
            iterate 7 (refine Text.skipk (.inr (.inr rfl)) rfl rfl (fun K hK => ?_); go_simp; refine hK _ ?_; clear hK K)
            iterate 3 (refine Text.purek rfl rfl (fun K hK => ⟨_, fun w' => by go_simp <;> rfl, ?_⟩); go_simp; refine hK _ ?_; clear hK K)
            refine Text.done ?_
            go_wp2_with fail
            go_ret
            exact ⟨rfl, HB6.out.drew⟩
      · have HAE := Lib.hid hE
        have HCK : Hid (ckE l t = 13) := Lib.hid (by rw [ck_ag, hE])
        have HCB : Hid (cbL l t 0 = []) := Lib.hid (by unfold cbL; rw [HCK.out, if_neg (by decide)])
        have HCI : Hid (chB l t = false) := Lib.hid (by rw [g2, hE]; rfl)
        have HAM : Hid (agM l t = []) := Lib.hid (agM_no (by rw [hE]; decide))
        cases hv : vX x with
        | true =>
          have q1 : decide (x < 1) = false := by have := vX_iff.1 hv; simp; omega
          have q2 : decide (255 < x) = false := by have := vX_iff.1 hv; simp; omega
          have hf : exE l t x = 13 := by unfold exE; rw [hv, if_pos rfl, HCK.out]
          have HXE := Lib.hid hf
          have HXX : Hid (exX l t x = 0) := Lib.hid (by unfold exX; rw [hf, if_neg (by decide)])
          have HXL : Hid (exL l t x = []) := Lib.hid (by unfold exL; rw [hf, if_neg (by decide)])
          clear hE hv hf g2
          go_enter Try.func7, Try.ntmps7
          go_wp2_with fail
          refine (awake_any _).mono ?_
          rintro e w1 ⟨rfl, hb1⟩
          have HB1 := Lib.hid hb1
          clear hb1
          go_wp2_with fail
          refine (long_any A n c 10 6 l w1 (H.out.kept HB1.out)).mono ?_
          rintro e w2 ⟨rfl, hb2⟩
          rw [HLO.out]
          have HB2 := Lib.hid (below_then HB1.out hb2)
          clear hb2
          go_wp2_with fail
          refine (combine_any A n c t l w2 (H.out.kept HB2.out)).mono ?_
          rintro e w3 ⟨v3, rfl, A3, n3, c3, rfl, hb3, _, hx3⟩
          rw [HCK.out]
          rw [HCB.out] at hb3
          have H3 := Lib.hid hb3
          have HB3 := Lib.hid (below_then HB2.out hx3)
          clear hb3 hx3
          go_wp2_with fail
          refine (extend_any A n c t x l w3 (H.out.kept HB3.out)).mono ?_
          rintro e w4 ⟨A4, n4, c4, rfl, hb4, _, hx4⟩
          rw [HXE.out, HXX.out]
          rw [HXL.out] at hb4
          have H34 := Lib.hid (H3.out.kept hx4)
          have HB4 := Lib.hid (below_then HB3.out hx4)
          have H4 := Lib.hid hb4
          clear hb4 hx4
          go_wp2_with fail
          obtain rfl : n3 = 0 := H3.out.1.symm
          obtain rfl : n4 = 0 := H4.out.1.symm
          have hb5 := kb1 w4 (.cells #[.int .i64 0, .slice A4 0 c4] 33)
          have k5 := Blk.new w4 33 #[.int .i64 0, .slice A4 0 c4]
          refine (check2_any A n c t l _ ((H.out.kept HB4.out).kept hb5)).mono ?_
          rintro e w5 ⟨rfl, hx5⟩
          rw [HCE.out, HCI.out]
          have HK5 := Lib.hid (k5.kept hx5)
          have HB5 := Lib.hid (below_then HB4.out (below_then hb5 hx5))
          clear hb5 k5 hx5
          go_wp2_with fail
          refine (ragreed_any A n c t l w5 (H.out.kept HB5.out)).mono ?_
          rintro e w6 ⟨A6, c6, rfl, hm6, hx6⟩
          rw [HAE.out, HAM.out]
          have hk6 := HK5.out.kept hx6
          have p0 : w6.cell? ⟨w4.heap.size, 0, none⟩ = some (.int .i64 0) := by rw [hk6.cell]; rfl
          have p1 : w6.cell? ⟨w4.heap.size, 1, none⟩ = some (.slice A4 0 c4) := by rw [hk6.cell]; rfl
          have HB6 := Lib.hid (below_then HB5.out hx6)
          clear hk6 hx6 hm6
          go_wp2_with fail
          go_ret
          exact ⟨rfl, HB6.out⟩
        | false =>
          have hf : exE l t x = 1 := by unfold exE; rw [hv]; rfl
          have HXE := Lib.hid hf
          have HXX : Hid (exX l t x = 0) := Lib.hid (by unfold exX; rw [hf, if_neg (by decide)])
          have HXL : Hid (exL l t x = []) := Lib.hid (by unfold exL; rw [hf, if_neg (by decide)])
          by_cases hx1 : x < 1
          · have q1 : decide (x < 1) = true := by simpa using hx1
            clear hE hv hf g2 hx1
            go_enter Try.func7, Try.ntmps7
            go_wp2_with fail
            refine (awake_any _).mono ?_
            rintro e w1 ⟨rfl, hb1⟩
            have HB1 := Lib.hid hb1
            clear hb1
            go_wp2_with fail
            refine (long_any A n c 10 6 l w1 (H.out.kept HB1.out)).mono ?_
            rintro e w2 ⟨rfl, hb2⟩
            rw [HLO.out]
            have HB2 := Lib.hid (below_then HB1.out hb2)
            clear hb2
            go_wp2_with fail
            refine (combine_any A n c t l w2 (H.out.kept HB2.out)).mono ?_
            rintro e w3 ⟨v3, rfl, A3, n3, c3, rfl, hb3, _, hx3⟩
            rw [HCK.out]
            rw [HCB.out] at hb3
            have H3 := Lib.hid hb3
            have HB3 := Lib.hid (below_then HB2.out hx3)
            clear hb3 hx3
            go_wp2_with fail
            refine (extend_any A n c t x l w3 (H.out.kept HB3.out)).mono ?_
            rintro e w4 ⟨A4, n4, c4, rfl, hb4, _, hx4⟩
            rw [HXE.out, HXX.out]
            rw [HXL.out] at hb4
            have H34 := Lib.hid (H3.out.kept hx4)
            have HB4 := Lib.hid (below_then HB3.out hx4)
            have H4 := Lib.hid hb4
            clear hb4 hx4
            go_wp2_with fail
            obtain rfl : n3 = 0 := H3.out.1.symm
            obtain rfl : n4 = 0 := H4.out.1.symm
            have hb5 := kb1 w4 (.cells #[.int .i64 0, .slice A4 0 c4] 33)
            have k5 := Blk.new w4 33 #[.int .i64 0, .slice A4 0 c4]
            refine (check2_any A n c t l _ ((H.out.kept HB4.out).kept hb5)).mono ?_
            rintro e w5 ⟨rfl, hx5⟩
            rw [HCE.out, HCI.out]
            have HK5 := Lib.hid (k5.kept hx5)
            have HB5 := Lib.hid (below_then HB4.out (below_then hb5 hx5))
            clear hb5 k5 hx5
            go_wp2_with fail
            refine (ragreed_any A n c t l w5 (H.out.kept HB5.out)).mono ?_
            rintro e w6 ⟨A6, c6, rfl, hm6, hx6⟩
            rw [HAE.out, HAM.out]
            have hk6 := HK5.out.kept hx6
            have p0 : w6.cell? ⟨w4.heap.size, 0, none⟩ = some (.int .i64 0) := by rw [hk6.cell]; rfl
            have p1 : w6.cell? ⟨w4.heap.size, 1, none⟩ = some (.slice A4 0 c4) := by rw [hk6.cell]; rfl
            have HB6 := Lib.hid (below_then HB5.out hx6)
            clear hk6 hx6 hm6
            go_wp2_with fail
            refine Text.wp_region_text (fun _ => True) [(0, 4), (1, 4), (2, 4), (3, 4), (4, 1), (5, 4), (6, 4), (7, 4), (8, 4), (9, 1), (10, 4), (11, 4), (12, 4), (13, 4), (14, 4), (15, 4), (16, 4), (17, 4), (18, 4), (19, 4), (20, 4), (21, 4), (22, 4), (23, 4), (24, 4), (25, 4), (26, 4)] (by kernel_rfl) (by kernel_rfl) (fun _ _ _ _ _ h => h) (trivial) ?_
            iterate 4 (refine Text.purek rfl rfl (fun K hK => ⟨_, fun w' => by go_simp <;> rfl, ?_⟩); go_simp; refine hK _ ?_; clear hK K)
            (refine Text.readk rfl rfl (fun K hK => ⟨_, by go_simp <;> rfl, ?_⟩); go_simp; refine hK _ ?_; clear hK K)
            iterate 4 (refine Text.purek rfl rfl (fun K hK => ⟨_, fun w' => by go_simp <;> rfl, ?_⟩); go_simp; refine hK _ ?_; clear hK K)
            (refine Text.readk rfl rfl (fun K hK => ⟨_, by go_simp <;> rfl, ?_⟩); go_simp; refine hK _ ?_; clear hK K)
            iterate 7 (refine Text.purek rfl rfl (fun K hK => ⟨_, fun w' => by go_simp <;> rfl, ?_⟩); go_simp; refine hK _ ?_; clear hK K)
            iterate 7 (refine Text.skipk (.inr (.inr rfl)) rfl rfl (fun K hK => ?_); go_simp; refine hK _ ?_; clear hK K)
            iterate 3 (refine Text.purek rfl rfl (fun K hK => ⟨_, fun w' => by go_simp <;> rfl, ?_⟩); go_simp; refine hK _ ?_; clear hK K)
            refine Text.done ?_
            go_wp2_with fail
            go_ret
            exact ⟨rfl, HB6.out.drew⟩
          · have q1 : decide (x < 1) = false := by simpa using hx1
            have q2 : decide (255 < x) = true := by
              have : ¬ (1 ≤ x ∧ x ≤ 255) := fun h => by rw [vX_iff.2 h] at hv; cases hv
              simp; omega
            clear hE hv hf g2 hx1
            go_enter Try.func7, Try.ntmps7
            go_wp2_with fail
            refine (awake_any _).mono ?_
            rintro e w1 ⟨rfl, hb1⟩
            have HB1 := Lib.hid hb1
            clear hb1
            go_wp2_with fail
            refine (long_any A n c 10 6 l w1 (H.out.kept HB1.out)).mono ?_
            rintro e w2 ⟨rfl, hb2⟩
            rw [HLO.out]
            have HB2 := Lib.hid (below_then HB1.out hb2)
            clear hb2
            go_wp2_with fail
            refine (combine_any A n c t l w2 (H.out.kept HB2.out)).mono ?_
            rintro e w3 ⟨v3, rfl, A3, n3, c3, rfl, hb3, _, hx3⟩
            rw [HCK.out]
            rw [HCB.out] at hb3
            have H3 := Lib.hid hb3
            have HB3 := Lib.hid (below_then HB2.out hx3)
            clear hb3 hx3
            go_wp2_with fail
            refine (extend_any A n c t x l w3 (H.out.kept HB3.out)).mono ?_
            rintro e w4 ⟨A4, n4, c4, rfl, hb4, _, hx4⟩
            rw [HXE.out, HXX.out]
            rw [HXL.out] at hb4
            have H34 := Lib.hid (H3.out.kept hx4)
            have HB4 := Lib.hid (below_then HB3.out hx4)
            have H4 := Lib.hid hb4
            clear hb4 hx4
            go_wp2_with fail
            obtain rfl : n3 = 0 := H3.out.1.symm
            obtain rfl : n4 = 0 := H4.out.1.symm
            have hb5 := kb1 w4 (.cells #[.int .i64 0, .slice A4 0 c4] 33)
            have k5 := Blk.new w4 33 #[.int .i64 0, .slice A4 0 c4]
            refine (check2_any A n c t l _ ((H.out.kept HB4.out).kept hb5)).mono ?_
            rintro e w5 ⟨rfl, hx5⟩
            rw [HCE.out, HCI.out]
            have HK5 := Lib.hid (k5.kept hx5)
            have HB5 := Lib.hid (below_then HB4.out (below_then hb5 hx5))
            clear hb5 k5 hx5
            go_wp2_with fail
            refine (ragreed_any A n c t l w5 (H.out.kept HB5.out)).mono ?_
            rintro e w6 ⟨A6, c6, rfl, hm6, hx6⟩
            rw [HAE.out, HAM.out]
            have hk6 := HK5.out.kept hx6
            have p0 : w6.cell? ⟨w4.heap.size, 0, none⟩ = some (.int .i64 0) := by rw [hk6.cell]; rfl
            have p1 : w6.cell? ⟨w4.heap.size, 1, none⟩ = some (.slice A4 0 c4) := by rw [hk6.cell]; rfl
            have HB6 := Lib.hid (below_then HB5.out hx6)
            clear hk6 hx6 hm6
            go_wp2_with fail
            refine Text.wp_region_text (fun _ => True) [(0, 4), (1, 4), (2, 4), (3, 4), (4, 1), (5, 4), (6, 4), (7, 4), (8, 4), (9, 1), (10, 4), (11, 4), (12, 4), (13, 4), (14, 4), (15, 4), (16, 4), (17, 4), (18, 4), (19, 4), (20, 4), (21, 4), (22, 4), (23, 4), (24, 4), (25, 4), (26, 4)] (by kernel_rfl) (by kernel_rfl) (fun _ _ _ _ _ h => h) (trivial) ?_
            iterate 4 (refine Text.purek rfl rfl (fun K hK => ⟨_, fun w' => by go_simp <;> rfl, ?_⟩); go_simp; refine hK _ ?_; clear hK K)
            (refine Text.readk rfl rfl (fun K hK => ⟨_, by go_simp <;> rfl, ?_⟩); go_simp; refine hK _ ?_; clear hK K)
            iterate 4 (refine Text.purek rfl rfl (fun K hK => ⟨_, fun w' => by go_simp <;> rfl, ?_⟩); go_simp; refine hK _ ?_; clear hK K)
            (refine Text.readk rfl rfl (fun K hK => ⟨_, by go_simp <;> rfl, ?_⟩); go_simp; refine hK _ ?_; clear hK K)
            iterate 7 (refine Text.purek rfl rfl (fun K hK => ⟨_, fun w' => by go_simp <;> rfl, ?_⟩); go_simp; refine hK _ ?_; clear hK K)
            iterate 7 (refine Text.skipk (.inr (.inr rfl)) rfl rfl (fun K hK => ?_); go_simp; refine hK _ ?_; clear hK K)
            iterate 3 (refine Text.purek rfl rfl (fun K hK => ⟨_, fun w' => by go_simp <;> rfl, ?_⟩); go_simp; refine hK _ ?_; clear hK K)
            refine Text.done ?_
            go_wp2_with fail
            go_ret
            exact ⟨rfl, HB6.out.drew⟩
      · cases hv : vX x with
        | false => exact cmb_out A n c l t x w H.out HLO.out hE hv
        | true => exact cmb_in A n c l t x w H.out HLO.out hE hv
end Go.Proofs.Ytakedococfklgaa
