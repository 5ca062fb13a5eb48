/- ShamirCombines, the case of agreeing shares and an element out of range. -/
import Derived.Test.YtakedococfklgaaAw2m
import Derived.Test.YtakedococfklgaaCb1m
import Derived.Test.YtakedococfklgaaRe9m
namespace Go.Proofs.Ytakedococfklgaa
open Go.RowKit Gf

theorem agM_rows {l : List (Int × List UInt8)} {t : Int} (h : agE l t = 0) : (agM l t).length ≤ 1024 ∧ ∀ j, j < (agM l t).length → (gR (agM l t) j).length ≤ 255 := by
  have hM : agM l t = shgK l (lnK l) := by unfold agM; rw [if_pos h]
  rcases ag_cases (l := l) (t := t) with h1 | ⟨hs, _⟩
  · rw [h] at h1; exact absurd h1.1 (by decide)
  rw [Bool.and_eq_true] at hs
  obtain ⟨sp1, _, sp3, _⟩ := shB_spec hs.1
  rw [hM, shgK_length]
  refine ⟨?_, fun j hj => ?_⟩
  · unfold lnK; split
    · omega
    · exact sp3 0 (by omega)
  · have hg : gR (shgK l (lnK l)) j = Py.itP (coX l) (coY l j) := by rw [gR_eq (by rw [shgK_length]; exact hj)]; simp [shgK]
    rw [hg]
    have := Py.itP_length (coX l) (coY l j)
    rw [coX_len] at this
    omega
theorem cb_at {l : List (Int × List UInt8)} {t : Int} (h : agE l t = 0) : cbL l t 0 = atK (agM l t) 0 (agM l t).length := by
  unfold cbL; rw [ck_ag, if_pos h, ag_zero h]

set_option maxRecDepth 100000 in
set_option maxHeartbeats 8000000 in
theorem cmb_out (A : Option Addr) (n c : Nat) (l : List (Int × List UInt8)) (t x : Int) (w : World) (h : SS w A n c l) (hlo : loB l 10 6 = false) (hE : agE l t = 0) (hv : vX x = false) :
    Calls Try.prog 7 #[.slice A n c, .int .i64 t, .int .i64 x] w fun e w' => e = .returned (.bool true) ∧ Below w.heap.size w w' := by
      have hn := h.len_le
      have H := Lib.hid h
      have HLO := Lib.hid hlo
      have HAE := Lib.hid hE
      obtain ⟨g1, g2⟩ := ag_good (l := l) (t := t) (by rw [hE]; decide)
      have HCE := Lib.hid g1
      have HCI : Hid (chB l t = true) := Lib.hid (by rw [g2, hE]; rfl)
      have HCK : Hid (ckE l t = 0) := Lib.hid (by rw [ck_ag, hE])
      obtain ⟨M, hM⟩ : ∃ M, M = agM l t := ⟨_, rfl⟩
      obtain ⟨D, hD⟩ : ∃ D, D = atK M 0 M.length := ⟨_, rfl⟩
      have HM := Lib.hid hM
      have HD := Lib.hid hD
      have HCB : Hid (cbL l t 0 = D) := Lib.hid (by rw [hD, hM]; exact cb_at hE)
      have HRW : Hid (M.length ≤ 1024 ∧ ∀ j, j < M.length → (gR M j).length ≤ 255) := Lib.hid (by rw [hM]; exact agM_rows hE)
      have hf : exE l t x = 1 := by unfold exE; rw [hv]; rfl
      have HXE := Lib.hid hf
      have HXX : Hid (exX l t x = 0) := Lib.hid (by unfold exX; rw [hf, if_neg (by decide)])
      have HXL : Hid (exL l t x = []) := Lib.hid (by unfold exL; rw [hf, if_neg (by decide)])
      clear h hlo hE g1 g2 hM hD hf
      by_cases hx1 : x < 1
      · have q1 : decide (x < 1) = true := by simpa using hx1
        clear hx1 hv
        go_enter Try.func7, Try.ntmps7
        go_wp2_with fail
        refine (awake_any _).mono ?_
        rintro e w1 ⟨rfl, hb1⟩
        have HB1 := Lib.hid hb1
        clear hb1
        go_wp2_with fail
        refine (long_any A n c 10 6 l w1 (H.out.kept HB1.out)).mono ?_
        rintro e w2 ⟨rfl, hb2⟩
        rw [HLO.out]
        have HB2 := Lib.hid (below_then HB1.out hb2)
        clear hb2
        go_wp2_with fail
        refine (combine_any A n c t l w2 (H.out.kept HB2.out)).mono ?_
        rintro e w3 ⟨v3, rfl, A3, n3, c3, rfl, hb3, _, hx3⟩
        rw [HCK.out]
        rw [HCB.out] at hb3
        have H3 := Lib.hid hb3
        have HB3 := Lib.hid (below_then HB2.out hx3)
        clear hb3 hx3
        go_wp2_with fail
        refine (extend_any A n c t x l w3 (H.out.kept HB3.out)).mono ?_
        rintro e w4 ⟨A4, n4, c4, rfl, hb4, _, hx4⟩
        rw [HXE.out, HXX.out]
        rw [HXL.out] at hb4
        have H34 := Lib.hid (H3.out.kept hx4)
        have HB4 := Lib.hid (below_then HB3.out hx4)
        have H4 := Lib.hid hb4
        clear hb4 hx4
        go_wp2_with fail
        obtain rfl : n4 = 0 := H4.out.1.symm
        have hb5 := kb1 w4 (.cells #[.int .i64 0, .slice A4 0 c4] 33)
        have k5 := Blk.new w4 33 #[.int .i64 0, .slice A4 0 c4]
        refine (check2_any A n c t l _ ((H.out.kept HB4.out).kept hb5)).mono ?_
        rintro e w5 ⟨rfl, hx5⟩
        rw [HCE.out, HCI.out]
        have HK5 := Lib.hid (k5.kept hx5)
        have H35 := Lib.hid ((H34.out.kept hb5).kept hx5)
        have HB5 := Lib.hid (below_then HB4.out (below_then hb5 hx5))
        clear hb5 k5 hx5
        go_wp2_with fail
        refine (ragreed_any A n c t l w5 (H.out.kept HB5.out)).mono ?_
        rintro e w6 ⟨A6, c6, rfl, hm6, hx6⟩
        rw [HAE.out]
        rw [← HM.out] at hm6
        rw [← HM.out]
        obtain ⟨N, hN⟩ : ∃ N, N = M.length := ⟨_, rfl⟩
        rw [← hN] at hm6
        rw [← hN]
        have HNN := Lib.hid hN
        have H6 := Lib.hid hm6
        have hk6 := HK5.out.kept hx6
        have p0 : w6.cell? ⟨w4.heap.size, 0, none⟩ = some (.int .i64 0) := by rw [hk6.cell]; rfl
        have p1 : w6.cell? ⟨w4.heap.size, 1, none⟩ = some (.slice A4 0 c4) := by rw [hk6.cell]; rfl
        have H36 := Lib.hid (H35.out.kept hx6)
        have HB6 := Lib.hid (below_then HB5.out hx6)
        have cv1 := conv_str H36.out.drew
        have hbs : ((strB D).toList == (strB D).toList) = true := by rw [strB_eq, decide_eq_true rfl]
        clear hk6 hx6 hm6 hN
        go_wp2_with fail
        refine Text.wp_region_text (fun w' => (convert 22 9 (.slice A3 n3 c3)).run Try.prog w' = .ok (.string (strB D)) w') [(0, 4), (1, 4), (2, 4), (3, 4), (4, 1), (5, 4), (6, 4), (7, 4), (8, 4), (9, 1), (10, 4), (11, 4), (12, 4), (13, 4), (14, 4), (15, 4), (16, 4), (17, 4), (19, 4), (18, 0), (20, 2), (21, 4), (22, 1), (23, 4), (24, 4), (25, 4), (26, 4)] (by kernel_rfl) (by kernel_rfl) (fun _ _ _ _ _ h => h) (cv1) ?_
        iterate 4 (refine Text.purek rfl rfl (fun K hK => ⟨_, fun w' => by go_simp <;> rfl, ?_⟩); go_simp; refine hK _ ?_; clear hK K)
        (refine Text.readk rfl rfl (fun K hK => ⟨_, by go_simp <;> rfl, ?_⟩); go_simp; refine hK _ ?_; clear hK K)
        iterate 4 (refine Text.purek rfl rfl (fun K hK => ⟨_, fun w' => by go_simp <;> rfl, ?_⟩); go_simp; refine hK _ ?_; clear hK K)
        (refine Text.readk rfl rfl (fun K hK => ⟨_, by go_simp <;> rfl, ?_⟩); go_simp; refine hK _ ?_; clear hK K)
        iterate 9 (refine Text.purek rfl rfl (fun K hK => ⟨_, fun w' => by go_simp <;> rfl, ?_⟩); go_simp; refine hK _ ?_; clear hK K)
        (refine Text.heldk rfl rfl (fun K hK => ⟨_, fun w' hw' => by go_simp <;> rfl, ?_⟩); go_simp; refine hK _ ?_; clear hK K)
        refine Text.effw rfl rfl (fun K hK => ?_)
        go_simp
        refine (ratx_any A6 N c6 M 0 w6.drew H6.out.drew (fun j hj => HRW.out.2 j (by rw [← HNN.out]; exact hj)) (by have := HRW.out.1; have := HNN.out; omega) (by decide) (by decide)).mono ?_
        rintro e w7 ⟨A7, c7, rfl, hb7, hx7, _⟩
        have hx7' := below_ofDrew hx7
        have HB7 := Lib.hid (below_then HB6.out hx7')
        rw [show atK M (UInt8.ofNat (0 : Int).toNat) N = D by rw [HD.out, HNN.out]; rfl] at hb7
        rw [atK_length]
        rw [show D.length = N by rw [HD.out, atK_length, HNN.out]] at hb7
        have cv2 := conv_str hb7
        refine hK _ _ (conv_str (H36.out.kept hx7')) ?_
        clear hK K hb7 hx7 hx7' cv1
        (refine Text.purek rfl rfl (fun K hK => ⟨_, fun w' => by go_simp <;> rfl, ?_⟩); go_simp; refine hK _ ?_; clear hK K)
        (refine Text.readk rfl rfl (fun K hK => ⟨_, by go_simp <;> rfl, ?_⟩); go_simp; refine hK _ ?_; clear hK K)
        iterate 4 (refine Text.purek rfl rfl (fun K hK => ⟨_, fun w' => by go_simp <;> rfl, ?_⟩); go_simp; refine hK _ ?_; clear hK K)
        refine Text.done ?_
        go_wp2_with fail
        go_ret
        exact ⟨rfl, HB7.out⟩
      · have q1 : decide (x < 1) = false := by simpa using hx1
        have q2 : decide (255 < x) = true := by
          have : ¬ (1 ≤ x ∧ x ≤ 255) := fun h => by rw [vX_iff.2 h] at hv; cases hv
          simp; omega
        clear hx1 hv
        go_enter Try.func7, Try.ntmps7
        go_wp2_with fail
        refine (awake_any _).mono ?_
        rintro e w1 ⟨rfl, hb1⟩
        have HB1 := Lib.hid hb1
        clear hb1
        go_wp2_with fail
        refine (long_any A n c 10 6 l w1 (H.out.kept HB1.out)).mono ?_
        rintro e w2 ⟨rfl, hb2⟩
        rw [HLO.out]
        have HB2 := Lib.hid (below_then HB1.out hb2)
        clear hb2
        go_wp2_with fail
        refine (combine_any A n c t l w2 (H.out.kept HB2.out)).mono ?_
        rintro e w3 ⟨v3, rfl, A3, n3, c3, rfl, hb3, _, hx3⟩
        rw [HCK.out]
        rw [HCB.out] at hb3
        have H3 := Lib.hid hb3
        have HB3 := Lib.hid (below_then HB2.out hx3)
        clear hb3 hx3
        go_wp2_with fail
        refine (extend_any A n c t x l w3 (H.out.kept HB3.out)).mono ?_
        rintro e w4 ⟨A4, n4, c4, rfl, hb4, _, hx4⟩
        rw [HXE.out, HXX.out]
        rw [HXL.out] at hb4
        have H34 := Lib.hid (H3.out.kept hx4)
        have HB4 := Lib.hid (below_then HB3.out hx4)
        have H4 := Lib.hid hb4
        clear hb4 hx4
        go_wp2_with fail
        obtain rfl : n4 = 0 := H4.out.1.symm
        have hb5 := kb1 w4 (.cells #[.int .i64 0, .slice A4 0 c4] 33)
        have k5 := Blk.new w4 33 #[.int .i64 0, .slice A4 0 c4]
        refine (check2_any A n c t l _ ((H.out.kept HB4.out).kept hb5)).mono ?_
        rintro e w5 ⟨rfl, hx5⟩
        rw [HCE.out, HCI.out]
        have HK5 := Lib.hid (k5.kept hx5)
        have H35 := Lib.hid ((H34.out.kept hb5).kept hx5)
        have HB5 := Lib.hid (below_then HB4.out (below_then hb5 hx5))
        clear hb5 k5 hx5
        go_wp2_with fail
        refine (ragreed_any A n c t l w5 (H.out.kept HB5.out)).mono ?_
        rintro e w6 ⟨A6, c6, rfl, hm6, hx6⟩
        rw [HAE.out]
        rw [← HM.out] at hm6
        rw [← HM.out]
        obtain ⟨N, hN⟩ : ∃ N, N = M.length := ⟨_, rfl⟩
        rw [← hN] at hm6
        rw [← hN]
        have HNN := Lib.hid hN
        have H6 := Lib.hid hm6
        have hk6 := HK5.out.kept hx6
        have p0 : w6.cell? ⟨w4.heap.size, 0, none⟩ = some (.int .i64 0) := by rw [hk6.cell]; rfl
        have p1 : w6.cell? ⟨w4.heap.size, 1, none⟩ = some (.slice A4 0 c4) := by rw [hk6.cell]; rfl
        have H36 := Lib.hid (H35.out.kept hx6)
        have HB6 := Lib.hid (below_then HB5.out hx6)
        have cv1 := conv_str H36.out.drew
        have hbs : ((strB D).toList == (strB D).toList) = true := by rw [strB_eq, decide_eq_true rfl]
        clear hk6 hx6 hm6 hN
        go_wp2_with fail
        refine Text.wp_region_text (fun w' => (convert 22 9 (.slice A3 n3 c3)).run Try.prog w' = .ok (.string (strB D)) w') [(0, 4), (1, 4), (2, 4), (3, 4), (4, 1), (5, 4), (6, 4), (7, 4), (8, 4), (9, 1), (10, 4), (11, 4), (12, 4), (13, 4), (14, 4), (15, 4), (16, 4), (17, 4), (19, 4), (18, 0), (20, 2), (21, 4), (22, 1), (23, 4), (24, 4), (25, 4), (26, 4)] (by kernel_rfl) (by kernel_rfl) (fun _ _ _ _ _ h => h) (cv1) ?_
        iterate 4 (refine Text.purek rfl rfl (fun K hK => ⟨_, fun w' => by go_simp <;> rfl, ?_⟩); go_simp; refine hK _ ?_; clear hK K)
        (refine Text.readk rfl rfl (fun K hK => ⟨_, by go_simp <;> rfl, ?_⟩); go_simp; refine hK _ ?_; clear hK K)
        iterate 4 (refine Text.purek rfl rfl (fun K hK => ⟨_, fun w' => by go_simp <;> rfl, ?_⟩); go_simp; refine hK _ ?_; clear hK K)
        (refine Text.readk rfl rfl (fun K hK => ⟨_, by go_simp <;> rfl, ?_⟩); go_simp; refine hK _ ?_; clear hK K)
        iterate 9 (refine Text.purek rfl rfl (fun K hK => ⟨_, fun w' => by go_simp <;> rfl, ?_⟩); go_simp; refine hK _ ?_; clear hK K)
        (refine Text.heldk rfl rfl (fun K hK => ⟨_, fun w' hw' => by go_simp <;> rfl, ?_⟩); go_simp; refine hK _ ?_; clear hK K)
        refine Text.effw rfl rfl (fun K hK => ?_)
        go_simp
        refine (ratx_any A6 N c6 M 0 w6.drew H6.out.drew (fun j hj => HRW.out.2 j (by rw [← HNN.out]; exact hj)) (by have := HRW.out.1; have := HNN.out; omega) (by decide) (by decide)).mono ?_
        rintro e w7 ⟨A7, c7, rfl, hb7, hx7, _⟩
        have hx7' := below_ofDrew hx7
        have HB7 := Lib.hid (below_then HB6.out hx7')
        rw [show atK M (UInt8.ofNat (0 : Int).toNat) N = D by rw [HD.out, HNN.out]; rfl] at hb7
        rw [atK_length]
        rw [show D.length = N by rw [HD.out, atK_length, HNN.out]] at hb7
        have cv2 := conv_str hb7
        refine hK _ _ (conv_str (H36.out.kept hx7')) ?_
        clear hK K hb7 hx7 hx7' cv1
        (refine Text.purek rfl rfl (fun K hK => ⟨_, fun w' => by go_simp <;> rfl, ?_⟩); go_simp; refine hK _ ?_; clear hK K)
        (refine Text.readk rfl rfl (fun K hK => ⟨_, by go_simp <;> rfl, ?_⟩); go_simp; refine hK _ ?_; clear hK K)
        iterate 4 (refine Text.purek rfl rfl (fun K hK => ⟨_, fun w' => by go_simp <;> rfl, ?_⟩); go_simp; refine hK _ ?_; clear hK K)
        refine Text.done ?_
        go_wp2_with fail
        go_ret
        exact ⟨rfl, HB7.out⟩
end Go.Proofs.Ytakedococfklgaa
