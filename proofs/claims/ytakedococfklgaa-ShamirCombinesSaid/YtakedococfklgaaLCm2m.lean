/- ShamirCombines, the case of agreeing shares and an element in range. -/
import Derived.Test.YtakedococfklgaaLCm1m
namespace Go.Proofs.Ytakedococfklgaa
open Go.RowKit Gf

set_option maxRecDepth 100000 in
set_option maxHeartbeats 8000000 in
theorem cmb_in (A : Option Addr) (n c : Nat) (l : List (Int × List UInt8)) (t x : Int) (w : World) (h : SS w A n c l) (hlo : loB l 10 6 = false) (hE : agE l t = 0) (hv : vX x = true) :
    Calls Try.prog 7 #[.slice A n c, .int .i64 t, .int .i64 x] w fun e w' => e = .returned (.bool true) ∧ Below w.heap.size w w' := by
  have hn := h.len_le
  have H := Lib.hid h
  have HLO := Lib.hid hlo
  have HAE := Lib.hid hE
  obtain ⟨g1, g2⟩ := ag_good (l := l) (t := t) (by rw [hE]; decide)
  have HCE := Lib.hid g1
  have HCI : Hid (chB l t = true) := Lib.hid (by rw [g2, hE]; rfl)
  have HCK : Hid (ckE l t = 0) := Lib.hid (by rw [ck_ag, hE])
  obtain ⟨M, hM⟩ : ∃ M, M = agM l t := ⟨_, rfl⟩
  obtain ⟨D, hD⟩ : ∃ D, D = atK M 0 M.length := ⟨_, rfl⟩
  obtain ⟨E, hEE⟩ : ∃ E, E = atK M (UInt8.ofNat x.toNat) M.length := ⟨_, rfl⟩
  have HM := Lib.hid hM
  have HD := Lib.hid hD
  have HEE := Lib.hid hEE
  have HCB : Hid (cbL l t 0 = D) := Lib.hid (by rw [hD, hM]; exact cb_at hE)
  have HRW : Hid (M.length ≤ 1024 ∧ ∀ j, j < M.length → (gR M j).length ≤ 255) := Lib.hid (by rw [hM]; exact agM_rows hE)
  have hf : exE l t x = 0 := by unfold exE; rw [hv, if_pos rfl, HCK.out]
  have HXE := Lib.hid hf
  have HXX : Hid (exX l t x = x) := Lib.hid (by unfold exX; rw [hf, if_pos rfl])
  have HXL : Hid (exL l t x = E) := Lib.hid (by unfold exL; rw [hf, if_pos rfl, ag_zero hE, hEE, hM])
  have q1 : decide (x < 1) = false := by have := vX_iff.1 hv; simp; omega
  have q2 : decide (255 < x) = false := by have := vX_iff.1 hv; simp; omega
  have HX : Hid (0 ≤ x ∧ x ≤ 255) := Lib.hid (by have := vX_iff.1 hv; omega)
  have HSM : Hid (sameS [(x, E)] [(x, E)] = true) := Lib.hid (decide_eq_true rfl)
  clear h hlo hE g1 g2 hM hD hf hv hEE
  go_enter Try.func7, Try.ntmps7
  go_wp2_with fail
  refine (awake_any _).mono ?_
  rintro e w1 ⟨rfl, hb1⟩
  have HB1 := Lib.hid hb1
  clear hb1
  go_wp2_with fail
  refine (long_any A n c 10 6 l w1 (H.out.kept HB1.out)).mono ?_
  rintro e w2 ⟨rfl, hb2⟩
  rw [HLO.out]
  have HB2 := Lib.hid (below_then HB1.out hb2)
  clear hb2
  go_wp2_with fail
  refine (combine_any A n c t l w2 (H.out.kept HB2.out)).mono ?_
  rintro e w3 ⟨v3, rfl, A3, n3, c3, rfl, hb3, _, hx3⟩
  rw [HCK.out]
  rw [HCB.out] at hb3
  have H3 := Lib.hid hb3
  have HB3 := Lib.hid (below_then HB2.out hx3)
  clear hb3 hx3
  go_wp2_with fail
  refine (extend_any A n c t x l w3 (H.out.kept HB3.out)).mono ?_
  rintro e w4 ⟨A4, n4, c4, rfl, hb4, _, hx4⟩
  rw [HXE.out, HXX.out]
  rw [HXL.out] at hb4
  have H34 := Lib.hid (H3.out.kept hx4)
  have HB4 := Lib.hid (below_then HB3.out hx4)
  have H4 := Lib.hid hb4
  clear hb4 hx4
  go_wp2_with fail
  have hb5 := kb1 w4 (.cells #[.int .i64 x, .slice A4 n4 c4] 33)
  have k5 := Blk.new w4 33 #[.int .i64 x, .slice A4 n4 c4]
  refine (check2_any A n c t l _ ((H.out.kept HB4.out).kept hb5)).mono ?_
  rintro e w5 ⟨rfl, hx5⟩
  rw [HCE.out, HCI.out]
  have HK5 := Lib.hid (k5.kept hx5)
  have H35 := Lib.hid ((H34.out.kept hb5).kept hx5)
  have H45 := Lib.hid ((H4.out.kept hb5).kept hx5)
  have HB5 := Lib.hid (below_then HB4.out (below_then hb5 hx5))
  clear hb5 k5 hx5
  go_wp2_with fail
  refine (ragreed_any A n c t l w5 (H.out.kept HB5.out)).mono ?_
  rintro e w6 ⟨A6, c6, rfl, hm6, hx6⟩
  rw [HAE.out]
  rw [← HM.out] at hm6
  rw [← HM.out]
  obtain ⟨N, hN⟩ : ∃ N, N = M.length := ⟨_, rfl⟩
  rw [← hN] at hm6
  rw [← hN]
  have HNN := Lib.hid hN
  have FM := Lib.hid hm6
  have FB := Lib.hid (HK5.out.kept hx6)
  have FS := Lib.hid (H35.out.kept hx6)
  have FX := Lib.hid (H45.out.kept hx6)
  have HB := Lib.hid (below_then HB5.out hx6)
  have hbs : ((strB D).toList == (strB D).toList) = true := by rw [strB_eq, decide_eq_true rfl]
  clear hx6 hm6 hN
  go_wp2_with fail
  refine Text.wp_region_bt (fun w' => (convert 22 9 (.slice A3 n3 c3)).run Try.prog w' = .ok (.string (strB D)) w' ∧ w'.cell? ⟨w4.heap.size, 0, none⟩ = some (.int .i64 x) ∧ w'.cell? ⟨w4.heap.size, 1, none⟩ = some (.slice A4 n4 c4)) (.still 0 4 (.still 1 4 (.still 2 4 (.still 3 4 (.still 5 4 (.still 4 0 (.eff 6 (.still 7 4 (.still 8 1 (.still 9 4 (.still 10 4 (.still 11 4 (.still 14 4 (.still 15 4 (.still 12 0 (.br 13 (.eff 16 (.eff 17 (.eff 18 (.still 19 4 (.still 20 4 (.leaf)))))) 16 (.br 13 (.eff 17 (.eff 18 (.still 19 4 (.still 20 4 (.leaf))))) 17 (.eff 13 (.eff 18 (.still 19 4 (.still 20 4 (.leaf)))))))))))))))))))))) (by kernel_rfl) (by kernel_rfl) (fun _ _ _ _ _ h => h) ((⟨conv_str FS.out.drew, by rw [FB.out.drew.cell]; rfl, by rw [FB.out.drew.cell]; rfl⟩)) ?_
  obtain ⟨wd, hwd⟩ : ∃ W, W = w6.drew := ⟨_, rfl⟩
  have hx : Below w6.heap.size w6 wd := by rw [hwd]; exact (Below.refl _ _).drew
  have FM := Lib.hid (FM.out.kept hx)
  have FB := Lib.hid (FB.out.kept hx)
  have FS := Lib.hid (FS.out.kept hx)
  have FX := Lib.hid (FX.out.kept hx)
  have HB := Lib.hid (below_then HB.out hx)
  rw [← hwd]
  clear hx hwd
  iterate 5 (refine Text.bpurek rfl rfl (fun K hK => ⟨_, fun w' => by go_simp <;> rfl, ?_⟩); go_simp; refine hK _ ?_; clear hK K)
  (refine Text.bheldk rfl rfl (fun K hK => ⟨_, fun w' hw' => by have h9 := hw'.1; go_simp <;> rfl, ?_⟩); go_simp; refine hK _ ?_; clear hK K)
  refine Text.beffw rfl rfl (fun K hK => ?_)
  go_simp
  refine (ratx_any A6 N c6 M 0 wd FM.out (fun j hj => HRW.out.2 j (by rw [← HNN.out]; exact hj)) (by have := HRW.out.1; have := HNN.out; omega) (by decide) (by decide)).mono ?_
  rintro e w7 ⟨aw7, cw7, rfl, hb, hx, _⟩
  rw [show atK M (UInt8.ofNat (0 : Int).toNat) N = D by rw [HD.out, HNN.out]; rfl] at hb
  rw [atK_length]
  rw [show D.length = N by rw [HD.out, atK_length, HNN.out]] at hb
  have FM := Lib.hid (FM.out.kept hx)
  have FB := Lib.hid (FB.out.kept hx)
  have FS := Lib.hid (FS.out.kept hx)
  have FX := Lib.hid (FX.out.kept hx)
  have HB := Lib.hid (below_then HB.out hx)
  refine hK _ _ ⟨conv_str FS.out, by rw [FB.out.cell]; rfl, by rw [FB.out.cell]; rfl⟩ ?_
  have Gw7 := Lib.hid hb
  clear hK K hx hb
  have cv2 := conv_str Gw7.out
  (refine Text.bpurek rfl rfl (fun K hK => ⟨_, fun w' => by go_simp <;> rfl, ?_⟩); go_simp; refine hK _ ?_; clear hK K)
  (refine Text.breadk rfl rfl (fun K hK => ⟨_, by go_simp <;> rfl, ?_⟩); go_simp; refine hK _ ?_; clear hK K)
  iterate 5 (refine Text.bpurek rfl rfl (fun K hK => ⟨_, fun w' => by go_simp <;> rfl, ?_⟩); go_simp; refine hK _ ?_; clear hK K)
  (refine Text.bheldk rfl rfl (fun K hK => ⟨_, fun w' hw' => by have h9 := hw'.2.1; have h8 := hw'.2.2; go_simp <;> rfl, ?_⟩); go_simp; refine hK _ ?_; clear hK K)
  clear cv2 Gw7
  refine Text.bfork ?_ ?_
  · refine Text.beffw rfl rfl (fun K hK => ?_)
    go_simp
    obtain ⟨e1, he1⟩ : ∃ W, W = w7.alloc (.cells #[.int .i64 x, .slice A4 n4 c4] 33) := ⟨_, rfl⟩
    obtain ⟨ge1, hge1⟩ : ∃ g, g = w7.heap.size := ⟨_, rfl⟩
    have hx : Below w7.heap.size w7 e1 := by rw [he1]; exact kb1 _ _
    have hk : Blk e1 ge1 33 #[.int .i64 x, .slice A4 n4 c4] := by rw [he1, hge1]; exact Blk.new _ _ _
    have FM := Lib.hid (FM.out.kept hx)
    have FB := Lib.hid (FB.out.kept hx)
    have FS := Lib.hid (FS.out.kept hx)
    have FX := Lib.hid (FX.out.kept hx)
    have HB := Lib.hid (below_then HB.out hx)
    have Ke1 := Lib.hid hk
    rw [← he1, ← hge1]
    refine hK _ _ ⟨conv_str FS.out, by rw [FB.out.cell]; rfl, by rw [FB.out.cell]; rfl⟩ ?_
    clear hK K hk hx he1 hge1
    refine Text.beffw rfl rfl (fun K hK => ?_)
    go_simp
    refine (ratx_any A6 N c6 M x e1 FM.out (fun j hj => HRW.out.2 j (by rw [← HNN.out]; exact hj)) (by have := HRW.out.1; have := HNN.out; omega) HX.out.1 HX.out.2).mono ?_
    rintro e e2 ⟨ae2, ce2, rfl, hb, hx, _⟩
    rw [show atK M (UInt8.ofNat (x).toNat) N = E by rw [HEE.out, HNN.out]] at hb
    rw [atK_length]
    rw [show E.length = N by rw [HEE.out, atK_length, HNN.out]] at hb
    have Ke1 := Lib.hid (Ke1.out.kept hx)
    have FM := Lib.hid (FM.out.kept hx)
    have FB := Lib.hid (FB.out.kept hx)
    have FS := Lib.hid (FS.out.kept hx)
    have FX := Lib.hid (FX.out.kept hx)
    have HB := Lib.hid (below_then HB.out hx)
    refine hK _ _ ⟨conv_str FS.out, by rw [FB.out.cell]; rfl, by rw [FB.out.cell]; rfl⟩ ?_
    have Ge2 := Lib.hid hb
    clear hK K hx hb
    refine Text.beffw rfl rfl (fun K hK => ?_)
    go_simp
    obtain ⟨e3, he3⟩ : ∃ W, W = e2.alloc (.cells #[.int .i64 x, .slice ae2 N ce2] 33) := ⟨_, rfl⟩
    obtain ⟨ge3, hge3⟩ : ∃ g, g = e2.heap.size := ⟨_, rfl⟩
    have hx : Below e2.heap.size e2 e3 := by rw [he3]; exact kb1 _ _
    have hk : Blk e3 ge3 33 #[.int .i64 x, .slice ae2 N ce2] := by rw [he3, hge3]; exact Blk.new _ _ _
    have FM := Lib.hid (FM.out.kept hx)
    have FB := Lib.hid (FB.out.kept hx)
    have FS := Lib.hid (FS.out.kept hx)
    have FX := Lib.hid (FX.out.kept hx)
    have HB := Lib.hid (below_then HB.out hx)
    have Ke1 := Lib.hid (Ke1.out.kept hx)
    have Ge2 := Lib.hid (Ge2.out.kept hx)
    have Ke3 := Lib.hid hk
    rw [← he3, ← hge3]
    refine hK _ _ ⟨conv_str FS.out, by rw [FB.out.cell]; rfl, by rw [FB.out.cell]; rfl⟩ ?_
    clear hK K hk hx he3 hge3
    refine Text.beffw rfl rfl (fun K hK => ?_)
    go_simp
    refine (same_any _ _ 1 1 1 1 [(x, E)] [(x, E)] e3 (ss1 Ke1.out FX.out) (ss1 Ke3.out Ge2.out)).mono ?_
    rintro e z9 ⟨rfl, hx⟩
    rw [HSM.out]
    have FM := Lib.hid (FM.out.kept hx)
    have FB := Lib.hid (FB.out.kept hx)
    have FS := Lib.hid (FS.out.kept hx)
    have FX := Lib.hid (FX.out.kept hx)
    have HB := Lib.hid (below_then HB.out hx)
    refine hK _ _ ⟨conv_str FS.out, by rw [FB.out.cell]; rfl, by rw [FB.out.cell]; rfl⟩ ?_
    clear hK K hx
    iterate 2 (refine Text.bpurek rfl rfl (fun K hK => ⟨_, fun w' => by go_simp <;> rfl, ?_⟩); go_simp; refine hK _ ?_; clear hK K)
    refine Text.bdone ?_
    go_wp2_with fail
    go_ret
    exact ⟨rfl, HB.out⟩
  · refine Text.beffw rfl rfl (fun K hK => ?_)
    go_simp
    refine (ratx_any A6 N c6 M x w7 FM.out (fun j hj => HRW.out.2 j (by rw [← HNN.out]; exact hj)) (by have := HRW.out.1; have := HNN.out; omega) HX.out.1 HX.out.2).mono ?_
    rintro e f1 ⟨af1, cf1, rfl, hb, hx, _⟩
    rw [show atK M (UInt8.ofNat (x).toNat) N = E by rw [HEE.out, HNN.out]] at hb
    rw [atK_length]
    rw [show E.length = N by rw [HEE.out, atK_length, HNN.out]] at hb
    have FM := Lib.hid (FM.out.kept hx)
    have FB := Lib.hid (FB.out.kept hx)
    have FS := Lib.hid (FS.out.kept hx)
    have FX := Lib.hid (FX.out.kept hx)
    have HB := Lib.hid (below_then HB.out hx)
    refine hK _ _ ⟨conv_str FS.out, by rw [FB.out.cell]; rfl, by rw [FB.out.cell]; rfl⟩ ?_
    have Gf1 := Lib.hid hb
    clear hK K hx hb
    refine Text.bfork ?_ ?_
    · refine Text.beffw rfl rfl (fun K hK => ?_)
      go_simp
      obtain ⟨f2, hf2⟩ : ∃ W, W = f1.alloc (.cells #[.int .i64 x, .slice A4 n4 c4] 33) := ⟨_, rfl⟩
      obtain ⟨gf2, hgf2⟩ : ∃ g, g = f1.heap.size := ⟨_, rfl⟩
      have hx : Below f1.heap.size f1 f2 := by rw [hf2]; exact kb1 _ _
      have hk : Blk f2 gf2 33 #[.int .i64 x, .slice A4 n4 c4] := by rw [hf2, hgf2]; exact Blk.new _ _ _
      have FM := Lib.hid (FM.out.kept hx)
      have FB := Lib.hid (FB.out.kept hx)
      have FS := Lib.hid (FS.out.kept hx)
      have FX := Lib.hid (FX.out.kept hx)
      have HB := Lib.hid (below_then HB.out hx)
      have Gf1 := Lib.hid (Gf1.out.kept hx)
      have Kf2 := Lib.hid hk
      rw [← hf2, ← hgf2]
      refine hK _ _ ⟨conv_str FS.out, by rw [FB.out.cell]; rfl, by rw [FB.out.cell]; rfl⟩ ?_
      clear hK K hk hx hf2 hgf2
      refine Text.beffw rfl rfl (fun K hK => ?_)
      go_simp
      obtain ⟨f3, hf3⟩ : ∃ W, W = f2.alloc (.cells #[.int .i64 x, .slice af1 N cf1] 33) := ⟨_, rfl⟩
      obtain ⟨gf3, hgf3⟩ : ∃ g, g = f2.heap.size := ⟨_, rfl⟩
      have hx : Below f2.heap.size f2 f3 := by rw [hf3]; exact kb1 _ _
      have hk : Blk f3 gf3 33 #[.int .i64 x, .slice af1 N cf1] := by rw [hf3, hgf3]; exact Blk.new _ _ _
      have FM := Lib.hid (FM.out.kept hx)
      have FB := Lib.hid (FB.out.kept hx)
      have FS := Lib.hid (FS.out.kept hx)
      have FX := Lib.hid (FX.out.kept hx)
      have HB := Lib.hid (below_then HB.out hx)
      have Gf1 := Lib.hid (Gf1.out.kept hx)
      have Kf2 := Lib.hid (Kf2.out.kept hx)
      have Kf3 := Lib.hid hk
      rw [← hf3, ← hgf3]
      refine hK _ _ ⟨conv_str FS.out, by rw [FB.out.cell]; rfl, by rw [FB.out.cell]; rfl⟩ ?_
      clear hK K hk hx hf3 hgf3
      refine Text.beffw rfl rfl (fun K hK => ?_)
      go_simp
      refine (same_any _ _ 1 1 1 1 [(x, E)] [(x, E)] f3 (ss1 Kf2.out FX.out) (ss1 Kf3.out Gf1.out)).mono ?_
      rintro e z9 ⟨rfl, hx⟩
      rw [HSM.out]
      have FM := Lib.hid (FM.out.kept hx)
      have FB := Lib.hid (FB.out.kept hx)
      have FS := Lib.hid (FS.out.kept hx)
      have FX := Lib.hid (FX.out.kept hx)
      have HB := Lib.hid (below_then HB.out hx)
      refine hK _ _ ⟨conv_str FS.out, by rw [FB.out.cell]; rfl, by rw [FB.out.cell]; rfl⟩ ?_
      clear hK K hx
      iterate 2 (refine Text.bpurek rfl rfl (fun K hK => ⟨_, fun w' => by go_simp <;> rfl, ?_⟩); go_simp; refine hK _ ?_; clear hK K)
      refine Text.bdone ?_
      go_wp2_with fail
      go_ret
      exact ⟨rfl, HB.out⟩
    · refine Text.beffw rfl rfl (fun K hK => ?_)
      go_simp
      obtain ⟨h2, hh2⟩ : ∃ W, W = f1.alloc (.cells #[.int .i64 x, .slice af1 N cf1] 33) := ⟨_, rfl⟩
      obtain ⟨gh2, hgh2⟩ : ∃ g, g = f1.heap.size := ⟨_, rfl⟩
      have hx : Below f1.heap.size f1 h2 := by rw [hh2]; exact kb1 _ _
      have hk : Blk h2 gh2 33 #[.int .i64 x, .slice af1 N cf1] := by rw [hh2, hgh2]; exact Blk.new _ _ _
      have FM := Lib.hid (FM.out.kept hx)
      have FB := Lib.hid (FB.out.kept hx)
      have FS := Lib.hid (FS.out.kept hx)
      have FX := Lib.hid (FX.out.kept hx)
      have HB := Lib.hid (below_then HB.out hx)
      have Gf1 := Lib.hid (Gf1.out.kept hx)
      have Kh2 := Lib.hid hk
      rw [← hh2, ← hgh2]
      refine hK _ _ ⟨conv_str FS.out, by rw [FB.out.cell]; rfl, by rw [FB.out.cell]; rfl⟩ ?_
      clear hK K hk hx hh2 hgh2
      refine Text.beffw rfl rfl (fun K hK => ?_)
      go_simp
      obtain ⟨h3, hh3⟩ : ∃ W, W = h2.alloc (.cells #[.int .i64 x, .slice A4 n4 c4] 33) := ⟨_, rfl⟩
      obtain ⟨gh3, hgh3⟩ : ∃ g, g = h2.heap.size := ⟨_, rfl⟩
      have hx : Below h2.heap.size h2 h3 := by rw [hh3]; exact kb1 _ _
      have hk : Blk h3 gh3 33 #[.int .i64 x, .slice A4 n4 c4] := by rw [hh3, hgh3]; exact Blk.new _ _ _
      have FM := Lib.hid (FM.out.kept hx)
      have FB := Lib.hid (FB.out.kept hx)
      have FS := Lib.hid (FS.out.kept hx)
      have FX := Lib.hid (FX.out.kept hx)
      have HB := Lib.hid (below_then HB.out hx)
      have Gf1 := Lib.hid (Gf1.out.kept hx)
      have Kh2 := Lib.hid (Kh2.out.kept hx)
      have Kh3 := Lib.hid hk
      rw [← hh3, ← hgh3]
      refine hK _ _ ⟨conv_str FS.out, by rw [FB.out.cell]; rfl, by rw [FB.out.cell]; rfl⟩ ?_
      clear hK K hk hx hh3 hgh3
      refine Text.beffw rfl rfl (fun K hK => ?_)
      go_simp
      refine (same_any _ _ 1 1 1 1 [(x, E)] [(x, E)] h3 (ss1 Kh3.out FX.out) (ss1 Kh2.out Gf1.out)).mono ?_
      rintro e z9 ⟨rfl, hx⟩
      rw [HSM.out]
      have FM := Lib.hid (FM.out.kept hx)
      have FB := Lib.hid (FB.out.kept hx)
      have FS := Lib.hid (FS.out.kept hx)
      have FX := Lib.hid (FX.out.kept hx)
      have HB := Lib.hid (below_then HB.out hx)
      refine hK _ _ ⟨conv_str FS.out, by rw [FB.out.cell]; rfl, by rw [FB.out.cell]; rfl⟩ ?_
      clear hK K hx
      iterate 2 (refine Text.bpurek rfl rfl (fun K hK => ⟨_, fun w' => by go_simp <;> rfl, ?_⟩); go_simp; refine hK _ ?_; clear hK K)
      refine Text.bdone ?_
      go_wp2_with fail
      go_ret
      exact ⟨rfl, HB.out⟩
end Go.Proofs.Ytakedococfklgaa
