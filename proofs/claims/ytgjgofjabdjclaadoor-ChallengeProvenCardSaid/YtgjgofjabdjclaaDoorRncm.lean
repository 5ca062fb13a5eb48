/- Contracts of the reference: Nonce, Answer, and Tokens where an argument is not valid. -/
import Derived.Test.YtgjgofjabdjclaaDoorRnom
namespace Go.Proofs.YtgjgofjabdjclaaDoor
open Go Go.RowKit Gf Sha

set_option maxRecDepth 100000 in
set_option maxHeartbeats 4000000 in
theorem rnonce_ok (Kx : Ky) (s : List UInt8) (j n : Nat) (w : World) (h : nonB Kx s (j : Int) (n : Int) = true) :
    Calls Tryd.prog 30 #[Kx.val, .agg #[.string (strB s), .int .i64 (j : Int)], .int .i64 (n : Int)] w fun e w' => e = .returned (.tuple #[.string (strB (nonceL Kx s j n)), .int .i64 0]) ∧ Below w.heap.size w w' := by
  simp only [nonB, Bool.and_eq_true, decide_eq_true_eq] at h
  obtain ⟨hK, hI, _, hn⟩ := h
  have HK := Lib.hid hK
  have HI := Lib.hid hI
  have hI2 : s.length = 32 ∧ j < 16 := by
    simp only [idB, Bool.and_eq_true, decide_eq_true_eq] at hI
    exact ⟨hI.1, by omega⟩
  have HN := Lib.hid hI2
  clear hK hI hI2
  obtain ⟨i, hi⟩ : ∃ i : Int, i = (j : Int) := ⟨_, rfl⟩
  rw [← hi]
  rw [← hi] at HI
  have HJ := Lib.hid hi
  clear hi
  go_enter Tryd.func30, Tryd.ntmps30
  go_wp2_with (first
    | ((with_reducible show wpList _ _ _ (⟨some 3, _, _, _, _, _⟩ :: _) _ _); refine wpList_box _ rfl 29 (.tmp 0) rfl Kx.cells rfl ?_; intro w1 a1 a2 a3; have HG1 := Lib.hid a1; have HB1 := Lib.hid a2; clear a1 a2 a3)
    | ((with_reducible show wpList _ _ _ (⟨some 4, _, _, _, _, _⟩ :: _) _ _); refine wpList_box _ rfl 33 (.tmp 1) rfl [.string (strB s), .int .i64 i] rfl ?_; intro w2 a1 a2 a3; have HP2 := Lib.hid a1; have HB2 := Lib.hid (below_then HB1.out (a2.mono (Nat.le_refl _))); have HG2 := Lib.hid (HG1.out.kept a2); clear a1 a2 a3)
    | ((with_reducible show wpList _ _ _ (⟨some 8, _, _, _, _, _⟩ :: _) _ _); refine wpList_loadv _ rfl 29 (.tmp 3) rfl 5 (by kernel_rfl) w.heap.size 0 Kx.cells rfl (BL.all HG2.out) rfl ?_)
    | (go_at_call 56; refine (rkeys_any Kx w2).mono ?_; rintro e w3 ⟨rfl, b1⟩; rw [HK.out]; have HB3 := Lib.hid (below_thenB HB2.out HB2.out.size b1); have HG3 := Lib.hid (HG2.out.kept b1); have HP3 := Lib.hid (HP2.out.kept b1); have q0 := HP3.out.get (j := 0) rfl; have q1 := HP3.out.get (j := 1) rfl; clear b1)
    | (go_at_call 57; refine (rpiece_any s i w3).mono ?_; rintro e w4 ⟨rfl, b1⟩; rw [HI.out]; have HB4 := Lib.hid (below_thenB HB3.out HB3.out.size b1); have HG4 := Lib.hid (HG3.out.kept b1); have HP4 := Lib.hid (HP3.out.kept b1); clear b1 q0 q1)
    | ((with_reducible show wpList _ _ _ (⟨some 24, _, _, _, _, _⟩ :: _) _ _); refine wpList_loadv _ rfl 29 (.tmp 3) rfl 5 (by kernel_rfl) w.heap.size 0 Kx.cells rfl (BL.all HG4.out) rfl ?_)
    | ((with_reducible show wpList _ _ _ (⟨some 25, _, _, _, _, _⟩ :: _) _ _); refine wpList_loadv _ rfl 33 (.tmp 4) rfl 2 (by kernel_rfl) w1.heap.size 0 [.string (strB s), .int .i64 i] rfl (BL.all HP4.out) rfl ?_)
    | (go_at_call 58; rw [HJ.out]; refine (rnonce_any Kx s j n w4 HK.out HN.out.1 HN.out.2 (by omega)).mono ?_; rintro e w5 ⟨rfl, b1⟩; have HB5 := Lib.hid (below_thenB HB4.out HB4.out.size b1); clear b1))
  go_ret2
  exact ⟨rfl, HB5.out⟩

set_option maxRecDepth 100000 in
set_option maxHeartbeats 4000000 in
theorem rnonce_not (Kx : Ky) (s : List UInt8) (i n : Int) (w : World) (h : nonB Kx s i n = false) :
    Calls Tryd.prog 30 #[Kx.val, .agg #[.string (strB s), .int .i64 i], .int .i64 n] w fun e w' => e = .returned (.tuple #[.string (strB []), .int .i64 1]) ∧ Below w.heap.size w w' := by
  by_cases hK : okK Kx = true
  · have HK := Lib.hid hK
    by_cases hI : idB s i = true
    · have HI := Lib.hid hI
      rw [nonB, hK, hI, Bool.true_and, Bool.true_and] at h
      by_cases h0 : n < 0
      · clear hK hI h
        go_enter Tryd.func30, Tryd.ntmps30
        go_wp2_with (first
    | ((with_reducible show wpList _ _ _ (⟨some 3, _, _, _, _, _⟩ :: _) _ _); refine wpList_box _ rfl 29 (.tmp 0) rfl Kx.cells rfl ?_; intro w1 a1 a2 a3; have HG1 := Lib.hid a1; have HB1 := Lib.hid a2; clear a1 a2 a3)
    | ((with_reducible show wpList _ _ _ (⟨some 4, _, _, _, _, _⟩ :: _) _ _); refine wpList_box _ rfl 33 (.tmp 1) rfl [.string (strB s), .int .i64 i] rfl ?_; intro w2 a1 a2 a3; have HP2 := Lib.hid a1; have HB2 := Lib.hid (below_then HB1.out (a2.mono (Nat.le_refl _))); have HG2 := Lib.hid (HG1.out.kept a2); clear a1 a2 a3)
    | ((with_reducible show wpList _ _ _ (⟨some 8, _, _, _, _, _⟩ :: _) _ _); refine wpList_loadv _ rfl 29 (.tmp 3) rfl 5 (by kernel_rfl) w.heap.size 0 Kx.cells rfl (BL.all HG2.out) rfl ?_)
    | (go_at_call 56; refine (rkeys_any Kx w2).mono ?_; rintro e w3 ⟨rfl, b1⟩; rw [HK.out]; have HB3 := Lib.hid (below_thenB HB2.out HB2.out.size b1); have HG3 := Lib.hid (HG2.out.kept b1); have HP3 := Lib.hid (HP2.out.kept b1); have q0 := HP3.out.get (j := 0) rfl; have q1 := HP3.out.get (j := 1) rfl; clear b1)
    | (go_at_call 57; refine (rpiece_any s i w3).mono ?_; rintro e w4 ⟨rfl, b1⟩; rw [HI.out]; have HB4 := Lib.hid (below_thenB HB3.out HB3.out.size b1); have HG4 := Lib.hid (HG3.out.kept b1); have HP4 := Lib.hid (HP3.out.kept b1); clear b1 q0 q1))
        go_ret2
        exact ⟨rfl, HB4.out⟩
      · have h1 : 1099511627776 < n := by
          rw [decide_eq_true (by omega : 0 ≤ n), Bool.true_and] at h
          simpa using h
        clear hK hI h
        go_enter Tryd.func30, Tryd.ntmps30
        go_wp2_with (first
    | ((with_reducible show wpList _ _ _ (⟨some 3, _, _, _, _, _⟩ :: _) _ _); refine wpList_box _ rfl 29 (.tmp 0) rfl Kx.cells rfl ?_; intro w1 a1 a2 a3; have HG1 := Lib.hid a1; have HB1 := Lib.hid a2; clear a1 a2 a3)
    | ((with_reducible show wpList _ _ _ (⟨some 4, _, _, _, _, _⟩ :: _) _ _); refine wpList_box _ rfl 33 (.tmp 1) rfl [.string (strB s), .int .i64 i] rfl ?_; intro w2 a1 a2 a3; have HP2 := Lib.hid a1; have HB2 := Lib.hid (below_then HB1.out (a2.mono (Nat.le_refl _))); have HG2 := Lib.hid (HG1.out.kept a2); clear a1 a2 a3)
    | ((with_reducible show wpList _ _ _ (⟨some 8, _, _, _, _, _⟩ :: _) _ _); refine wpList_loadv _ rfl 29 (.tmp 3) rfl 5 (by kernel_rfl) w.heap.size 0 Kx.cells rfl (BL.all HG2.out) rfl ?_)
    | (go_at_call 56; refine (rkeys_any Kx w2).mono ?_; rintro e w3 ⟨rfl, b1⟩; rw [HK.out]; have HB3 := Lib.hid (below_thenB HB2.out HB2.out.size b1); have HG3 := Lib.hid (HG2.out.kept b1); have HP3 := Lib.hid (HP2.out.kept b1); have q0 := HP3.out.get (j := 0) rfl; have q1 := HP3.out.get (j := 1) rfl; clear b1)
    | (go_at_call 57; refine (rpiece_any s i w3).mono ?_; rintro e w4 ⟨rfl, b1⟩; rw [HI.out]; have HB4 := Lib.hid (below_thenB HB3.out HB3.out.size b1); have HG4 := Lib.hid (HG3.out.kept b1); have HP4 := Lib.hid (HP3.out.kept b1); clear b1 q0 q1))
        go_ret2
        exact ⟨rfl, HB4.out⟩
    · simp only [Bool.not_eq_true] at hI
      have HI := Lib.hid hI
      clear hK hI h
      go_enter Tryd.func30, Tryd.ntmps30
      go_wp2_with (first
    | ((with_reducible show wpList _ _ _ (⟨some 3, _, _, _, _, _⟩ :: _) _ _); refine wpList_box _ rfl 29 (.tmp 0) rfl Kx.cells rfl ?_; intro w1 a1 a2 a3; have HG1 := Lib.hid a1; have HB1 := Lib.hid a2; clear a1 a2 a3)
    | ((with_reducible show wpList _ _ _ (⟨some 4, _, _, _, _, _⟩ :: _) _ _); refine wpList_box _ rfl 33 (.tmp 1) rfl [.string (strB s), .int .i64 i] rfl ?_; intro w2 a1 a2 a3; have HP2 := Lib.hid a1; have HB2 := Lib.hid (below_then HB1.out (a2.mono (Nat.le_refl _))); have HG2 := Lib.hid (HG1.out.kept a2); clear a1 a2 a3)
    | ((with_reducible show wpList _ _ _ (⟨some 8, _, _, _, _, _⟩ :: _) _ _); refine wpList_loadv _ rfl 29 (.tmp 3) rfl 5 (by kernel_rfl) w.heap.size 0 Kx.cells rfl (BL.all HG2.out) rfl ?_)
    | (go_at_call 56; refine (rkeys_any Kx w2).mono ?_; rintro e w3 ⟨rfl, b1⟩; rw [HK.out]; have HB3 := Lib.hid (below_thenB HB2.out HB2.out.size b1); have HG3 := Lib.hid (HG2.out.kept b1); have HP3 := Lib.hid (HP2.out.kept b1); have q0 := HP3.out.get (j := 0) rfl; have q1 := HP3.out.get (j := 1) rfl; clear b1)
    | (go_at_call 57; refine (rpiece_any s i w3).mono ?_; rintro e w4 ⟨rfl, b1⟩; rw [HI.out]; have HB4 := Lib.hid (below_thenB HB3.out HB3.out.size b1); have HG4 := Lib.hid (HG3.out.kept b1); have HP4 := Lib.hid (HP3.out.kept b1); clear b1 q0 q1))
      go_ret2
      exact ⟨rfl, HB4.out⟩
  · simp only [Bool.not_eq_true] at hK
    have HK := Lib.hid hK
    clear hK h
    go_enter Tryd.func30, Tryd.ntmps30
    go_wp2_with (first
    | ((with_reducible show wpList _ _ _ (⟨some 3, _, _, _, _, _⟩ :: _) _ _); refine wpList_box _ rfl 29 (.tmp 0) rfl Kx.cells rfl ?_; intro w1 a1 a2 a3; have HG1 := Lib.hid a1; have HB1 := Lib.hid a2; clear a1 a2 a3)
    | ((with_reducible show wpList _ _ _ (⟨some 4, _, _, _, _, _⟩ :: _) _ _); refine wpList_box _ rfl 33 (.tmp 1) rfl [.string (strB s), .int .i64 i] rfl ?_; intro w2 a1 a2 a3; have HP2 := Lib.hid a1; have HB2 := Lib.hid (below_then HB1.out (a2.mono (Nat.le_refl _))); have HG2 := Lib.hid (HG1.out.kept a2); clear a1 a2 a3)
    | ((with_reducible show wpList _ _ _ (⟨some 8, _, _, _, _, _⟩ :: _) _ _); refine wpList_loadv _ rfl 29 (.tmp 3) rfl 5 (by kernel_rfl) w.heap.size 0 Kx.cells rfl (BL.all HG2.out) rfl ?_)
    | (go_at_call 56; refine (rkeys_any Kx w2).mono ?_; rintro e w3 ⟨rfl, b1⟩; rw [HK.out]; have HB3 := Lib.hid (below_thenB HB2.out HB2.out.size b1); have HG3 := Lib.hid (HG2.out.kept b1); have HP3 := Lib.hid (HP2.out.kept b1); have q0 := HP3.out.get (j := 0) rfl; have q1 := HP3.out.get (j := 1) rfl; clear b1))
    go_ret2
    exact ⟨rfl, HB3.out⟩

set_option maxRecDepth 100000 in
set_option maxHeartbeats 4000000 in
theorem rtokens_not (Kx : Ky) (s : List UInt8) (i : Int) (A : Option Addr) (m cp : Nat) (f c : Int) (w : World) (h : (okK Kx && (idB s i && (dataB m && rangeB f c))) = false) :
    Calls Tryd.prog 32 #[Kx.val, .agg #[.string (strB s), .int .i64 i], .slice A m cp, .int .i64 f, .int .i64 c] w fun e w' => e = .returned (.tuple #[.slice none 0 0, .int .i64 1]) ∧ Below w.heap.size w w' := by
  by_cases hK : okK Kx = true
  · have HK := Lib.hid hK
    by_cases hI : idB s i = true
    · have HI := Lib.hid hI
      by_cases hD : dataB m = true
      · have HD := Lib.hid hD
        rw [hK, hI, hD, Bool.true_and, Bool.true_and, Bool.true_and] at h
        have HR := Lib.hid h
        clear hK hI hD h
        go_enter Tryd.func32, Tryd.ntmps32
        go_wp2_with (first
    | ((with_reducible show wpList _ _ _ (⟨some 5, _, _, _, _, _⟩ :: _) _ _); refine wpList_box _ rfl 29 (.tmp 0) rfl Kx.cells rfl ?_; intro w1 a1 a2 a3; have HG1 := Lib.hid a1; have HB1 := Lib.hid a2; clear a1 a2 a3)
    | ((with_reducible show wpList _ _ _ (⟨some 6, _, _, _, _, _⟩ :: _) _ _); refine wpList_box _ rfl 33 (.tmp 1) rfl [.string (strB s), .int .i64 i] rfl ?_; intro w2 a1 a2 a3; have HP2 := Lib.hid a1; have HB2 := Lib.hid (below_then HB1.out (a2.mono (Nat.le_refl _))); have HG2 := Lib.hid (HG1.out.kept a2); clear a1 a2 a3)
    | ((with_reducible show wpList _ _ _ (⟨some 15, _, _, _, _, _⟩ :: _) _ _); refine wpList_loadv _ rfl 29 (.tmp 5) rfl 5 (by kernel_rfl) w.heap.size 0 Kx.cells rfl (BL.all HG2.out) rfl ?_)
    | (go_at_call 56; refine (rkeys_any Kx w2).mono ?_; rintro e w3 ⟨rfl, b1⟩; rw [HK.out]; have HB3 := Lib.hid (below_thenB HB2.out HB2.out.size b1); have HG3 := Lib.hid (HG2.out.kept b1); have HP3 := Lib.hid (HP2.out.kept b1); have q0 := HP3.out.get (j := 0) rfl; have q1 := HP3.out.get (j := 1) rfl; clear b1)
    | (go_at_call 57; refine (rpiece_any s i w3).mono ?_; rintro e w4 ⟨rfl, b1⟩; rw [HI.out]; have HB4 := Lib.hid (below_thenB HB3.out HB3.out.size b1); have HG4 := Lib.hid (HG3.out.kept b1); have HP4 := Lib.hid (HP3.out.kept b1); clear b1 q0 q1)
    | (go_at_call 59; refine (rdata_any A m cp w4).mono ?_; rintro e w' ⟨rfl, rfl⟩; rw [HD.out])
    | (go_at_call 60; refine (rnums_any f c w4).mono ?_; rintro e w' ⟨rfl, rfl⟩; rw [HR.out]))
        go_ret2
        exact ⟨rfl, HB4.out⟩
      · simp only [Bool.not_eq_true] at hD
        have HD := Lib.hid hD
        clear hK hI hD h
        go_enter Tryd.func32, Tryd.ntmps32
        go_wp2_with (first
    | ((with_reducible show wpList _ _ _ (⟨some 5, _, _, _, _, _⟩ :: _) _ _); refine wpList_box _ rfl 29 (.tmp 0) rfl Kx.cells rfl ?_; intro w1 a1 a2 a3; have HG1 := Lib.hid a1; have HB1 := Lib.hid a2; clear a1 a2 a3)
    | ((with_reducible show wpList _ _ _ (⟨some 6, _, _, _, _, _⟩ :: _) _ _); refine wpList_box _ rfl 33 (.tmp 1) rfl [.string (strB s), .int .i64 i] rfl ?_; intro w2 a1 a2 a3; have HP2 := Lib.hid a1; have HB2 := Lib.hid (below_then HB1.out (a2.mono (Nat.le_refl _))); have HG2 := Lib.hid (HG1.out.kept a2); clear a1 a2 a3)
    | ((with_reducible show wpList _ _ _ (⟨some 15, _, _, _, _, _⟩ :: _) _ _); refine wpList_loadv _ rfl 29 (.tmp 5) rfl 5 (by kernel_rfl) w.heap.size 0 Kx.cells rfl (BL.all HG2.out) rfl ?_)
    | (go_at_call 56; refine (rkeys_any Kx w2).mono ?_; rintro e w3 ⟨rfl, b1⟩; rw [HK.out]; have HB3 := Lib.hid (below_thenB HB2.out HB2.out.size b1); have HG3 := Lib.hid (HG2.out.kept b1); have HP3 := Lib.hid (HP2.out.kept b1); have q0 := HP3.out.get (j := 0) rfl; have q1 := HP3.out.get (j := 1) rfl; clear b1)
    | (go_at_call 57; refine (rpiece_any s i w3).mono ?_; rintro e w4 ⟨rfl, b1⟩; rw [HI.out]; have HB4 := Lib.hid (below_thenB HB3.out HB3.out.size b1); have HG4 := Lib.hid (HG3.out.kept b1); have HP4 := Lib.hid (HP3.out.kept b1); clear b1 q0 q1)
    | (go_at_call 59; refine (rdata_any A m cp w4).mono ?_; rintro e w' ⟨rfl, rfl⟩; rw [HD.out]))
        go_ret2
        exact ⟨rfl, HB4.out⟩
    · simp only [Bool.not_eq_true] at hI
      have HI := Lib.hid hI
      clear hK hI h
      go_enter Tryd.func32, Tryd.ntmps32
      go_wp2_with (first
    | ((with_reducible show wpList _ _ _ (⟨some 5, _, _, _, _, _⟩ :: _) _ _); refine wpList_box _ rfl 29 (.tmp 0) rfl Kx.cells rfl ?_; intro w1 a1 a2 a3; have HG1 := Lib.hid a1; have HB1 := Lib.hid a2; clear a1 a2 a3)
    | ((with_reducible show wpList _ _ _ (⟨some 6, _, _, _, _, _⟩ :: _) _ _); refine wpList_box _ rfl 33 (.tmp 1) rfl [.string (strB s), .int .i64 i] rfl ?_; intro w2 a1 a2 a3; have HP2 := Lib.hid a1; have HB2 := Lib.hid (below_then HB1.out (a2.mono (Nat.le_refl _))); have HG2 := Lib.hid (HG1.out.kept a2); clear a1 a2 a3)
    | ((with_reducible show wpList _ _ _ (⟨some 15, _, _, _, _, _⟩ :: _) _ _); refine wpList_loadv _ rfl 29 (.tmp 5) rfl 5 (by kernel_rfl) w.heap.size 0 Kx.cells rfl (BL.all HG2.out) rfl ?_)
    | (go_at_call 56; refine (rkeys_any Kx w2).mono ?_; rintro e w3 ⟨rfl, b1⟩; rw [HK.out]; have HB3 := Lib.hid (below_thenB HB2.out HB2.out.size b1); have HG3 := Lib.hid (HG2.out.kept b1); have HP3 := Lib.hid (HP2.out.kept b1); have q0 := HP3.out.get (j := 0) rfl; have q1 := HP3.out.get (j := 1) rfl; clear b1)
    | (go_at_call 57; refine (rpiece_any s i w3).mono ?_; rintro e w4 ⟨rfl, b1⟩; rw [HI.out]; have HB4 := Lib.hid (below_thenB HB3.out HB3.out.size b1); have HG4 := Lib.hid (HG3.out.kept b1); have HP4 := Lib.hid (HP3.out.kept b1); clear b1 q0 q1))
      go_ret2
      exact ⟨rfl, HB4.out⟩
  · simp only [Bool.not_eq_true] at hK
    have HK := Lib.hid hK
    clear hK h
    go_enter Tryd.func32, Tryd.ntmps32
    go_wp2_with (first
    | ((with_reducible show wpList _ _ _ (⟨some 5, _, _, _, _, _⟩ :: _) _ _); refine wpList_box _ rfl 29 (.tmp 0) rfl Kx.cells rfl ?_; intro w1 a1 a2 a3; have HG1 := Lib.hid a1; have HB1 := Lib.hid a2; clear a1 a2 a3)
    | ((with_reducible show wpList _ _ _ (⟨some 6, _, _, _, _, _⟩ :: _) _ _); refine wpList_box _ rfl 33 (.tmp 1) rfl [.string (strB s), .int .i64 i] rfl ?_; intro w2 a1 a2 a3; have HP2 := Lib.hid a1; have HB2 := Lib.hid (below_then HB1.out (a2.mono (Nat.le_refl _))); have HG2 := Lib.hid (HG1.out.kept a2); clear a1 a2 a3)
    | ((with_reducible show wpList _ _ _ (⟨some 15, _, _, _, _, _⟩ :: _) _ _); refine wpList_loadv _ rfl 29 (.tmp 5) rfl 5 (by kernel_rfl) w.heap.size 0 Kx.cells rfl (BL.all HG2.out) rfl ?_)
    | (go_at_call 56; refine (rkeys_any Kx w2).mono ?_; rintro e w3 ⟨rfl, b1⟩; rw [HK.out]; have HB3 := Lib.hid (below_thenB HB2.out HB2.out.size b1); have HG3 := Lib.hid (HG2.out.kept b1); have HP3 := Lib.hid (HP2.out.kept b1); have q0 := HP3.out.get (j := 0) rfl; have q1 := HP3.out.get (j := 1) rfl; clear b1))
    go_ret2
    exact ⟨rfl, HB3.out⟩

theorem ranswer_no (k : List UInt8) (A : Option Addr) (n c : Nat) (w : World) (h : (decide (k.length = 32) && dataB n) = false) :
    Calls Tryd.prog 31 #[.string (strB k), .slice A n c] w fun e w' => e = .returned (.tuple #[.string (strB []), .int .i64 1]) ∧ Below w.heap.size w w' := by
  by_cases h32 : k.length = 32
  · have h1 : (((strB k).size : Int) != 32) = false := by rw [strB_size, h32]; rfl
    rw [decide_eq_true h32, Bool.true_and] at h
    have HD := Lib.hid h
    clear h32 h
    go_enter Tryd.func31, Tryd.ntmps31
    go_wp2_with (go_at_call 59; refine (rdata_any A n c w).mono ?_; rintro e w' ⟨rfl, rfl⟩; rw [HD.out])
    go_ret2
    exact ⟨rfl, Below.refl _ _⟩
  · have h1 : (((strB k).size : Int) != 32) = true := by rw [strB_size]; simp only [bne_iff_ne, ne_eq]; omega
    clear h32 h
    go_enter Tryd.func31, Tryd.ntmps31
    go_wp2_with fail
    go_ret2
    exact ⟨rfl, Below.refl _ _⟩
theorem ranswer_yes (k : List UInt8) (A : Option Addr) (n c : Nat) (l : List UInt8) (w : World) (hl : BS w A n c l) (h32 : k.length = 32) (hd : dataB n = true) :
    Calls Tryd.prog 31 #[.string (strB k), .slice A n c] w fun e w' => e = .returned (.tuple #[.string (strB (tagL k l)), .int .i64 0]) ∧ Below w.heap.size w w' := by
  have h1 : (((strB k).size : Int) != 32) = false := by rw [strB_size, h32]; rfl
  have HD := Lib.hid hd
  have H := Lib.hid hl
  have H32 := Lib.hid h32
  have HN : Hid (n ≤ 1000000) := Lib.hid (by simp only [dataB, Bool.and_eq_true, decide_eq_true_eq] at hd; omega)
  obtain ⟨R, hR⟩ : ∃ R, R = tagL k l := ⟨_, rfl⟩
  have HR := Lib.hid hR
  rw [← hR]
  clear h32 hd hl hR
  go_enter Tryd.func31, Tryd.ntmps31
  go_wp2_with (first
    | (go_at_call 59; refine (rdata_any A n c w).mono ?_; rintro e w' ⟨rfl, rfl⟩; rw [HD.out])
    | (go_at_call 51; refine (rtag_any A n c k l w H.out (by rw [H32.out]; decide) HN.out).mono ?_; rintro e w' ⟨rfl, b1⟩; rw [← HR.out]))
  go_ret2
  exact ⟨rfl, b1⟩
end Go.Proofs.YtgjgofjabdjclaaDoor
