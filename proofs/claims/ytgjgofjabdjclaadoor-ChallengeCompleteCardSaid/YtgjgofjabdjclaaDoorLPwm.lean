/- The law ChallengeProves: its walk, last part. -/
import Derived.Test.YtgjgofjabdjclaaDoorLPvsm
namespace Go.Proofs.YtgjgofjabdjclaaDoor
open Go Go.RowKit Gf Sha

set_option maxRecDepth 100000 in
set_option maxHeartbeats 8000000 in
theorem proves_walk (A : Option Addr) (n cp : Nat) (x : List UInt8) (size : Int) (nl : List UInt8) (c : Int) (w : World) (hT : Tabs w) (hx : BS w A n cp x) (ws : (Lit.int .i64 size).wf = true) :
    Calls Tryd.prog 10 #[.slice A n cp, .int .i64 size, .string (strB nl), .int .i64 c] w fun e w' => e = .returned (.bool true) ∧ Below w.heap.size w w' := by
  have HT := Lib.hid hT
  have HX := Lib.hid hx
  have HW := Lib.hid ws
  have hnl := hx.len_le
  clear hT hx ws
  by_cases g1 : 300 < n
  · have d1 : decide ((300 : Int) < (n : Int)) = true := decide_eq_true (by omega)
    clear g1
    go_enter Tryd.func10, Tryd.ntmps10
    go_wp2_with (first
      | (go_at_call 12; (with_reducible show Calls _ _ _ w _); refine (awake_any w HT.out).mono ?_; rintro e w1 ⟨rfl, b1⟩; have HB1 := Lib.hid b1; clear b1)
      | (go_at_call 12; refine (awake_any w1 (HT.out.kept HB1.out)).mono ?_; rintro e w2 ⟨rfl, b1⟩; have HB2 := Lib.hid (below_then HB1.out b1); clear b1))
    go_ret
    exact ⟨rfl, HB2.out⟩
  have d1 : decide ((300 : Int) < (n : Int)) = false := decide_eq_false (by omega)
  have hn3 : n ≤ 300 := by omega
  clear g1
  obtain ⟨d, hdd⟩ : ∃ d : Nat, d = n / 20 := ⟨_, rfl⟩
  have hD : (n : Int).tdiv 20 = (d : Int) := by rw [hdd]; rfl
  have wD := wrapI d (by omega)
  have HD := Lib.hid hD
  clear hdd
  by_cases g4 : 0 < size
  · have dz : decide ((0 : Int) < size) = true := decide_eq_true g4
    by_cases g5 : size ≤ (d : Int)
    · have d5 : decide (size ≤ (d : Int)) = true := decide_eq_true g5
      clear g4 g5
      go_enter Tryd.func10, Tryd.ntmps10
      go_wp2_with (first
        | (go_at_call 12; (with_reducible show Calls _ _ _ w _); refine (awake_any w HT.out).mono ?_; rintro e w1 ⟨rfl, b1⟩; have HB1 := Lib.hid b1; clear b1)
        | (go_at_call 12; refine (awake_any w1 (HT.out.kept HB1.out)).mono ?_; rintro e w2 ⟨rfl, b1⟩; have HB2 := Lib.hid (below_then HB1.out b1); clear b1))
      go_ret
      exact ⟨rfl, HB2.out⟩
    · have d5 : decide (size ≤ (d : Int)) = false := decide_eq_false g5
      have HBO : Hid (¬ (0 < size ∧ size ≤ (n : Int).tdiv 20)) := Lib.hid (fun h => g5 (by rw [← hD]; exact h.2))
      clear g4 g5
      by_cases g2 : (64 : Int) < ((strB nl).size : Int)
      · have d2 : decide ((64 : Int) < ((strB nl).size : Int)) = true := decide_eq_true g2
        clear g2
        go_enter Tryd.func10, Tryd.ntmps10
        go_wp2_with (first
          | (go_at_call 12; (with_reducible show Calls _ _ _ w _); refine (awake_any w HT.out).mono ?_; rintro e w1 ⟨rfl, b1⟩; have HB1 := Lib.hid b1; clear b1)
          | (go_at_call 12; refine (awake_any w1 (HT.out.kept HB1.out)).mono ?_; rintro e w2 ⟨rfl, b1⟩; have HB2 := Lib.hid (below_then HB1.out b1); clear b1))
        go_ret
        exact ⟨rfl, HB2.out⟩
      have d2 : decide ((64 : Int) < ((strB nl).size : Int)) = false := decide_eq_false g2
      clear g2
      obtain ⟨L, er, hL64, hc1, hc2, _⟩ := prove_both n size c x nl hn3 HX.out.1 HW.out HBO.out
      have HC1 := Lib.hid hc1
      have HC2 := Lib.hid hc2
      have ee : (er != er) = false := by simp
      obtain ⟨N, hN⟩ : ∃ N, N = L.length := ⟨_, rfl⟩
      have HNL := Lib.hid hN.symm
      rw [← hN] at hL64
      have e1 : ((N : Int) != (N : Int)) = false := by simp
      have hN0 : 0 ≤ (N : Int) := by omega
      clear hc1 hc2 hN hn3
      go_enter Tryd.func10, Tryd.ntmps10
      go_wp2_with (first
        | (go_at_call 12; (with_reducible show Calls _ _ _ w _); refine (awake_any w HT.out).mono ?_; rintro e w1 ⟨rfl, b1⟩; have HB1 := Lib.hid b1; clear b1)
        | (go_at_call 37; refine (HC1.out A cp w1 (HX.out.kept HB1.out) (HT.out.kept HB1.out)).mono ?_; rintro e w2 ⟨A2, c2, rfl, l2, b1⟩; rw [HNL.out] at l2; rw [HNL.out]; have HL2 := Lib.hid l2; have HB2 := Lib.hid (below_then HB1.out b1); clear b1 l2)
        | (go_at_call 38; refine (HC2.out A cp w2 (HX.out.kept HB2.out) (HT.out.kept HB2.out)).mono ?_; rintro e w3 ⟨A3, c3, rfl, l3, b1⟩; rw [HNL.out] at l3; rw [HNL.out]; have HL3 := Lib.hid l3; have HL2' := Lib.hid (HL2.out.kept stay_pf b1); have HB3 := Lib.hid (below_then HB2.out b1); clear b1 l3))
      go_loopw [66] (fun iv wr => ∃ k : Nat, k ≤ N ∧ iv = .int .i64 (k : Int) ∧ Hid (Below w3.heap.size w3 wr)) (fun iv _ => N - (intOf iv).toNat)
      case atStart => exact ⟨0, by omega, rfl, Lib.hid (Below.refl _ _)⟩
      case round =>
        obtain ⟨k, hk, rfl, hb⟩ := hrel
        obtain ⟨wx, hwx⟩ : ∃ x, x = wr := ⟨_, rfl⟩
        rw [← hwx] at hb ⊢
        clear hwx
        have HBx := Lib.hid (below_thenB HB3.out HB3.out.size hb.out)
        by_cases hlt : k < N
        · obtain ⟨p, g1, o1, cs1, hp, rfl, hat1, A4, n4, c4, A5, n5, c5, rfl, hb4, hb5⟩ := HL2'.out.at_ stay_pf hb.out hlt
          obtain ⟨p', g2, o2, cs2, hp', rfl, hat2, A6, n6, c6, A7, n7, c7, rfl, hb6, hb7⟩ := HL3.out.at_ stay_pf hb.out hlt
          obtain rfl : p = p' := by rw [hp] at hp'; exact Option.some.inj hp'
          obtain rfl : n6 = n4 := hb6.1.symm.trans hb4.1
          obtain rfl : n7 = n5 := hb7.1.symm.trans hb5.1
          have q0 := hat1.get (j := 0) rfl rfl
          have q1 := hat1.get (j := 1) rfl rfl
          have q2 := hat1.get (j := 2) rfl rfl
          have r0 := hat2.get (j := 0) rfl rfl
          have r1 := hat2.get (j := 1) rfl rfl
          have r2 := hat2.get (j := 2) rfl rfl
          simp only [Nat.add_zero] at q0 r0
          have cv1 := conv_str hb4.drew
          have cv2 := conv_str hb6.drew
          have H5 := Lib.hid hb5
          have H7 := Lib.hid hb7
          have ez : (p.b != p.b) = false := by simp
          have es : ((strB p.x).toList != (strB p.x).toList) = false := by simp
          clear hp hp' hat1 hat2 hb4 hb5 hb6 hb7
          go_wp2_with fail
          refine Text.wp_region_text (fun _ => True) [(0, 4), (1, 4), (2, 4), (3, 4), (5, 4), (6, 4), (7, 4), (8, 4), (4, 1), (9, 1), (10, 4), (11, 4), (12, 4), (13, 4), (14, 4), (15, 4), (18, 4), (19, 4), (20, 4), (21, 4), (16, 1), (17, 1), (22, 1), (23, 1), (24, 4), (25, 4), (26, 4), (27, 4), (28, 4), (29, 4), (30, 4), (32, 4), (33, 4), (34, 4), (35, 4), (31, 1), (36, 1), (37, 2), (38, 4), (39, 4)] (by kernel_rfl) (by kernel_rfl) (fun _ _ _ _ _ h => h) (trivial) ?_
          iterate 8 (refine Text.purek rfl rfl (fun K hK => ⟨_, fun w' => by go_simp <;> rfl, ?_⟩); go_simp; refine hK _ ?_; clear hK K)
          iterate 2 (refine Text.readk rfl rfl (fun K hK => ⟨_, by go_simp <;> rfl, ?_⟩); go_simp; refine hK _ ?_; clear hK K)
          iterate 10 (refine Text.purek rfl rfl (fun K hK => ⟨_, fun w' => by go_simp <;> rfl, ?_⟩); go_simp; refine hK _ ?_; clear hK K)
          iterate 4 (refine Text.readk rfl rfl (fun K hK => ⟨_, by go_simp <;> rfl, ?_⟩); go_simp; refine hK _ ?_; clear hK K)
          iterate 11 (refine Text.purek rfl rfl (fun K hK => ⟨_, fun w' => by go_simp <;> rfl, ?_⟩); go_simp; refine hK _ ?_; clear hK K)
          iterate 2 (refine Text.readk rfl rfl (fun K hK => ⟨_, by go_simp <;> rfl, ?_⟩); go_simp; refine hK _ ?_; clear hK K)
          refine Text.effw rfl rfl (fun K hK => ?_)
          go_simp
          refine (texts_any A5 A7 n7 c5 c7 p.m _ H5.out.drew H7.out.drew).mono ?_
          rintro e w8 ⟨rfl, b8⟩
          have HX8 : Hid (Below w3.heap.size w3 w8) := Lib.hid (below_thenB hb.out hb.out.size (below_ofDrew b8))
          refine hK _ _ trivial ?_
          clear hK K b8
          iterate 2 (refine Text.purek rfl rfl (fun K hK => ⟨_, fun w' => by go_simp <;> rfl, ?_⟩); go_simp; refine hK _ ?_; clear hK K)
          refine Text.done ?_
          go_wp2_with fail
          go_roundw
          case rel => exact ⟨k + 1, by omega, by go_num, HX8⟩
          case measure => simp [intOf]; omega
        · obtain rfl : k = N := by omega
          go_wp2_with fail
          go_ret
          exact ⟨rfl, HBx.out⟩
  · have dz : decide ((0 : Int) < size) = false := decide_eq_false g4
    have HBO : Hid (¬ (0 < size ∧ size ≤ (n : Int).tdiv 20)) := Lib.hid (fun h => g4 h.1)
    clear g4
    by_cases g2 : (64 : Int) < ((strB nl).size : Int)
    · have d2 : decide ((64 : Int) < ((strB nl).size : Int)) = true := decide_eq_true g2
      clear g2
      go_enter Tryd.func10, Tryd.ntmps10
      go_wp2_with (first
        | (go_at_call 12; (with_reducible show Calls _ _ _ w _); refine (awake_any w HT.out).mono ?_; rintro e w1 ⟨rfl, b1⟩; have HB1 := Lib.hid b1; clear b1)
        | (go_at_call 12; refine (awake_any w1 (HT.out.kept HB1.out)).mono ?_; rintro e w2 ⟨rfl, b1⟩; have HB2 := Lib.hid (below_then HB1.out b1); clear b1))
      go_ret
      exact ⟨rfl, HB2.out⟩
    have d2 : decide ((64 : Int) < ((strB nl).size : Int)) = false := decide_eq_false g2
    clear g2
    obtain ⟨L, er, hL64, hc1, hc2, _⟩ := prove_both n size c x nl hn3 HX.out.1 HW.out HBO.out
    have HC1 := Lib.hid hc1
    have HC2 := Lib.hid hc2
    have ee : (er != er) = false := by simp
    obtain ⟨N, hN⟩ : ∃ N, N = L.length := ⟨_, rfl⟩
    have HNL := Lib.hid hN.symm
    rw [← hN] at hL64
    have e1 : ((N : Int) != (N : Int)) = false := by simp
    have hN0 : 0 ≤ (N : Int) := by omega
    clear hc1 hc2 hN hn3
    go_enter Tryd.func10, Tryd.ntmps10
    go_wp2_with (first
      | (go_at_call 12; (with_reducible show Calls _ _ _ w _); refine (awake_any w HT.out).mono ?_; rintro e w1 ⟨rfl, b1⟩; have HB1 := Lib.hid b1; clear b1)
      | (go_at_call 37; refine (HC1.out A cp w1 (HX.out.kept HB1.out) (HT.out.kept HB1.out)).mono ?_; rintro e w2 ⟨A2, c2, rfl, l2, b1⟩; rw [HNL.out] at l2; rw [HNL.out]; have HL2 := Lib.hid l2; have HB2 := Lib.hid (below_then HB1.out b1); clear b1 l2)
      | (go_at_call 38; refine (HC2.out A cp w2 (HX.out.kept HB2.out) (HT.out.kept HB2.out)).mono ?_; rintro e w3 ⟨A3, c3, rfl, l3, b1⟩; rw [HNL.out] at l3; rw [HNL.out]; have HL3 := Lib.hid l3; have HL2' := Lib.hid (HL2.out.kept stay_pf b1); have HB3 := Lib.hid (below_then HB2.out b1); clear b1 l3))
    go_loopw [66] (fun iv wr => ∃ k : Nat, k ≤ N ∧ iv = .int .i64 (k : Int) ∧ Hid (Below w3.heap.size w3 wr)) (fun iv _ => N - (intOf iv).toNat)
    case atStart => exact ⟨0, by omega, rfl, Lib.hid (Below.refl _ _)⟩
    case round =>
      obtain ⟨k, hk, rfl, hb⟩ := hrel
      obtain ⟨wx, hwx⟩ : ∃ x, x = wr := ⟨_, rfl⟩
      rw [← hwx] at hb ⊢
      clear hwx
      have HBx := Lib.hid (below_thenB HB3.out HB3.out.size hb.out)
      by_cases hlt : k < N
      · obtain ⟨p, g1, o1, cs1, hp, rfl, hat1, A4, n4, c4, A5, n5, c5, rfl, hb4, hb5⟩ := HL2'.out.at_ stay_pf hb.out hlt
        obtain ⟨p', g2, o2, cs2, hp', rfl, hat2, A6, n6, c6, A7, n7, c7, rfl, hb6, hb7⟩ := HL3.out.at_ stay_pf hb.out hlt
        obtain rfl : p = p' := by rw [hp] at hp'; exact Option.some.inj hp'
        obtain rfl : n6 = n4 := hb6.1.symm.trans hb4.1
        obtain rfl : n7 = n5 := hb7.1.symm.trans hb5.1
        have q0 := hat1.get (j := 0) rfl rfl
        have q1 := hat1.get (j := 1) rfl rfl
        have q2 := hat1.get (j := 2) rfl rfl
        have r0 := hat2.get (j := 0) rfl rfl
        have r1 := hat2.get (j := 1) rfl rfl
        have r2 := hat2.get (j := 2) rfl rfl
        simp only [Nat.add_zero] at q0 r0
        have cv1 := conv_str hb4.drew
        have cv2 := conv_str hb6.drew
        have H5 := Lib.hid hb5
        have H7 := Lib.hid hb7
        have ez : (p.b != p.b) = false := by simp
        have es : ((strB p.x).toList != (strB p.x).toList) = false := by simp
        clear hp hp' hat1 hat2 hb4 hb5 hb6 hb7
        go_wp2_with fail
        refine Text.wp_region_text (fun _ => True) [(0, 4), (1, 4), (2, 4), (3, 4), (5, 4), (6, 4), (7, 4), (8, 4), (4, 1), (9, 1), (10, 4), (11, 4), (12, 4), (13, 4), (14, 4), (15, 4), (18, 4), (19, 4), (20, 4), (21, 4), (16, 1), (17, 1), (22, 1), (23, 1), (24, 4), (25, 4), (26, 4), (27, 4), (28, 4), (29, 4), (30, 4), (32, 4), (33, 4), (34, 4), (35, 4), (31, 1), (36, 1), (37, 2), (38, 4), (39, 4)] (by kernel_rfl) (by kernel_rfl) (fun _ _ _ _ _ h => h) (trivial) ?_
        iterate 8 (refine Text.purek rfl rfl (fun K hK => ⟨_, fun w' => by go_simp <;> rfl, ?_⟩); go_simp; refine hK _ ?_; clear hK K)
        iterate 2 (refine Text.readk rfl rfl (fun K hK => ⟨_, by go_simp <;> rfl, ?_⟩); go_simp; refine hK _ ?_; clear hK K)
        iterate 10 (refine Text.purek rfl rfl (fun K hK => ⟨_, fun w' => by go_simp <;> rfl, ?_⟩); go_simp; refine hK _ ?_; clear hK K)
        iterate 4 (refine Text.readk rfl rfl (fun K hK => ⟨_, by go_simp <;> rfl, ?_⟩); go_simp; refine hK _ ?_; clear hK K)
        iterate 11 (refine Text.purek rfl rfl (fun K hK => ⟨_, fun w' => by go_simp <;> rfl, ?_⟩); go_simp; refine hK _ ?_; clear hK K)
        iterate 2 (refine Text.readk rfl rfl (fun K hK => ⟨_, by go_simp <;> rfl, ?_⟩); go_simp; refine hK _ ?_; clear hK K)
        refine Text.effw rfl rfl (fun K hK => ?_)
        go_simp
        refine (texts_any A5 A7 n7 c5 c7 p.m _ H5.out.drew H7.out.drew).mono ?_
        rintro e w8 ⟨rfl, b8⟩
        have HX8 : Hid (Below w3.heap.size w3 w8) := Lib.hid (below_thenB hb.out hb.out.size (below_ofDrew b8))
        refine hK _ _ trivial ?_
        clear hK K b8
        iterate 2 (refine Text.purek rfl rfl (fun K hK => ⟨_, fun w' => by go_simp <;> rfl, ?_⟩); go_simp; refine hK _ ?_; clear hK K)
        refine Text.done ?_
        go_wp2_with fail
        go_roundw
        case rel => exact ⟨k + 1, by omega, by go_num, HX8⟩
        case measure => simp [intOf]; omega
      · obtain rfl : k = N := by omega
        go_wp2_with fail
        go_ret
        exact ⟨rfl, HBx.out⟩
end Go.Proofs.YtgjgofjabdjclaaDoor
