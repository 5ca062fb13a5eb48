/- The walk of EpochBodies. -/
import Derived.Test.YtfonbliomokffaaGreatTrm
import Derived.Test.YtfonbliomokffaaGreatTsm
import Derived.Test.YtfonbliomokffaaGreatLUnm
import Derived.Deep.DeepCutAuto
namespace Go.Proofs.YtfonbliomokffaaGreat
open Go Go.RowKit Gf Sha

theorem bldRpZ (w : World) : (Instr.build 40 #[]).run Tryz.prog w = .ok (.agg ppZ.toArray) w := by kernel_rfl
theorem drV_yes {x : En} {D S : Nat} (h : isRep x = true) (h2 : drefS x.body = (D, S, true)) : drV x = #[.int .i64 (D : Int), .int .i64 (S : Int), .int .i64 0] := by
  unfold drV; rw [dref_yes h (by rw [h2]), h2]
theorem drV_no {x : En} {D S : Nat} (h : isRep x = true) (h2 : drefS x.body = (D, S, false)) : drV x = #[.int .i64 0, .int .i64 0, .int .i64 3] := by
  unfold drV; rw [dref_no h (by rw [h2]), h]; rfl
theorem dec_kind {x : En} (h : ¬ x.kind = 3) : decM x = none := by rw [decM, if_neg h]
/-- What the reference's Decode hands back, in any case. -/
theorem rdec_form {x : En} {w w' : World} {e : Ending} (h : RDecR x w e w') : ∃ (cs : List Value) (b : Bool), e = .returned (.tuple #[.agg cs.toArray, .bool b]) ∧ cs.length = 5 ∧ (∀ u ∈ cs, u.oneCell' = true) ∧ Below w.heap.size w w' := by
  obtain ⟨h1, h2, h3⟩ := h
  cases hd : drecS x with
  | some p =>
    obtain ⟨cs, e1, ⟨⟨A1, n1, c1, A2, n2, c2, rfl, _⟩, _⟩⟩ := h1 p hd
    exact ⟨_, true, e1, rfl, one_pp _ _ _ _ _ _ _, h3⟩
  | none =>
    obtain ⟨cs, e1, e2, e3⟩ := h2 hd
    exact ⟨cs, false, e1, e2, e3, h3⟩
theorem encp_all (cs : List Value) (p : Pp) (w : World) (h : rPp w cs p) :
    Calls Tryz.prog 27 #[.agg cs.toArray] w fun e w' => ∃ A n c z l, e = .returned (.tuple #[.slice A n c, .int .i64 z]) ∧ BS w' A n c l ∧ (validB p = true → z = 0 ∧ l = bodyL p) ∧ (validB p = false → z = 1 ∧ n = 0) ∧ Below w.heap.size w w' := by
  cases hv : validB p with
  | true => exact (encp_ok cs p w h hv).mono fun e w' ⟨A, n, c, e1, e2, e3⟩ => ⟨A, n, c, 0, _, e1, e2, fun _ => ⟨rfl, rfl⟩, fun h => (by cases h), e3⟩
  | false => exact (encp_bad cs p w h hv).mono fun e w' ⟨e1, e3⟩ => ⟨none, 0, 0, 1, [], e1, BS.nil, fun h => (by cases h), fun _ => ⟨rfl, rfl⟩, e3⟩
theorem encr_all (cs : List Value) (p : Pp) (w : World) (h : rPp w cs p) :
    Calls Tryz.prog 29 #[.agg cs.toArray] w fun e w' => ∃ A n c z l, e = .returned (.tuple #[.slice A n c, .int .i64 z]) ∧ BS w' A n c l ∧ (validB p = true → z = 0 ∧ l = rbL p) ∧ (validB p = false → z = 1 ∧ n = 0) ∧ Below w.heap.size w w' := by
  cases hv : validB p with
  | true => exact (encr_ok cs p w h hv).mono fun e w' ⟨A, n, c, e1, e2, e3⟩ => ⟨A, n, c, 0, _, e1, e2, fun _ => ⟨rfl, rfl⟩, fun h => (by cases h), e3⟩
  | false => exact (encr_bad cs p w h hv).mono fun e w' ⟨e1, e3⟩ => ⟨none, 0, 0, 1, [], e1, BS.nil, fun h => (by cases h), fun _ => ⟨rfl, rfl⟩, e3⟩
theorem not_rep3' {x : En} (h : x.kind = 3) : isRep x = false := by rw [isRep, h]; rfl
section
set_option maxRecDepth 100000
set_option maxHeartbeats 8000000
theorem bodies_walk (cs : List Value) (p : Pp) (ds : List Value) (x : En) (w : World) (hp : rPp w cs p) (hx : rEn w ds x) :
    Calls Tryz.prog 8 #[.agg cs.toArray, .agg ds.toArray] w fun e w' => e = .returned (.bool true) ∧ Below w.heap.size w w' := by
  have HRP := Lib.hid hp
  have HRX := Lib.hid hx
  obtain ⟨A1, n1, c1, A2, n2, c2, rfl, hl1, hl2, _⟩ := hp
  obtain ⟨A, n, c, rfl, hbs, hw1, hw2, _⟩ := hx
  have HBS := Lib.hid hbs
  have HW1 := Lib.hid hw1
  have HW2 := Lib.hid hw2
  have hn1 := hl1.len_le
  have hn2 := hl2.len_le
  have hn := hbs.len_le
  clear hl1 hl2 hbs hw1 hw2
  go_enter Tryz.func8, Tryz.ntmps8
  obtain ⟨Z, hZ⟩ : ∃ Z, Z = (decide (20 < n1) || ((decide (10 < n2) && decide (n2 ≤ 1024)) || decide (1000 < n))) := ⟨_, rfl⟩
  have HZ := Lib.hid hZ
  clear hZ
  go_upto_region 3 with (first
    | ((with_reducible show wpList _ _ _ (⟨some 2, _, _, _, _, _⟩ :: _) _ _); (refine wpList_box _ rfl 40 (.tmp 0) rfl (ppC p A1 n1 c1 A2 n2 c2) rfl ?_; intro w1 y1 y2 y3; have HP1 := Lib.hid y1; have HB1 := Lib.hid y2; clear y1 y2 y3))
    | ((with_reducible show wpList _ _ _ (⟨some 3, _, _, _, _, _⟩ :: _) _ _); (refine wpList_box _ rfl 33 (.tmp 1) rfl (enC x A n c) rfl ?_; intro w2 y1 y2 y3; have HX2 := Lib.hid y1; have HP2 := Lib.hid (HP1.out.kept y2); have HB2 := Lib.hid (below_then HB1.out y2); clear y1 y2 y3))
    | (go_at_call 9; refine (awake_any _).mono ?_; rintro e w3 ⟨rfl, b1⟩; have HP3 := Lib.hid (HP2.out.kept b1); have HX3 := Lib.hid (HX2.out.kept b1); have HB3 := Lib.hid (below_then HB2.out b1); clear b1)
    | fail)
  go_cut [42] (fun s42 wx => s42 = .bool Z ∧ Hid (BL wx w.heap.size 40 (ppC p A1 n1 c1 A2 n2 c2)) ∧ Hid (BL wx w1.heap.size 33 (enC x A n c)) ∧ Hid (Below w.heap.size w wx))
  case first => as_aux_lemma =>
    have q3 := HP3.out.get (j := 3) rfl
    have q4 := HP3.out.get (j := 4) rfl
    have qb := HX3.out.get (j := 4) rfl
    by_cases h1 : 20 < n1
    · have g1 : decide (20 < n1) = true := decide_eq_true h1
      have g1' : decide ((20 : Int) < (n1 : Int)) = true := decide_eq_true (by omega)
      clear h1
      go_wp2_with fail
      go_meet
      exact ⟨by rw [HZ.out, g1]; rfl, HP3, HX3, HB3⟩
    have g1 : decide (20 < n1) = false := decide_eq_false h1
    have g1' : decide ((20 : Int) < (n1 : Int)) = false := decide_eq_false (by omega)
    clear h1
    by_cases h4 : 1000 < n
    · have g4 : decide (1000 < n) = true := decide_eq_true h4
      have g4' : decide ((1000 : Int) < (n : Int)) = true := decide_eq_true (by omega)
      clear h4
      by_cases h2 : 10 < n2
      · have g2 : decide (10 < n2) = true := decide_eq_true h2
        have g2' : decide ((10 : Int) < (n2 : Int)) = true := decide_eq_true (by omega)
        clear h2
        by_cases h3 : n2 ≤ 1024
        · have g3 : decide (n2 ≤ 1024) = true := decide_eq_true h3
          have g3' : decide ((n2 : Int) ≤ (1024 : Int)) = true := decide_eq_true (by omega)
          clear h3
          go_wp2_with fail
          go_meet
          exact ⟨by rw [HZ.out, g1, g2, g3]; rfl, HP3, HX3, HB3⟩
        · have g3 : decide (n2 ≤ 1024) = false := decide_eq_false h3
          have g3' : decide ((n2 : Int) ≤ (1024 : Int)) = false := decide_eq_false (by omega)
          clear h3
          go_wp2_with fail
          go_meet
          exact ⟨by rw [HZ.out, g1, g2, g3, g4]; rfl, HP3, HX3, HB3⟩
      · have g2 : decide (10 < n2) = false := decide_eq_false h2
        have g2' : decide ((10 : Int) < (n2 : Int)) = false := decide_eq_false (by omega)
        clear h2
        go_wp2_with fail
        go_meet
        exact ⟨by rw [HZ.out, g1, g2, g4]; rfl, HP3, HX3, HB3⟩
    · have g4 : decide (1000 < n) = false := decide_eq_false h4
      have g4' : decide ((1000 : Int) < (n : Int)) = false := decide_eq_false (by omega)
      clear h4
      by_cases h2 : 10 < n2
      · have g2 : decide (10 < n2) = true := decide_eq_true h2
        have g2' : decide ((10 : Int) < (n2 : Int)) = true := decide_eq_true (by omega)
        clear h2
        by_cases h3 : n2 ≤ 1024
        · have g3 : decide (n2 ≤ 1024) = true := decide_eq_true h3
          have g3' : decide ((n2 : Int) ≤ (1024 : Int)) = true := decide_eq_true (by omega)
          clear h3
          go_wp2_with fail
          go_meet
          exact ⟨by rw [HZ.out, g1, g2, g3]; rfl, HP3, HX3, HB3⟩
        · have g3 : decide (n2 ≤ 1024) = false := decide_eq_false h3
          have g3' : decide ((n2 : Int) ≤ (1024 : Int)) = false := decide_eq_false (by omega)
          clear h3
          go_wp2_with fail
          go_meet
          exact ⟨by rw [HZ.out, g1, g2, g3, g4]; rfl, HP3, HX3, HB3⟩
      · have g2 : decide (10 < n2) = false := decide_eq_false h2
        have g2' : decide ((10 : Int) < (n2 : Int)) = false := decide_eq_false (by omega)
        clear h2
        go_wp2_with fail
        go_meet
        exact ⟨by rw [HZ.out, g1, g2, g4]; rfl, HP3, HX3, HB3⟩
  case rest =>
  obtain ⟨rfl, HPc, HXc, HBc⟩ := hcut
  cases Z with
  | true =>
    go_wp2_with fail
    go_ret
    exact ⟨rfl, HBc.out⟩
  | false =>
    obtain ⟨wd, hwd⟩ : ∃ z, z = wc := ⟨_, rfl⟩
    rw [← hwd] at HPc HXc HBc ⊢
    clear hwd
    have HPd := HPc
    have HXd := HXc
    have HBd := HBc
    clear HPc HXc HBc
    go_upto_region 7 with (first
      | ((with_reducible show wpList _ _ _ (⟨some 44, _, _, _, _, _⟩ :: _) _ _); refine wpList_loadv _ rfl 40 (.tmp 2) rfl 5 (by kernel_rfl) w.heap.size 0 (ppC p A1 n1 c1 A2 n2 c2) rfl (BL.all HPd.out) rfl ?_)
      | (go_at_call 28; (with_reducible show Calls _ _ _ wd _); refine (to_any _ p wd (stay_pp _ _ _ _ HRP.out HBd.out)).mono ?_; rintro e w4 ⟨rfl, b1⟩; have HP4 := Lib.hid (HPd.out.kept b1); have HX4 := Lib.hid (HXd.out.kept b1); have HB4 := Lib.hid (below_then HBd.out b1); clear b1)
      | (go_at_call 27; refine (encp_all _ p w4 (stay_pp _ _ _ _ HRP.out HB4.out)).mono ?_; rintro e w5 ⟨A5, n5, c5, z5, l5, rfl, x1, x2, x3, b1⟩; have HS5 := Lib.hid x1; have HY5 := Lib.hid x2; have HZ5 := Lib.hid x3; have HP5 := Lib.hid (HP4.out.kept b1); have HX5 := Lib.hid (HX4.out.kept b1); have HB5 := Lib.hid (below_then HB4.out b1); clear b1 x1 x2 x3)
      | ((with_reducible show wpList _ _ _ (⟨some 50, _, _, _, _, _⟩ :: _) _ _); refine wpList_loadv _ rfl 40 (.tmp 2) rfl 5 (by kernel_rfl) w.heap.size 0 (ppC p A1 n1 c1 A2 n2 c2) rfl (BL.all HP5.out) rfl ?_)
      | (go_at_call 28; (with_reducible show Calls _ _ _ w5 _); refine (to_any _ p w5 (stay_pp _ _ _ _ HRP.out HB5.out)).mono ?_; rintro e w6 ⟨rfl, b1⟩; have HP6 := Lib.hid (HP5.out.kept b1); have HX6 := Lib.hid (HX5.out.kept b1); have HB6 := Lib.hid (below_then HB5.out b1); have HF6 := Lib.hid b1; clear b1)
      | (go_at_call 29; refine (encr_all _ p w6 (stay_pp _ _ _ _ HRP.out HB6.out)).mono ?_; rintro e w7 ⟨A7, n7, c7, z7, l7, rfl, x1, x2, x3, b1⟩; have HS7 := Lib.hid x1; have HY7 := Lib.hid x2; have HZ7 := Lib.hid x3; have HP7 := Lib.hid (HP6.out.kept b1); have HX7 := Lib.hid (HX6.out.kept b1); have HB7 := Lib.hid (below_then HB6.out b1); have HF7 := Lib.hid (below_then HF6.out b1); clear b1 x1 x2 x3)
      | fail)
    cases hv : validB p with
    | false =>
      obtain ⟨e1, e2⟩ := HZ5.out hv
      obtain ⟨e3, e4⟩ := HZ7.out hv
      subst e1 e2 e3 e4
      go_upto_region 12 with (first
        | ((with_reducible show wpList _ _ _ (⟨some 55, _, _, _, _, _⟩ :: _) _ _); refine wpList_loadv _ rfl 40 (.tmp 2) rfl 5 (by kernel_rfl) w.heap.size 0 (ppC p A1 n1 c1 A2 n2 c2) rfl (BL.all HP7.out) rfl ?_)
        | (go_at_call 30; refine (rvalid_any _ p w7 (stay_pp _ _ _ _ HRP.out HB7.out)).mono ?_; rintro e w8 ⟨rfl, b1⟩; rw [hv]; have HP8 := Lib.hid (HP7.out.kept b1); have HX8 := Lib.hid (HX7.out.kept b1); have HB8 := Lib.hid (below_then HB7.out b1); have HG8 := Lib.hid b1; clear b1)
        | fail)
      by_cases hk : x.kind = 3
      · have f3 : (x.kind != 3) = false := by rw [bne_eq_false_iff_eq]; exact hk
        have f4 : (x.kind != 4) = true := by rw [bne_iff_ne, hk]; decide
        have f5 : (x.kind != 5) = true := by rw [bne_iff_ne, hk]; decide
        have HK := Lib.hid hk
        have HDR : Hid (drV x = #[.int .i64 0, .int .i64 0, .int .i64 1]) := Lib.hid (drV_not (not_rep3' hk))
        clear hk
        cases hd : drecS x with
        | some q =>
          have HDS := Lib.hid hd
          have HD : Hid (decM x = some q) := Lib.hid (by rw [dec_iff HK.out]; exact hd)
          clear hd
          skip
          go_wp2_with (first
            | ((with_reducible show wpList _ _ _ (⟨some 95, _, _, _, _, _⟩ :: _) _ _); refine wpList_loadv _ rfl 33 (.tmp 3) rfl 6 (by kernel_rfl) w1.heap.size 0 (enC x A n c) rfl (BL.all (HX8).out) rfl ?_)
            | (go_at_call 33; refine (decp_any _ x w8 (stay_en _ _ _ _ HRX.out (HB8).out)).mono ?_; rintro e w11 ⟨x1, x2, b1⟩; obtain ⟨cq, rfl, hq⟩ := x1 q HD.out; have HQ11 := Lib.hid hq; obtain ⟨⟨Q1, k1, e1, Q2, k2, e2, rfl, _⟩, _⟩ := hq; have HX11 := Lib.hid ((HX8).out.kept b1); have HB11 := Lib.hid (below_thenB (HB8).out (HB8).out.size b1); clear x1 x2 b1)
            | ((with_reducible show wpList _ _ _ (⟨some 9, _, _, _, _, _⟩ :: _) _ _); refine wpList_alloc _ rfl 42 rfl ppZ ppZero ?_; intro w12 a1 a2 a3; have HV12 := Lib.hid a1; have HX12 := Lib.hid (HX11.out.kept a2); have HB12 := Lib.hid (below_then HB11.out a2); have HQ12 := Lib.hid (stay_ppt _ _ _ _ HQ11.out a2); clear a1 a2 a3)
            | ((with_reducible show wpList _ _ _ (⟨none, _, _, _, _, _⟩ :: _) _ _); refine wpList_storev _ rfl 42 (.tmp 9) (.tmp 97) rfl 5 (by kernel_rfl) w11.heap.size 0 _ ppZ (ppC q Q1 k1 e1 Q2 k2 e2) rfl rfl HV12.out rfl (one_pp _ _ _ _ _ _ _) (by decide) ?_; intro w13 a1 a2 a3; rw [splice_pp ppZ _ (by rfl)] at a1; have HV13 := Lib.hid a1; have HX13 := Lib.hid (a2.bl HX12.out (fun e => by have := HX11.out.lt; omega)); have HB13 : Hid (Below w.heap.size w w13) := Lib.hid (low_kp HB12.out a2 (fun i hi e => by have := HB11.out.size; omega)); have HQ13 := Lib.hid (HQ12.out.kp a2 (fun i t l hl ht => hl.ne HV12.out (by rcases ht with rfl | rfl <;> decide))); clear a1 a2 a3)
            | ((with_reducible show wpList _ _ _ (⟨some 100, _, _, _, _, _⟩ :: _) _ _); refine wpList_loadv _ rfl 33 (.tmp 3) rfl 6 (by kernel_rfl) w1.heap.size 0 (enC x A n c) rfl (BL.all HX13.out) rfl ?_)
            | (go_at_call 34; refine (decr_any _ x w13 (stay_en _ _ _ _ HRX.out HB13.out)).mono ?_; rw [HDR.out]; rintro e w14 ⟨rfl, b1⟩; have HX14 := Lib.hid (HX13.out.kept b1); have HV14 := Lib.hid (HV13.out.kept b1); have HB14 := Lib.hid (below_then HB13.out b1); have q0 := HX14.out.get (j := 0) rfl; have q1 := HX14.out.get (j := 1) rfl; have q4 := HX14.out.get (j := 4) rfl; have HQ14 := Lib.hid (stay_ppt _ _ _ _ HQ13.out b1); clear b1)
            | (go_at_call 35; refine (rdec_any A n c x w14 (HBS.out.kept HB14.out) HW1.out HW2.out).mono ?_; rintro e w15 x1; obtain ⟨x1, _, b1⟩ := x1; obtain ⟨cr, rfl, hr⟩ := x1 q HDS.out; have HR15 := Lib.hid hr; obtain ⟨⟨R1, m1, f1, R2, m2, f2, rfl, _⟩, _⟩ := hr; have HX15 := Lib.hid (HX14.out.kept b1); have HV15 := Lib.hid (HV14.out.kept b1); have HB15 := Lib.hid (below_then HB14.out b1); have HQ15 := Lib.hid (stay_ppt _ _ _ _ HQ14.out b1); clear b1)
            | ((with_reducible show wpList _ _ _ (⟨some 14, _, _, _, _, _⟩ :: _) _ _); refine wpList_alloc _ rfl 40 rfl ppZ rpZero ?_; intro w16 a1 a2 a3; have HU16 := Lib.hid a1; have HX16 := Lib.hid (HX15.out.kept a2); have HV16 := Lib.hid (HV15.out.kept a2); have HB16 := Lib.hid (below_then HB15.out a2); have HQ16 := Lib.hid (stay_ppt _ _ _ _ HQ15.out a2); have HR16 := Lib.hid (stay_ppt _ _ _ _ HR15.out a2); clear a1 a2 a3)
            | ((with_reducible show wpList _ _ _ (⟨none, _, _, _, _, _⟩ :: _) _ _); refine wpList_storev _ rfl 40 (.tmp 14) (.tmp 113) rfl 5 (by kernel_rfl) w15.heap.size 0 _ ppZ (ppC q R1 m1 f1 R2 m2 f2) rfl rfl HU16.out (rfl) (one_pp _ _ _ _ _ _ _) (by decide) ?_; intro w17 a1 a2 a3; have HX17 := Lib.hid (a2.bl HX16.out (fun e => by have := HX15.out.lt; omega)); have HV17 := Lib.hid (a2.bl HV16.out (fun e => by have := HV15.out.lt; omega)); have HB17 : Hid (Below w.heap.size w w17) := Lib.hid (low_kp HB16.out a2 (fun i hi e => by have := HB15.out.size; omega)); have p2 := HX17.out.get (j := 2) rfl; have p4 := HX17.out.get (j := 4) rfl; rw [splice_pp ppZ _ (by rfl)] at a1; have HU17 := Lib.hid a1; have HQ17 := Lib.hid (HQ16.out.kp a2 (fun i t l hl ht => hl.ne HU16.out (by rcases ht with rfl | rfl <;> decide))); have HR17 := Lib.hid (HR16.out.kp a2 (fun i t l hl ht => hl.ne HU16.out (by rcases ht with rfl | rfl <;> decide))); clear a1 a2 a3)
            | fail)
          refine Text.wp_region_text (fun w' => BL w' w11.heap.size 42 (ppC q Q1 k1 e1 Q2 k2 e2) ∧ BL w' w15.heap.size 40 (ppC q R1 m1 f1 R2 m2 f2)) [(0, 4), (1, 4), (2, 4), (3, 4), (4, 4), (5, 4), (6, 4), (7, 0), (9, 0), (8, 2), (10, 2), (11, 4), (12, 4), (13, 4), (14, 4), (15, 4), (16, 4), (17, 4), (18, 4), (19, 4), (20, 4), (21, 4)] (by kernel_rfl) (by kernel_rfl) (fun _ _ _ _ _ h => h) (⟨HV17.out.drew, HU17.out.drew⟩) ?_
          iterate 7 (refine Text.purek rfl rfl (fun K hK => ⟨_, fun w' => by go_simp <;> rfl, ?_⟩); go_simp; refine hK _ ?_; clear hK K)
          refine Text.heldk rfl rfl (fun K hK => ?_)
          refine ⟨_, fun w' hw' => exec_loadv 42 (.tmp 9) rfl 5 (by kernel_rfl) w11.heap.size 0 _ rfl (BL.all hw'.1) rfl, ?_⟩
          go_simp
          refine hK _ ?_
          clear hK K
          refine Text.heldk rfl rfl (fun K hK => ?_)
          refine ⟨_, fun w' hw' => exec_loadv 40 (.tmp 14) rfl 5 (by kernel_rfl) w15.heap.size 0 _ rfl (BL.all hw'.2) rfl, ?_⟩
          go_simp
          refine hK _ ?_
          clear hK K
          refine Text.effw rfl rfl (fun K hK => ?_)
          go_simp
          refine (from_any _ q _ (stay_pp _ _ _ _ HQ17.out.1 (Below.refl _ _).drew)).mono ?_
          rintro e w18 ⟨rfl, b1⟩
          have HB18 : Hid (Below w.heap.size w w18) := Lib.hid (below_thenB HB17.out.drew HB17.out.size b1)
          have HX18 := Lib.hid (HX17.out.drew.kept b1)
          have HQ18 := Lib.hid (stay_pp _ _ _ _ (stay_pp _ _ _ _ HQ17.out.1 (Below.refl _ _).drew) b1)
          have HR18 := Lib.hid (stay_pp _ _ _ _ (stay_pp _ _ _ _ HR17.out.1 (Below.refl _ _).drew) b1)
          have HV18 := Lib.hid (HV17.out.drew.kept b1)
          have HU18 := Lib.hid (HU17.out.drew.kept b1)
          refine hK _ _ ⟨HV18.out, HU18.out⟩ ?_
          clear hK K b1
          refine Text.effw rfl rfl (fun K hK => ?_)
          go_simp
          refine (rsame_refl _ _ q _ HQ18.out HR18.out).mono ?_
          rintro e w19 ⟨rfl, b1⟩
          have HB19 := Lib.hid (below_then HB18.out b1)
          have r2 := (HX18.out.kept b1).get (j := 2) rfl
          refine hK _ _ ⟨HV18.out.kept b1, HU18.out.kept b1⟩ ?_
          clear hK K b1
          iterate 7 (refine Text.purek rfl rfl (fun K hK => ⟨_, fun w' => by go_simp <;> rfl, ?_⟩); go_simp; refine hK _ ?_; clear hK K)
          iterate 2 (refine Text.skipk (.inr (.inr rfl)) rfl rfl (fun K hK => ?_); go_simp; refine hK _ ?_; clear hK K)
          iterate 2 (refine Text.purek rfl rfl (fun K hK => ⟨_, fun w' => by go_simp <;> rfl, ?_⟩); go_simp; refine hK _ ?_; clear hK K)
          refine Text.done ?_
          go_wp2_with fail
          go_ret
          exact ⟨rfl, HB19.out⟩
        | none =>
          have HDS := Lib.hid hd
          have HD : Hid (decM x = none) := Lib.hid (by rw [dec_iff HK.out]; exact hd)
          clear hd
          skip
          go_wp2_with (first
            | ((with_reducible show wpList _ _ _ (⟨some 95, _, _, _, _, _⟩ :: _) _ _); refine wpList_loadv _ rfl 33 (.tmp 3) rfl 6 (by kernel_rfl) w1.heap.size 0 (enC x A n c) rfl (BL.all (HX8).out) rfl ?_)
            | (go_at_call 33; refine (decp_any _ x w8 (stay_en _ _ _ _ HRX.out (HB8).out)).mono ?_; rintro e w11 ⟨x1, x2, b1⟩; obtain rfl := x2 HD.out; rw [if_pos HK.out]; have HX11 := Lib.hid ((HX8).out.kept b1); have HB11 := Lib.hid (below_thenB (HB8).out (HB8).out.size b1); clear x1 x2 b1)
            | ((with_reducible show wpList _ _ _ (⟨some 9, _, _, _, _, _⟩ :: _) _ _); refine wpList_alloc _ rfl 42 rfl ppZ ppZero ?_; intro w12 a1 a2 a3; have HV12 := Lib.hid a1; have HX12 := Lib.hid (HX11.out.kept a2); have HB12 := Lib.hid (below_then HB11.out a2); skip; clear a1 a2 a3)
            | ((with_reducible show wpList _ _ _ (⟨none, _, _, _, _, _⟩ :: _) _ _); refine wpList_storev _ rfl 42 (.tmp 9) (.tmp 97) rfl 5 (by kernel_rfl) w11.heap.size 0 _ ppZ (ppZ) rfl rfl HV12.out rfl (one_ppz) (by decide) ?_; intro w13 a1 a2 a3; rw [splice_pp ppZ _ (by rfl)] at a1; have HV13 := Lib.hid a1; have HX13 := Lib.hid (a2.bl HX12.out (fun e => by have := HX11.out.lt; omega)); have HB13 : Hid (Below w.heap.size w w13) := Lib.hid (low_kp HB12.out a2 (fun i hi e => by have := HB11.out.size; omega)); skip; clear a1 a2 a3)
            | ((with_reducible show wpList _ _ _ (⟨some 100, _, _, _, _, _⟩ :: _) _ _); refine wpList_loadv _ rfl 33 (.tmp 3) rfl 6 (by kernel_rfl) w1.heap.size 0 (enC x A n c) rfl (BL.all HX13.out) rfl ?_)
            | (go_at_call 34; refine (decr_any _ x w13 (stay_en _ _ _ _ HRX.out HB13.out)).mono ?_; rw [HDR.out]; rintro e w14 ⟨rfl, b1⟩; have HX14 := Lib.hid (HX13.out.kept b1); have HV14 := Lib.hid (HV13.out.kept b1); have HB14 := Lib.hid (below_then HB13.out b1); have q0 := HX14.out.get (j := 0) rfl; have q1 := HX14.out.get (j := 1) rfl; have q4 := HX14.out.get (j := 4) rfl; skip; clear b1)
            | (go_at_call 35; refine (rdec_any A n c x w14 (HBS.out.kept HB14.out) HW1.out HW2.out).mono ?_; rintro e w15 x1; obtain ⟨_, x1, b1⟩ := x1; obtain ⟨cr, rfl, z1, z2⟩ := x1 HDS.out; have HZ1 := Lib.hid z1; have HZ2 := Lib.hid z2; clear z1 z2; have HX15 := Lib.hid (HX14.out.kept b1); have HV15 := Lib.hid (HV14.out.kept b1); have HB15 := Lib.hid (below_then HB14.out b1); skip; clear b1)
            | ((with_reducible show wpList _ _ _ (⟨some 14, _, _, _, _, _⟩ :: _) _ _); refine wpList_alloc _ rfl 40 rfl ppZ rpZero ?_; intro w16 a1 a2 a3; have HU16 := Lib.hid a1; have HX16 := Lib.hid (HX15.out.kept a2); have HV16 := Lib.hid (HV15.out.kept a2); have HB16 := Lib.hid (below_then HB15.out a2); skip; clear a1 a2 a3)
            | ((with_reducible show wpList _ _ _ (⟨none, _, _, _, _, _⟩ :: _) _ _); refine wpList_storev _ rfl 40 (.tmp 14) (.tmp 113) rfl 5 (by kernel_rfl) w15.heap.size 0 _ ppZ (cr) rfl rfl HU16.out (HZ1.out) (HZ2.out) (by decide) ?_; intro w17 a1 a2 a3; have HX17 := Lib.hid (a2.bl HX16.out (fun e => by have := HX15.out.lt; omega)); have HV17 := Lib.hid (a2.bl HV16.out (fun e => by have := HV15.out.lt; omega)); have HB17 : Hid (Below w.heap.size w w17) := Lib.hid (low_kp HB16.out a2 (fun i hi e => by have := HB15.out.size; omega)); have p2 := HX17.out.get (j := 2) rfl; have p4 := HX17.out.get (j := 4) rfl; skip; clear a1 a2 a3)
            | fail)
          refine Text.wp_region_text (fun _ => True) [(0, 4), (1, 4), (2, 4), (3, 4), (4, 4), (5, 4), (6, 4), (7, 4), (8, 4), (9, 4), (10, 4), (11, 4), (12, 4), (13, 4), (14, 4), (15, 4), (16, 4), (17, 4), (18, 4), (19, 4), (20, 4), (21, 4)] (by kernel_rfl) (by kernel_rfl) (fun _ _ _ _ _ h => h) (trivial) ?_
          iterate 7 (refine Text.purek rfl rfl (fun K hK => ⟨_, fun w' => by go_simp <;> rfl, ?_⟩); go_simp; refine hK _ ?_; clear hK K)
          iterate 5 (refine Text.skipk (.inr (.inr rfl)) rfl rfl (fun K hK => ?_); go_simp; refine hK _ ?_; clear hK K)
          iterate 10 (refine Text.purek rfl rfl (fun K hK => ⟨_, fun w' => by go_simp <;> rfl, ?_⟩); go_simp; refine hK _ ?_; clear hK K)
          refine Text.done ?_
          have HV17d := Lib.hid HV17.out.drew
          have HX17d := Lib.hid HX17.out.drew
          have HB17d := Lib.hid HB17.out.drew
          go_wp2_with (first
            | ((with_reducible show wpList _ _ _ (⟨some 145, _, _, _, _, _⟩ :: _) _ _); refine wpList_loadvg _ rfl 42 (.tmp 9) rfl 5 (by kernel_rfl) w11.heap.size 0 ppZ rfl (BL.all (HV17d).out) rfl ?_)
            | (go_at_call 20; refine (from_any ppZ pp0 w17.drew (rPp_zero _)).mono ?_; rintro e w18 ⟨rfl, b1⟩; have HX18 := Lib.hid ((HX17d).out.kept b1); have HB18 := Lib.hid (below_thenB (HB17d).out (HB17d).out.size b1); clear b1)
            | ((with_reducible show wpList _ _ _ (⟨some 147, _, _, _, _, _⟩ :: _) _ _); refine wpList_buildg _ rfl 40 _ rfl #[] (by rfl) _ (bldRpZ _) ?_)
            | (go_at_call 19; refine (rsame_refl ppZ ppZ pp0 w18 (rPp_zero _) (rPp_zero _)).mono ?_; rintro e w19 ⟨rfl, b1⟩; have HB19 := Lib.hid (below_then HB18.out b1); have HX19 := Lib.hid (HX18.out.kept b1); have r2 := HX19.out.get (j := 2) rfl; have r4 := HX19.out.get (j := 4) rfl; clear b1)
            | fail)
          go_ret
          exact ⟨rfl, HB19.out⟩
      · have f3 : (x.kind != 3) = true := by rw [bne_iff_ne]; exact hk
        have HD : Hid (decM x = none) := Lib.hid (dec_kind hk)
        have HK := Lib.hid hk
        clear hk
        by_cases h4 : x.kind = 4
        · have f4 : (x.kind != 4) = false := by rw [bne_eq_false_iff_eq]; exact h4
          have HRE : Hid (isRep x = true) := Lib.hid (by rw [isRep, h4]; rfl)
          clear h4
          obtain ⟨D, S, okb, hdf⟩ : ∃ D S b, drefS x.body = (D, S, b) := ⟨_, _, _, rfl⟩
          have HDF := Lib.hid hdf
          cases okb with
          | true =>
            have HDR := Lib.hid (drV_yes HRE.out hdf)
            clear hdf
            skip
            go_wp2_with (first
              | ((with_reducible show wpList _ _ _ (⟨some 95, _, _, _, _, _⟩ :: _) _ _); refine wpList_loadv _ rfl 33 (.tmp 3) rfl 6 (by kernel_rfl) w1.heap.size 0 (enC x A n c) rfl (BL.all (HX8).out) rfl ?_)
              | (go_at_call 33; refine (decp_any _ x w8 (stay_en _ _ _ _ HRX.out (HB8).out)).mono ?_; rintro e w11 ⟨x1, x2, b1⟩; obtain rfl := x2 HD.out; rw [if_neg HK.out]; have HX11 := Lib.hid ((HX8).out.kept b1); have HB11 := Lib.hid (below_thenB (HB8).out (HB8).out.size b1); clear x1 x2 b1)
              | ((with_reducible show wpList _ _ _ (⟨some 9, _, _, _, _, _⟩ :: _) _ _); refine wpList_alloc _ rfl 42 rfl ppZ ppZero ?_; intro w12 a1 a2 a3; have HV12 := Lib.hid a1; have HX12 := Lib.hid (HX11.out.kept a2); have HB12 := Lib.hid (below_then HB11.out a2); skip; clear a1 a2 a3)
              | ((with_reducible show wpList _ _ _ (⟨none, _, _, _, _, _⟩ :: _) _ _); refine wpList_storev _ rfl 42 (.tmp 9) (.tmp 97) rfl 5 (by kernel_rfl) w11.heap.size 0 _ ppZ (ppZ) rfl rfl HV12.out rfl (one_ppz) (by decide) ?_; intro w13 a1 a2 a3; rw [splice_pp ppZ _ (by rfl)] at a1; have HV13 := Lib.hid a1; have HX13 := Lib.hid (a2.bl HX12.out (fun e => by have := HX11.out.lt; omega)); have HB13 : Hid (Below w.heap.size w w13) := Lib.hid (low_kp HB12.out a2 (fun i hi e => by have := HB11.out.size; omega)); skip; clear a1 a2 a3)
              | ((with_reducible show wpList _ _ _ (⟨some 100, _, _, _, _, _⟩ :: _) _ _); refine wpList_loadv _ rfl 33 (.tmp 3) rfl 6 (by kernel_rfl) w1.heap.size 0 (enC x A n c) rfl (BL.all HX13.out) rfl ?_)
              | (go_at_call 34; refine (decr_any _ x w13 (stay_en _ _ _ _ HRX.out HB13.out)).mono ?_; rw [HDR.out]; rintro e w14 ⟨rfl, b1⟩; have HX14 := Lib.hid (HX13.out.kept b1); have HV14 := Lib.hid (HV13.out.kept b1); have HB14 := Lib.hid (below_then HB13.out b1); have q0 := HX14.out.get (j := 0) rfl; have q1 := HX14.out.get (j := 1) rfl; have q4 := HX14.out.get (j := 4) rfl; skip; clear b1)
              | (go_at_call 35; refine (rdec_any A n c x w14 (HBS.out.kept HB14.out) HW1.out HW2.out).mono ?_; rintro e w15 x1; obtain ⟨cr, rb, rfl, z1, z2, b1⟩ := rdec_form x1; have HZ1 := Lib.hid z1; have HZ2 := Lib.hid z2; clear z1 z2; have HX15 := Lib.hid (HX14.out.kept b1); have HV15 := Lib.hid (HV14.out.kept b1); have HB15 := Lib.hid (below_then HB14.out b1); skip; clear b1)
              | ((with_reducible show wpList _ _ _ (⟨some 14, _, _, _, _, _⟩ :: _) _ _); refine wpList_alloc _ rfl 40 rfl ppZ rpZero ?_; intro w16 a1 a2 a3; have HU16 := Lib.hid a1; have HX16 := Lib.hid (HX15.out.kept a2); have HV16 := Lib.hid (HV15.out.kept a2); have HB16 := Lib.hid (below_then HB15.out a2); skip; clear a1 a2 a3)
              | ((with_reducible show wpList _ _ _ (⟨none, _, _, _, _, _⟩ :: _) _ _); refine wpList_storev _ rfl 40 (.tmp 14) (.tmp 113) rfl 5 (by kernel_rfl) w15.heap.size 0 _ ppZ (cr) rfl rfl HU16.out (HZ1.out) (HZ2.out) (by decide) ?_; intro w17 a1 a2 a3; have HX17 := Lib.hid (a2.bl HX16.out (fun e => by have := HX15.out.lt; omega)); have HV17 := Lib.hid (a2.bl HV16.out (fun e => by have := HV15.out.lt; omega)); have HB17 : Hid (Below w.heap.size w w17) := Lib.hid (low_kp HB16.out a2 (fun i hi e => by have := HB15.out.size; omega)); have p2 := HX17.out.get (j := 2) rfl; have p4 := HX17.out.get (j := 4) rfl; skip; clear a1 a2 a3)
              | ((with_reducible show wpList _ _ _ (⟨some 145, _, _, _, _, _⟩ :: _) _ _); refine wpList_loadvg _ rfl 42 (.tmp 9) rfl 5 (by kernel_rfl) w11.heap.size 0 ppZ rfl (BL.all (HV17).out) rfl ?_)
              | (go_at_call 20; refine (from_any ppZ pp0 w17 (rPp_zero _)).mono ?_; rintro e w18 ⟨rfl, b1⟩; have HX18 := Lib.hid ((HX17).out.kept b1); have HB18 := Lib.hid (below_thenB (HB17).out (HB17).out.size b1); clear b1)
              | ((with_reducible show wpList _ _ _ (⟨some 147, _, _, _, _, _⟩ :: _) _ _); refine wpList_buildg _ rfl 40 _ rfl #[] (by rfl) _ (bldRpZ _) ?_)
              | (go_at_call 19; refine (rsame_refl ppZ ppZ pp0 w18 (rPp_zero _) (rPp_zero _)).mono ?_; rintro e w19 ⟨rfl, b1⟩; have HB19 := Lib.hid (below_then HB18.out b1); have HX19 := Lib.hid (HX18.out.kept b1); have r2 := HX19.out.get (j := 2) rfl; have r4 := HX19.out.get (j := 4) rfl; clear b1)
              | (go_at_call 36; refine (rdecr_any A n c x.body w19 (HBS.out.kept HB19.out)).mono ?_; rw [HDF.out]; rintro e w20 ⟨rfl, b1⟩; have HB20 := Lib.hid (below_then HB19.out b1); clear b1)
              | fail)
            go_ret
            exact ⟨rfl, HB20.out⟩
          | false =>
            have HDR := Lib.hid (drV_no HRE.out hdf)
            clear hdf
            skip
            go_wp2_with (first
              | ((with_reducible show wpList _ _ _ (⟨some 95, _, _, _, _, _⟩ :: _) _ _); refine wpList_loadv _ rfl 33 (.tmp 3) rfl 6 (by kernel_rfl) w1.heap.size 0 (enC x A n c) rfl (BL.all (HX8).out) rfl ?_)
              | (go_at_call 33; refine (decp_any _ x w8 (stay_en _ _ _ _ HRX.out (HB8).out)).mono ?_; rintro e w11 ⟨x1, x2, b1⟩; obtain rfl := x2 HD.out; rw [if_neg HK.out]; have HX11 := Lib.hid ((HX8).out.kept b1); have HB11 := Lib.hid (below_thenB (HB8).out (HB8).out.size b1); clear x1 x2 b1)
              | ((with_reducible show wpList _ _ _ (⟨some 9, _, _, _, _, _⟩ :: _) _ _); refine wpList_alloc _ rfl 42 rfl ppZ ppZero ?_; intro w12 a1 a2 a3; have HV12 := Lib.hid a1; have HX12 := Lib.hid (HX11.out.kept a2); have HB12 := Lib.hid (below_then HB11.out a2); skip; clear a1 a2 a3)
              | ((with_reducible show wpList _ _ _ (⟨none, _, _, _, _, _⟩ :: _) _ _); refine wpList_storev _ rfl 42 (.tmp 9) (.tmp 97) rfl 5 (by kernel_rfl) w11.heap.size 0 _ ppZ (ppZ) rfl rfl HV12.out rfl (one_ppz) (by decide) ?_; intro w13 a1 a2 a3; rw [splice_pp ppZ _ (by rfl)] at a1; have HV13 := Lib.hid a1; have HX13 := Lib.hid (a2.bl HX12.out (fun e => by have := HX11.out.lt; omega)); have HB13 : Hid (Below w.heap.size w w13) := Lib.hid (low_kp HB12.out a2 (fun i hi e => by have := HB11.out.size; omega)); skip; clear a1 a2 a3)
              | ((with_reducible show wpList _ _ _ (⟨some 100, _, _, _, _, _⟩ :: _) _ _); refine wpList_loadv _ rfl 33 (.tmp 3) rfl 6 (by kernel_rfl) w1.heap.size 0 (enC x A n c) rfl (BL.all HX13.out) rfl ?_)
              | (go_at_call 34; refine (decr_any _ x w13 (stay_en _ _ _ _ HRX.out HB13.out)).mono ?_; rw [HDR.out]; rintro e w14 ⟨rfl, b1⟩; have HX14 := Lib.hid (HX13.out.kept b1); have HV14 := Lib.hid (HV13.out.kept b1); have HB14 := Lib.hid (below_then HB13.out b1); have q0 := HX14.out.get (j := 0) rfl; have q1 := HX14.out.get (j := 1) rfl; have q4 := HX14.out.get (j := 4) rfl; skip; clear b1)
              | (go_at_call 35; refine (rdec_any A n c x w14 (HBS.out.kept HB14.out) HW1.out HW2.out).mono ?_; rintro e w15 x1; obtain ⟨cr, rb, rfl, z1, z2, b1⟩ := rdec_form x1; have HZ1 := Lib.hid z1; have HZ2 := Lib.hid z2; clear z1 z2; have HX15 := Lib.hid (HX14.out.kept b1); have HV15 := Lib.hid (HV14.out.kept b1); have HB15 := Lib.hid (below_then HB14.out b1); skip; clear b1)
              | ((with_reducible show wpList _ _ _ (⟨some 14, _, _, _, _, _⟩ :: _) _ _); refine wpList_alloc _ rfl 40 rfl ppZ rpZero ?_; intro w16 a1 a2 a3; have HU16 := Lib.hid a1; have HX16 := Lib.hid (HX15.out.kept a2); have HV16 := Lib.hid (HV15.out.kept a2); have HB16 := Lib.hid (below_then HB15.out a2); skip; clear a1 a2 a3)
              | ((with_reducible show wpList _ _ _ (⟨none, _, _, _, _, _⟩ :: _) _ _); refine wpList_storev _ rfl 40 (.tmp 14) (.tmp 113) rfl 5 (by kernel_rfl) w15.heap.size 0 _ ppZ (cr) rfl rfl HU16.out (HZ1.out) (HZ2.out) (by decide) ?_; intro w17 a1 a2 a3; have HX17 := Lib.hid (a2.bl HX16.out (fun e => by have := HX15.out.lt; omega)); have HV17 := Lib.hid (a2.bl HV16.out (fun e => by have := HV15.out.lt; omega)); have HB17 : Hid (Below w.heap.size w w17) := Lib.hid (low_kp HB16.out a2 (fun i hi e => by have := HB15.out.size; omega)); have p2 := HX17.out.get (j := 2) rfl; have p4 := HX17.out.get (j := 4) rfl; skip; clear a1 a2 a3)
              | ((with_reducible show wpList _ _ _ (⟨some 145, _, _, _, _, _⟩ :: _) _ _); refine wpList_loadvg _ rfl 42 (.tmp 9) rfl 5 (by kernel_rfl) w11.heap.size 0 ppZ rfl (BL.all (HV17).out) rfl ?_)
              | (go_at_call 20; refine (from_any ppZ pp0 w17 (rPp_zero _)).mono ?_; rintro e w18 ⟨rfl, b1⟩; have HX18 := Lib.hid ((HX17).out.kept b1); have HB18 := Lib.hid (below_thenB (HB17).out (HB17).out.size b1); clear b1)
              | ((with_reducible show wpList _ _ _ (⟨some 147, _, _, _, _, _⟩ :: _) _ _); refine wpList_buildg _ rfl 40 _ rfl #[] (by rfl) _ (bldRpZ _) ?_)
              | (go_at_call 19; refine (rsame_refl ppZ ppZ pp0 w18 (rPp_zero _) (rPp_zero _)).mono ?_; rintro e w19 ⟨rfl, b1⟩; have HB19 := Lib.hid (below_then HB18.out b1); have HX19 := Lib.hid (HX18.out.kept b1); have r2 := HX19.out.get (j := 2) rfl; have r4 := HX19.out.get (j := 4) rfl; clear b1)
              | (go_at_call 36; refine (rdecr_any A n c x.body w19 (HBS.out.kept HB19.out)).mono ?_; rw [HDF.out]; rintro e w20 ⟨rfl, b1⟩; have HB20 := Lib.hid (below_then HB19.out b1); clear b1)
              | fail)
            go_ret
            exact ⟨rfl, HB20.out⟩
        have f4 : (x.kind != 4) = true := by rw [bne_iff_ne]; exact h4
        by_cases h5 : x.kind = 5
        · have f5 : (x.kind != 5) = false := by rw [bne_eq_false_iff_eq]; exact h5
          have HRE : Hid (isRep x = true) := Lib.hid (by rw [isRep, h5]; rfl)
          clear h4 h5
          obtain ⟨D, S, okb, hdf⟩ : ∃ D S b, drefS x.body = (D, S, b) := ⟨_, _, _, rfl⟩
          have HDF := Lib.hid hdf
          cases okb with
          | true =>
            have HDR := Lib.hid (drV_yes HRE.out hdf)
            clear hdf
            skip
            go_wp2_with (first
              | ((with_reducible show wpList _ _ _ (⟨some 95, _, _, _, _, _⟩ :: _) _ _); refine wpList_loadv _ rfl 33 (.tmp 3) rfl 6 (by kernel_rfl) w1.heap.size 0 (enC x A n c) rfl (BL.all (HX8).out) rfl ?_)
              | (go_at_call 33; refine (decp_any _ x w8 (stay_en _ _ _ _ HRX.out (HB8).out)).mono ?_; rintro e w11 ⟨x1, x2, b1⟩; obtain rfl := x2 HD.out; rw [if_neg HK.out]; have HX11 := Lib.hid ((HX8).out.kept b1); have HB11 := Lib.hid (below_thenB (HB8).out (HB8).out.size b1); clear x1 x2 b1)
              | ((with_reducible show wpList _ _ _ (⟨some 9, _, _, _, _, _⟩ :: _) _ _); refine wpList_alloc _ rfl 42 rfl ppZ ppZero ?_; intro w12 a1 a2 a3; have HV12 := Lib.hid a1; have HX12 := Lib.hid (HX11.out.kept a2); have HB12 := Lib.hid (below_then HB11.out a2); skip; clear a1 a2 a3)
              | ((with_reducible show wpList _ _ _ (⟨none, _, _, _, _, _⟩ :: _) _ _); refine wpList_storev _ rfl 42 (.tmp 9) (.tmp 97) rfl 5 (by kernel_rfl) w11.heap.size 0 _ ppZ (ppZ) rfl rfl HV12.out rfl (one_ppz) (by decide) ?_; intro w13 a1 a2 a3; rw [splice_pp ppZ _ (by rfl)] at a1; have HV13 := Lib.hid a1; have HX13 := Lib.hid (a2.bl HX12.out (fun e => by have := HX11.out.lt; omega)); have HB13 : Hid (Below w.heap.size w w13) := Lib.hid (low_kp HB12.out a2 (fun i hi e => by have := HB11.out.size; omega)); skip; clear a1 a2 a3)
              | ((with_reducible show wpList _ _ _ (⟨some 100, _, _, _, _, _⟩ :: _) _ _); refine wpList_loadv _ rfl 33 (.tmp 3) rfl 6 (by kernel_rfl) w1.heap.size 0 (enC x A n c) rfl (BL.all HX13.out) rfl ?_)
              | (go_at_call 34; refine (decr_any _ x w13 (stay_en _ _ _ _ HRX.out HB13.out)).mono ?_; rw [HDR.out]; rintro e w14 ⟨rfl, b1⟩; have HX14 := Lib.hid (HX13.out.kept b1); have HV14 := Lib.hid (HV13.out.kept b1); have HB14 := Lib.hid (below_then HB13.out b1); have q0 := HX14.out.get (j := 0) rfl; have q1 := HX14.out.get (j := 1) rfl; have q4 := HX14.out.get (j := 4) rfl; skip; clear b1)
              | (go_at_call 35; refine (rdec_any A n c x w14 (HBS.out.kept HB14.out) HW1.out HW2.out).mono ?_; rintro e w15 x1; obtain ⟨cr, rb, rfl, z1, z2, b1⟩ := rdec_form x1; have HZ1 := Lib.hid z1; have HZ2 := Lib.hid z2; clear z1 z2; have HX15 := Lib.hid (HX14.out.kept b1); have HV15 := Lib.hid (HV14.out.kept b1); have HB15 := Lib.hid (below_then HB14.out b1); skip; clear b1)
              | ((with_reducible show wpList _ _ _ (⟨some 14, _, _, _, _, _⟩ :: _) _ _); refine wpList_alloc _ rfl 40 rfl ppZ rpZero ?_; intro w16 a1 a2 a3; have HU16 := Lib.hid a1; have HX16 := Lib.hid (HX15.out.kept a2); have HV16 := Lib.hid (HV15.out.kept a2); have HB16 := Lib.hid (below_then HB15.out a2); skip; clear a1 a2 a3)
              | ((with_reducible show wpList _ _ _ (⟨none, _, _, _, _, _⟩ :: _) _ _); refine wpList_storev _ rfl 40 (.tmp 14) (.tmp 113) rfl 5 (by kernel_rfl) w15.heap.size 0 _ ppZ (cr) rfl rfl HU16.out (HZ1.out) (HZ2.out) (by decide) ?_; intro w17 a1 a2 a3; have HX17 := Lib.hid (a2.bl HX16.out (fun e => by have := HX15.out.lt; omega)); have HV17 := Lib.hid (a2.bl HV16.out (fun e => by have := HV15.out.lt; omega)); have HB17 : Hid (Below w.heap.size w w17) := Lib.hid (low_kp HB16.out a2 (fun i hi e => by have := HB15.out.size; omega)); have p2 := HX17.out.get (j := 2) rfl; have p4 := HX17.out.get (j := 4) rfl; skip; clear a1 a2 a3)
              | ((with_reducible show wpList _ _ _ (⟨some 145, _, _, _, _, _⟩ :: _) _ _); refine wpList_loadvg _ rfl 42 (.tmp 9) rfl 5 (by kernel_rfl) w11.heap.size 0 ppZ rfl (BL.all (HV17).out) rfl ?_)
              | (go_at_call 20; refine (from_any ppZ pp0 w17 (rPp_zero _)).mono ?_; rintro e w18 ⟨rfl, b1⟩; have HX18 := Lib.hid ((HX17).out.kept b1); have HB18 := Lib.hid (below_thenB (HB17).out (HB17).out.size b1); clear b1)
              | ((with_reducible show wpList _ _ _ (⟨some 147, _, _, _, _, _⟩ :: _) _ _); refine wpList_buildg _ rfl 40 _ rfl #[] (by rfl) _ (bldRpZ _) ?_)
              | (go_at_call 19; refine (rsame_refl ppZ ppZ pp0 w18 (rPp_zero _) (rPp_zero _)).mono ?_; rintro e w19 ⟨rfl, b1⟩; have HB19 := Lib.hid (below_then HB18.out b1); have HX19 := Lib.hid (HX18.out.kept b1); have r2 := HX19.out.get (j := 2) rfl; have r4 := HX19.out.get (j := 4) rfl; clear b1)
              | (go_at_call 36; refine (rdecr_any A n c x.body w19 (HBS.out.kept HB19.out)).mono ?_; rw [HDF.out]; rintro e w20 ⟨rfl, b1⟩; have HB20 := Lib.hid (below_then HB19.out b1); clear b1)
              | fail)
            go_ret
            exact ⟨rfl, HB20.out⟩
          | false =>
            have HDR := Lib.hid (drV_no HRE.out hdf)
            clear hdf
            skip
            go_wp2_with (first
              | ((with_reducible show wpList _ _ _ (⟨some 95, _, _, _, _, _⟩ :: _) _ _); refine wpList_loadv _ rfl 33 (.tmp 3) rfl 6 (by kernel_rfl) w1.heap.size 0 (enC x A n c) rfl (BL.all (HX8).out) rfl ?_)
              | (go_at_call 33; refine (decp_any _ x w8 (stay_en _ _ _ _ HRX.out (HB8).out)).mono ?_; rintro e w11 ⟨x1, x2, b1⟩; obtain rfl := x2 HD.out; rw [if_neg HK.out]; have HX11 := Lib.hid ((HX8).out.kept b1); have HB11 := Lib.hid (below_thenB (HB8).out (HB8).out.size b1); clear x1 x2 b1)
              | ((with_reducible show wpList _ _ _ (⟨some 9, _, _, _, _, _⟩ :: _) _ _); refine wpList_alloc _ rfl 42 rfl ppZ ppZero ?_; intro w12 a1 a2 a3; have HV12 := Lib.hid a1; have HX12 := Lib.hid (HX11.out.kept a2); have HB12 := Lib.hid (below_then HB11.out a2); skip; clear a1 a2 a3)
              | ((with_reducible show wpList _ _ _ (⟨none, _, _, _, _, _⟩ :: _) _ _); refine wpList_storev _ rfl 42 (.tmp 9) (.tmp 97) rfl 5 (by kernel_rfl) w11.heap.size 0 _ ppZ (ppZ) rfl rfl HV12.out rfl (one_ppz) (by decide) ?_; intro w13 a1 a2 a3; rw [splice_pp ppZ _ (by rfl)] at a1; have HV13 := Lib.hid a1; have HX13 := Lib.hid (a2.bl HX12.out (fun e => by have := HX11.out.lt; omega)); have HB13 : Hid (Below w.heap.size w w13) := Lib.hid (low_kp HB12.out a2 (fun i hi e => by have := HB11.out.size; omega)); skip; clear a1 a2 a3)
              | ((with_reducible show wpList _ _ _ (⟨some 100, _, _, _, _, _⟩ :: _) _ _); refine wpList_loadv _ rfl 33 (.tmp 3) rfl 6 (by kernel_rfl) w1.heap.size 0 (enC x A n c) rfl (BL.all HX13.out) rfl ?_)
              | (go_at_call 34; refine (decr_any _ x w13 (stay_en _ _ _ _ HRX.out HB13.out)).mono ?_; rw [HDR.out]; rintro e w14 ⟨rfl, b1⟩; have HX14 := Lib.hid (HX13.out.kept b1); have HV14 := Lib.hid (HV13.out.kept b1); have HB14 := Lib.hid (below_then HB13.out b1); have q0 := HX14.out.get (j := 0) rfl; have q1 := HX14.out.get (j := 1) rfl; have q4 := HX14.out.get (j := 4) rfl; skip; clear b1)
              | (go_at_call 35; refine (rdec_any A n c x w14 (HBS.out.kept HB14.out) HW1.out HW2.out).mono ?_; rintro e w15 x1; obtain ⟨cr, rb, rfl, z1, z2, b1⟩ := rdec_form x1; have HZ1 := Lib.hid z1; have HZ2 := Lib.hid z2; clear z1 z2; have HX15 := Lib.hid (HX14.out.kept b1); have HV15 := Lib.hid (HV14.out.kept b1); have HB15 := Lib.hid (below_then HB14.out b1); skip; clear b1)
              | ((with_reducible show wpList _ _ _ (⟨some 14, _, _, _, _, _⟩ :: _) _ _); refine wpList_alloc _ rfl 40 rfl ppZ rpZero ?_; intro w16 a1 a2 a3; have HU16 := Lib.hid a1; have HX16 := Lib.hid (HX15.out.kept a2); have HV16 := Lib.hid (HV15.out.kept a2); have HB16 := Lib.hid (below_then HB15.out a2); skip; clear a1 a2 a3)
              | ((with_reducible show wpList _ _ _ (⟨none, _, _, _, _, _⟩ :: _) _ _); refine wpList_storev _ rfl 40 (.tmp 14) (.tmp 113) rfl 5 (by kernel_rfl) w15.heap.size 0 _ ppZ (cr) rfl rfl HU16.out (HZ1.out) (HZ2.out) (by decide) ?_; intro w17 a1 a2 a3; have HX17 := Lib.hid (a2.bl HX16.out (fun e => by have := HX15.out.lt; omega)); have HV17 := Lib.hid (a2.bl HV16.out (fun e => by have := HV15.out.lt; omega)); have HB17 : Hid (Below w.heap.size w w17) := Lib.hid (low_kp HB16.out a2 (fun i hi e => by have := HB15.out.size; omega)); have p2 := HX17.out.get (j := 2) rfl; have p4 := HX17.out.get (j := 4) rfl; skip; clear a1 a2 a3)
              | ((with_reducible show wpList _ _ _ (⟨some 145, _, _, _, _, _⟩ :: _) _ _); refine wpList_loadvg _ rfl 42 (.tmp 9) rfl 5 (by kernel_rfl) w11.heap.size 0 ppZ rfl (BL.all (HV17).out) rfl ?_)
              | (go_at_call 20; refine (from_any ppZ pp0 w17 (rPp_zero _)).mono ?_; rintro e w18 ⟨rfl, b1⟩; have HX18 := Lib.hid ((HX17).out.kept b1); have HB18 := Lib.hid (below_thenB (HB17).out (HB17).out.size b1); clear b1)
              | ((with_reducible show wpList _ _ _ (⟨some 147, _, _, _, _, _⟩ :: _) _ _); refine wpList_buildg _ rfl 40 _ rfl #[] (by rfl) _ (bldRpZ _) ?_)
              | (go_at_call 19; refine (rsame_refl ppZ ppZ pp0 w18 (rPp_zero _) (rPp_zero _)).mono ?_; rintro e w19 ⟨rfl, b1⟩; have HB19 := Lib.hid (below_then HB18.out b1); have HX19 := Lib.hid (HX18.out.kept b1); have r2 := HX19.out.get (j := 2) rfl; have r4 := HX19.out.get (j := 4) rfl; clear b1)
              | (go_at_call 36; refine (rdecr_any A n c x.body w19 (HBS.out.kept HB19.out)).mono ?_; rw [HDF.out]; rintro e w20 ⟨rfl, b1⟩; have HB20 := Lib.hid (below_then HB19.out b1); clear b1)
              | fail)
            go_ret
            exact ⟨rfl, HB20.out⟩
        · have f5 : (x.kind != 5) = true := by rw [bne_iff_ne]; exact h5
          have HDR : Hid (drV x = #[.int .i64 0, .int .i64 0, .int .i64 1]) := Lib.hid (drV_not (by rw [isRep, beq_eq_false_iff_ne.2 h4, beq_eq_false_iff_ne.2 h5]; rfl))
          clear h4 h5
          skip
          go_wp2_with (first
            | ((with_reducible show wpList _ _ _ (⟨some 95, _, _, _, _, _⟩ :: _) _ _); refine wpList_loadv _ rfl 33 (.tmp 3) rfl 6 (by kernel_rfl) w1.heap.size 0 (enC x A n c) rfl (BL.all (HX8).out) rfl ?_)
            | (go_at_call 33; refine (decp_any _ x w8 (stay_en _ _ _ _ HRX.out (HB8).out)).mono ?_; rintro e w11 ⟨x1, x2, b1⟩; obtain rfl := x2 HD.out; rw [if_neg HK.out]; have HX11 := Lib.hid ((HX8).out.kept b1); have HB11 := Lib.hid (below_thenB (HB8).out (HB8).out.size b1); clear x1 x2 b1)
            | ((with_reducible show wpList _ _ _ (⟨some 9, _, _, _, _, _⟩ :: _) _ _); refine wpList_alloc _ rfl 42 rfl ppZ ppZero ?_; intro w12 a1 a2 a3; have HV12 := Lib.hid a1; have HX12 := Lib.hid (HX11.out.kept a2); have HB12 := Lib.hid (below_then HB11.out a2); skip; clear a1 a2 a3)
            | ((with_reducible show wpList _ _ _ (⟨none, _, _, _, _, _⟩ :: _) _ _); refine wpList_storev _ rfl 42 (.tmp 9) (.tmp 97) rfl 5 (by kernel_rfl) w11.heap.size 0 _ ppZ (ppZ) rfl rfl HV12.out rfl (one_ppz) (by decide) ?_; intro w13 a1 a2 a3; rw [splice_pp ppZ _ (by rfl)] at a1; have HV13 := Lib.hid a1; have HX13 := Lib.hid (a2.bl HX12.out (fun e => by have := HX11.out.lt; omega)); have HB13 : Hid (Below w.heap.size w w13) := Lib.hid (low_kp HB12.out a2 (fun i hi e => by have := HB11.out.size; omega)); skip; clear a1 a2 a3)
            | ((with_reducible show wpList _ _ _ (⟨some 100, _, _, _, _, _⟩ :: _) _ _); refine wpList_loadv _ rfl 33 (.tmp 3) rfl 6 (by kernel_rfl) w1.heap.size 0 (enC x A n c) rfl (BL.all HX13.out) rfl ?_)
            | (go_at_call 34; refine (decr_any _ x w13 (stay_en _ _ _ _ HRX.out HB13.out)).mono ?_; rw [HDR.out]; rintro e w14 ⟨rfl, b1⟩; have HX14 := Lib.hid (HX13.out.kept b1); have HV14 := Lib.hid (HV13.out.kept b1); have HB14 := Lib.hid (below_then HB13.out b1); have q0 := HX14.out.get (j := 0) rfl; have q1 := HX14.out.get (j := 1) rfl; have q4 := HX14.out.get (j := 4) rfl; skip; clear b1)
            | (go_at_call 35; refine (rdec_any A n c x w14 (HBS.out.kept HB14.out) HW1.out HW2.out).mono ?_; rintro e w15 x1; obtain ⟨cr, rb, rfl, z1, z2, b1⟩ := rdec_form x1; have HZ1 := Lib.hid z1; have HZ2 := Lib.hid z2; clear z1 z2; have HX15 := Lib.hid (HX14.out.kept b1); have HV15 := Lib.hid (HV14.out.kept b1); have HB15 := Lib.hid (below_then HB14.out b1); skip; clear b1)
            | ((with_reducible show wpList _ _ _ (⟨some 14, _, _, _, _, _⟩ :: _) _ _); refine wpList_alloc _ rfl 40 rfl ppZ rpZero ?_; intro w16 a1 a2 a3; have HU16 := Lib.hid a1; have HX16 := Lib.hid (HX15.out.kept a2); have HV16 := Lib.hid (HV15.out.kept a2); have HB16 := Lib.hid (below_then HB15.out a2); skip; clear a1 a2 a3)
            | ((with_reducible show wpList _ _ _ (⟨none, _, _, _, _, _⟩ :: _) _ _); refine wpList_storev _ rfl 40 (.tmp 14) (.tmp 113) rfl 5 (by kernel_rfl) w15.heap.size 0 _ ppZ (cr) rfl rfl HU16.out (HZ1.out) (HZ2.out) (by decide) ?_; intro w17 a1 a2 a3; have HX17 := Lib.hid (a2.bl HX16.out (fun e => by have := HX15.out.lt; omega)); have HV17 := Lib.hid (a2.bl HV16.out (fun e => by have := HV15.out.lt; omega)); have HB17 : Hid (Below w.heap.size w w17) := Lib.hid (low_kp HB16.out a2 (fun i hi e => by have := HB15.out.size; omega)); have p2 := HX17.out.get (j := 2) rfl; have p4 := HX17.out.get (j := 4) rfl; skip; clear a1 a2 a3)
            | ((with_reducible show wpList _ _ _ (⟨some 145, _, _, _, _, _⟩ :: _) _ _); refine wpList_loadvg _ rfl 42 (.tmp 9) rfl 5 (by kernel_rfl) w11.heap.size 0 ppZ rfl (BL.all (HV17).out) rfl ?_)
            | (go_at_call 20; refine (from_any ppZ pp0 w17 (rPp_zero _)).mono ?_; rintro e w18 ⟨rfl, b1⟩; have HX18 := Lib.hid ((HX17).out.kept b1); have HB18 := Lib.hid (below_thenB (HB17).out (HB17).out.size b1); clear b1)
            | ((with_reducible show wpList _ _ _ (⟨some 147, _, _, _, _, _⟩ :: _) _ _); refine wpList_buildg _ rfl 40 _ rfl #[] (by rfl) _ (bldRpZ _) ?_)
            | (go_at_call 19; refine (rsame_refl ppZ ppZ pp0 w18 (rPp_zero _) (rPp_zero _)).mono ?_; rintro e w19 ⟨rfl, b1⟩; have HB19 := Lib.hid (below_then HB18.out b1); have HX19 := Lib.hid (HX18.out.kept b1); have r2 := HX19.out.get (j := 2) rfl; have r4 := HX19.out.get (j := 4) rfl; clear b1)
            | fail)
          go_ret
          exact ⟨rfl, HB19.out⟩
    | true =>
      obtain ⟨e1, e2⟩ := HY5.out hv
      obtain ⟨e3, e4⟩ := HY7.out hv
      subst e1 e2 e3 e4
      have es1 : ((strB (bodyL p)).toList == (strB (bodyL p)).toList) = true := by rw [strB_eq]; exact decide_eq_true rfl
      have es2 : ((strB (rbL p)).toList == (strB (rbL p)).toList) = true := by rw [strB_eq]; exact decide_eq_true rfl
      go_wp2_with (first
        | ((with_reducible show wpList _ _ _ (⟨some 55, _, _, _, _, _⟩ :: _) _ _); refine wpList_loadv _ rfl 40 (.tmp 2) rfl 5 (by kernel_rfl) w.heap.size 0 (ppC p A1 n1 c1 A2 n2 c2) rfl (BL.all HP7.out) rfl ?_)
        | (go_at_call 30; refine (rvalid_any _ p w7 (stay_pp _ _ _ _ HRP.out HB7.out)).mono ?_; rintro e w8 ⟨rfl, b1⟩; rw [hv]; have HP8 := Lib.hid (HP7.out.kept b1); have HX8 := Lib.hid (HX7.out.kept b1); have HB8 := Lib.hid (below_then HB7.out b1); have HG8 := Lib.hid b1; clear b1)
        | fail)
      refine Text.wp_region_text (fun w' => BS w' A5 n5 c5 (bodyL p) ∧ BS w' A7 n7 c7 (rbL p) ∧ BL w' w.heap.size 40 (ppC p A1 n1 c1 A2 n2 c2)) [(0, 4), (1, 4), (2, 4), (3, 4), (4, 4), (5, 4), (6, 4), (7, 4), (8, 0), (9, 0), (10, 2), (11, 1), (12, 4), (13, 4), (14, 4), (15, 4), (16, 0), (17, 0), (18, 2), (19, 1), (20, 4), (21, 4)] (by kernel_rfl) (by kernel_rfl) (fun _ _ _ _ _ h => h) (⟨(HS5.out.kept (below_then HF7.out HG8.out)).drew, (HS7.out.kept HG8.out).drew, HP8.out.drew⟩) ?_
      iterate 8 (refine Text.purek rfl rfl (fun K hK => ⟨_, fun w' => by go_simp <;> rfl, ?_⟩); go_simp; refine hK _ ?_; clear hK K)
      refine Text.heldk rfl rfl (fun K hK => ?_)
      refine ⟨_, fun w' hw' => by have hcs := conv_str hw'.1; go_simp <;> rfl, ?_⟩
      go_simp
      refine hK _ ?_
      clear hK K
      refine Text.heldk rfl rfl (fun K hK => ?_)
      refine ⟨_, fun w' hw' => exec_loadv 40 (.tmp 2) rfl 5 (by kernel_rfl) w.heap.size 0 _ rfl (BL.all hw'.2.2) rfl, ?_⟩
      go_simp
      refine hK _ ?_
      clear hK K
      refine Text.effw rfl rfl (fun K hK => ?_)
      go_simp
      refine (rbody_any _ p _ (stay_pp _ _ _ _ HRP.out HB8.out.drew) hv).mono ?_
      rintro e w9 ⟨A9, c9, rfl, x1, b1⟩
      have hcs := conv_str x1
      have HB9 : Hid (Below w.heap.size w w9) := Lib.hid (below_thenB HB8.out.drew HB8.out.size b1)
      have HP9 := Lib.hid (HP8.out.drew.kept b1)
      have HX9 := Lib.hid (HX8.out.drew.kept b1)
      have HS59 := Lib.hid ((HS5.out.kept (below_then HF7.out HG8.out)).drew.kept b1)
      have HS79 := Lib.hid ((HS7.out.kept HG8.out).drew.kept b1)
      refine hK _ _ ⟨HS59.out, HS79.out, HP9.out⟩ ?_
      clear hK K x1 b1
      (refine Text.readk rfl rfl (fun K hK => ⟨_, by go_simp <;> rfl, ?_⟩); go_simp; refine hK _ ?_; clear hK K)
      iterate 4 (refine Text.purek rfl rfl (fun K hK => ⟨_, fun w' => by go_simp <;> rfl, ?_⟩); go_simp; refine hK _ ?_; clear hK K)
      refine Text.heldk rfl rfl (fun K hK => ?_)
      clear hcs
      refine ⟨_, fun w' hw' => by have hcs := conv_str hw'.2.1; go_simp <;> rfl, ?_⟩
      go_simp
      refine hK _ ?_
      clear hK K
      refine Text.heldk rfl rfl (fun K hK => ?_)
      refine ⟨_, fun w' hw' => exec_loadv 40 (.tmp 2) rfl 5 (by kernel_rfl) w.heap.size 0 _ rfl (BL.all hw'.2.2) rfl, ?_⟩
      go_simp
      refine hK _ ?_
      clear hK K
      refine Text.effw rfl rfl (fun K hK => ?_)
      go_simp
      refine (rreply_any _ p _ (stay_pp _ _ _ _ HRP.out HB9.out) hv).mono ?_
      rintro e w10 ⟨A10, c10, rfl, x1, b1⟩
      have hcs := conv_str x1
      have HB10 : Hid (Below w.heap.size w w10) := Lib.hid (below_thenB HB9.out HB9.out.size b1)
      have HX10 := Lib.hid (HX9.out.kept b1)
      refine hK _ _ ⟨HS59.out.kept b1, HS79.out.kept b1, HP9.out.kept b1⟩ ?_
      clear hK K x1 b1
      (refine Text.readk rfl rfl (fun K hK => ⟨_, by go_simp <;> rfl, ?_⟩); go_simp; refine hK _ ?_; clear hK K)
      iterate 2 (refine Text.purek rfl rfl (fun K hK => ⟨_, fun w' => by go_simp <;> rfl, ?_⟩); go_simp; refine hK _ ?_; clear hK K)
      refine Text.done ?_
      clear hcs
      go_upto_region 12 with fail
      clear es1 es2
      by_cases hk : x.kind = 3
      · have f3 : (x.kind != 3) = false := by rw [bne_eq_false_iff_eq]; exact hk
        have f4 : (x.kind != 4) = true := by rw [bne_iff_ne, hk]; decide
        have f5 : (x.kind != 5) = true := by rw [bne_iff_ne, hk]; decide
        have HK := Lib.hid hk
        have HDR : Hid (drV x = #[.int .i64 0, .int .i64 0, .int .i64 1]) := Lib.hid (drV_not (not_rep3' hk))
        clear hk
        cases hd : drecS x with
        | some q =>
          have HDS := Lib.hid hd
          have HD : Hid (decM x = some q) := Lib.hid (by rw [dec_iff HK.out]; exact hd)
          clear hd
          skip
          go_wp2_with (first
            | ((with_reducible show wpList _ _ _ (⟨some 95, _, _, _, _, _⟩ :: _) _ _); refine wpList_loadv _ rfl 33 (.tmp 3) rfl 6 (by kernel_rfl) w1.heap.size 0 (enC x A n c) rfl (BL.all (HX10).out) rfl ?_)
            | (go_at_call 33; refine (decp_any _ x w10 (stay_en _ _ _ _ HRX.out (HB10).out)).mono ?_; rintro e w11 ⟨x1, x2, b1⟩; obtain ⟨cq, rfl, hq⟩ := x1 q HD.out; have HQ11 := Lib.hid hq; obtain ⟨⟨Q1, k1, e1, Q2, k2, e2, rfl, _⟩, _⟩ := hq; have HX11 := Lib.hid ((HX10).out.kept b1); have HB11 := Lib.hid (below_thenB (HB10).out (HB10).out.size b1); clear x1 x2 b1)
            | ((with_reducible show wpList _ _ _ (⟨some 9, _, _, _, _, _⟩ :: _) _ _); refine wpList_alloc _ rfl 42 rfl ppZ ppZero ?_; intro w12 a1 a2 a3; have HV12 := Lib.hid a1; have HX12 := Lib.hid (HX11.out.kept a2); have HB12 := Lib.hid (below_then HB11.out a2); have HQ12 := Lib.hid (stay_ppt _ _ _ _ HQ11.out a2); clear a1 a2 a3)
            | ((with_reducible show wpList _ _ _ (⟨none, _, _, _, _, _⟩ :: _) _ _); refine wpList_storev _ rfl 42 (.tmp 9) (.tmp 97) rfl 5 (by kernel_rfl) w11.heap.size 0 _ ppZ (ppC q Q1 k1 e1 Q2 k2 e2) rfl rfl HV12.out rfl (one_pp _ _ _ _ _ _ _) (by decide) ?_; intro w13 a1 a2 a3; rw [splice_pp ppZ _ (by rfl)] at a1; have HV13 := Lib.hid a1; have HX13 := Lib.hid (a2.bl HX12.out (fun e => by have := HX11.out.lt; omega)); have HB13 : Hid (Below w.heap.size w w13) := Lib.hid (low_kp HB12.out a2 (fun i hi e => by have := HB11.out.size; omega)); have HQ13 := Lib.hid (HQ12.out.kp a2 (fun i t l hl ht => hl.ne HV12.out (by rcases ht with rfl | rfl <;> decide))); clear a1 a2 a3)
            | ((with_reducible show wpList _ _ _ (⟨some 100, _, _, _, _, _⟩ :: _) _ _); refine wpList_loadv _ rfl 33 (.tmp 3) rfl 6 (by kernel_rfl) w1.heap.size 0 (enC x A n c) rfl (BL.all HX13.out) rfl ?_)
            | (go_at_call 34; refine (decr_any _ x w13 (stay_en _ _ _ _ HRX.out HB13.out)).mono ?_; rw [HDR.out]; rintro e w14 ⟨rfl, b1⟩; have HX14 := Lib.hid (HX13.out.kept b1); have HV14 := Lib.hid (HV13.out.kept b1); have HB14 := Lib.hid (below_then HB13.out b1); have q0 := HX14.out.get (j := 0) rfl; have q1 := HX14.out.get (j := 1) rfl; have q4 := HX14.out.get (j := 4) rfl; have HQ14 := Lib.hid (stay_ppt _ _ _ _ HQ13.out b1); clear b1)
            | (go_at_call 35; refine (rdec_any A n c x w14 (HBS.out.kept HB14.out) HW1.out HW2.out).mono ?_; rintro e w15 x1; obtain ⟨x1, _, b1⟩ := x1; obtain ⟨cr, rfl, hr⟩ := x1 q HDS.out; have HR15 := Lib.hid hr; obtain ⟨⟨R1, m1, f1, R2, m2, f2, rfl, _⟩, _⟩ := hr; have HX15 := Lib.hid (HX14.out.kept b1); have HV15 := Lib.hid (HV14.out.kept b1); have HB15 := Lib.hid (below_then HB14.out b1); have HQ15 := Lib.hid (stay_ppt _ _ _ _ HQ14.out b1); clear b1)
            | ((with_reducible show wpList _ _ _ (⟨some 14, _, _, _, _, _⟩ :: _) _ _); refine wpList_alloc _ rfl 40 rfl ppZ rpZero ?_; intro w16 a1 a2 a3; have HU16 := Lib.hid a1; have HX16 := Lib.hid (HX15.out.kept a2); have HV16 := Lib.hid (HV15.out.kept a2); have HB16 := Lib.hid (below_then HB15.out a2); have HQ16 := Lib.hid (stay_ppt _ _ _ _ HQ15.out a2); have HR16 := Lib.hid (stay_ppt _ _ _ _ HR15.out a2); clear a1 a2 a3)
            | ((with_reducible show wpList _ _ _ (⟨none, _, _, _, _, _⟩ :: _) _ _); refine wpList_storev _ rfl 40 (.tmp 14) (.tmp 113) rfl 5 (by kernel_rfl) w15.heap.size 0 _ ppZ (ppC q R1 m1 f1 R2 m2 f2) rfl rfl HU16.out (rfl) (one_pp _ _ _ _ _ _ _) (by decide) ?_; intro w17 a1 a2 a3; have HX17 := Lib.hid (a2.bl HX16.out (fun e => by have := HX15.out.lt; omega)); have HV17 := Lib.hid (a2.bl HV16.out (fun e => by have := HV15.out.lt; omega)); have HB17 : Hid (Below w.heap.size w w17) := Lib.hid (low_kp HB16.out a2 (fun i hi e => by have := HB15.out.size; omega)); have p2 := HX17.out.get (j := 2) rfl; have p4 := HX17.out.get (j := 4) rfl; rw [splice_pp ppZ _ (by rfl)] at a1; have HU17 := Lib.hid a1; have HQ17 := Lib.hid (HQ16.out.kp a2 (fun i t l hl ht => hl.ne HU16.out (by rcases ht with rfl | rfl <;> decide))); have HR17 := Lib.hid (HR16.out.kp a2 (fun i t l hl ht => hl.ne HU16.out (by rcases ht with rfl | rfl <;> decide))); clear a1 a2 a3)
            | fail)
          refine Text.wp_region_text (fun w' => BL w' w11.heap.size 42 (ppC q Q1 k1 e1 Q2 k2 e2) ∧ BL w' w15.heap.size 40 (ppC q R1 m1 f1 R2 m2 f2)) [(0, 4), (1, 4), (2, 4), (3, 4), (4, 4), (5, 4), (6, 4), (7, 0), (9, 0), (8, 2), (10, 2), (11, 4), (12, 4), (13, 4), (14, 4), (15, 4), (16, 4), (17, 4), (18, 4), (19, 4), (20, 4), (21, 4)] (by kernel_rfl) (by kernel_rfl) (fun _ _ _ _ _ h => h) (⟨HV17.out.drew, HU17.out.drew⟩) ?_
          iterate 7 (refine Text.purek rfl rfl (fun K hK => ⟨_, fun w' => by go_simp <;> rfl, ?_⟩); go_simp; refine hK _ ?_; clear hK K)
          refine Text.heldk rfl rfl (fun K hK => ?_)
          refine ⟨_, fun w' hw' => exec_loadv 42 (.tmp 9) rfl 5 (by kernel_rfl) w11.heap.size 0 _ rfl (BL.all hw'.1) rfl, ?_⟩
          go_simp
          refine hK _ ?_
          clear hK K
          refine Text.heldk rfl rfl (fun K hK => ?_)
          refine ⟨_, fun w' hw' => exec_loadv 40 (.tmp 14) rfl 5 (by kernel_rfl) w15.heap.size 0 _ rfl (BL.all hw'.2) rfl, ?_⟩
          go_simp
          refine hK _ ?_
          clear hK K
          refine Text.effw rfl rfl (fun K hK => ?_)
          go_simp
          refine (from_any _ q _ (stay_pp _ _ _ _ HQ17.out.1 (Below.refl _ _).drew)).mono ?_
          rintro e w18 ⟨rfl, b1⟩
          have HB18 : Hid (Below w.heap.size w w18) := Lib.hid (below_thenB HB17.out.drew HB17.out.size b1)
          have HX18 := Lib.hid (HX17.out.drew.kept b1)
          have HQ18 := Lib.hid (stay_pp _ _ _ _ (stay_pp _ _ _ _ HQ17.out.1 (Below.refl _ _).drew) b1)
          have HR18 := Lib.hid (stay_pp _ _ _ _ (stay_pp _ _ _ _ HR17.out.1 (Below.refl _ _).drew) b1)
          have HV18 := Lib.hid (HV17.out.drew.kept b1)
          have HU18 := Lib.hid (HU17.out.drew.kept b1)
          refine hK _ _ ⟨HV18.out, HU18.out⟩ ?_
          clear hK K b1
          refine Text.effw rfl rfl (fun K hK => ?_)
          go_simp
          refine (rsame_refl _ _ q _ HQ18.out HR18.out).mono ?_
          rintro e w19 ⟨rfl, b1⟩
          have HB19 := Lib.hid (below_then HB18.out b1)
          have r2 := (HX18.out.kept b1).get (j := 2) rfl
          refine hK _ _ ⟨HV18.out.kept b1, HU18.out.kept b1⟩ ?_
          clear hK K b1
          iterate 7 (refine Text.purek rfl rfl (fun K hK => ⟨_, fun w' => by go_simp <;> rfl, ?_⟩); go_simp; refine hK _ ?_; clear hK K)
          iterate 2 (refine Text.skipk (.inr (.inr rfl)) rfl rfl (fun K hK => ?_); go_simp; refine hK _ ?_; clear hK K)
          iterate 2 (refine Text.purek rfl rfl (fun K hK => ⟨_, fun w' => by go_simp <;> rfl, ?_⟩); go_simp; refine hK _ ?_; clear hK K)
          refine Text.done ?_
          go_wp2_with fail
          go_ret
          exact ⟨rfl, HB19.out⟩
        | none =>
          have HDS := Lib.hid hd
          have HD : Hid (decM x = none) := Lib.hid (by rw [dec_iff HK.out]; exact hd)
          clear hd
          skip
          go_wp2_with (first
            | ((with_reducible show wpList _ _ _ (⟨some 95, _, _, _, _, _⟩ :: _) _ _); refine wpList_loadv _ rfl 33 (.tmp 3) rfl 6 (by kernel_rfl) w1.heap.size 0 (enC x A n c) rfl (BL.all (HX10).out) rfl ?_)
            | (go_at_call 33; refine (decp_any _ x w10 (stay_en _ _ _ _ HRX.out (HB10).out)).mono ?_; rintro e w11 ⟨x1, x2, b1⟩; obtain rfl := x2 HD.out; rw [if_pos HK.out]; have HX11 := Lib.hid ((HX10).out.kept b1); have HB11 := Lib.hid (below_thenB (HB10).out (HB10).out.size b1); clear x1 x2 b1)
            | ((with_reducible show wpList _ _ _ (⟨some 9, _, _, _, _, _⟩ :: _) _ _); refine wpList_alloc _ rfl 42 rfl ppZ ppZero ?_; intro w12 a1 a2 a3; have HV12 := Lib.hid a1; have HX12 := Lib.hid (HX11.out.kept a2); have HB12 := Lib.hid (below_then HB11.out a2); skip; clear a1 a2 a3)
            | ((with_reducible show wpList _ _ _ (⟨none, _, _, _, _, _⟩ :: _) _ _); refine wpList_storev _ rfl 42 (.tmp 9) (.tmp 97) rfl 5 (by kernel_rfl) w11.heap.size 0 _ ppZ (ppZ) rfl rfl HV12.out rfl (one_ppz) (by decide) ?_; intro w13 a1 a2 a3; rw [splice_pp ppZ _ (by rfl)] at a1; have HV13 := Lib.hid a1; have HX13 := Lib.hid (a2.bl HX12.out (fun e => by have := HX11.out.lt; omega)); have HB13 : Hid (Below w.heap.size w w13) := Lib.hid (low_kp HB12.out a2 (fun i hi e => by have := HB11.out.size; omega)); skip; clear a1 a2 a3)
            | ((with_reducible show wpList _ _ _ (⟨some 100, _, _, _, _, _⟩ :: _) _ _); refine wpList_loadv _ rfl 33 (.tmp 3) rfl 6 (by kernel_rfl) w1.heap.size 0 (enC x A n c) rfl (BL.all HX13.out) rfl ?_)
            | (go_at_call 34; refine (decr_any _ x w13 (stay_en _ _ _ _ HRX.out HB13.out)).mono ?_; rw [HDR.out]; rintro e w14 ⟨rfl, b1⟩; have HX14 := Lib.hid (HX13.out.kept b1); have HV14 := Lib.hid (HV13.out.kept b1); have HB14 := Lib.hid (below_then HB13.out b1); have q0 := HX14.out.get (j := 0) rfl; have q1 := HX14.out.get (j := 1) rfl; have q4 := HX14.out.get (j := 4) rfl; skip; clear b1)
            | (go_at_call 35; refine (rdec_any A n c x w14 (HBS.out.kept HB14.out) HW1.out HW2.out).mono ?_; rintro e w15 x1; obtain ⟨_, x1, b1⟩ := x1; obtain ⟨cr, rfl, z1, z2⟩ := x1 HDS.out; have HZ1 := Lib.hid z1; have HZ2 := Lib.hid z2; clear z1 z2; have HX15 := Lib.hid (HX14.out.kept b1); have HV15 := Lib.hid (HV14.out.kept b1); have HB15 := Lib.hid (below_then HB14.out b1); skip; clear b1)
            | ((with_reducible show wpList _ _ _ (⟨some 14, _, _, _, _, _⟩ :: _) _ _); refine wpList_alloc _ rfl 40 rfl ppZ rpZero ?_; intro w16 a1 a2 a3; have HU16 := Lib.hid a1; have HX16 := Lib.hid (HX15.out.kept a2); have HV16 := Lib.hid (HV15.out.kept a2); have HB16 := Lib.hid (below_then HB15.out a2); skip; clear a1 a2 a3)
            | ((with_reducible show wpList _ _ _ (⟨none, _, _, _, _, _⟩ :: _) _ _); refine wpList_storev _ rfl 40 (.tmp 14) (.tmp 113) rfl 5 (by kernel_rfl) w15.heap.size 0 _ ppZ (cr) rfl rfl HU16.out (HZ1.out) (HZ2.out) (by decide) ?_; intro w17 a1 a2 a3; have HX17 := Lib.hid (a2.bl HX16.out (fun e => by have := HX15.out.lt; omega)); have HV17 := Lib.hid (a2.bl HV16.out (fun e => by have := HV15.out.lt; omega)); have HB17 : Hid (Below w.heap.size w w17) := Lib.hid (low_kp HB16.out a2 (fun i hi e => by have := HB15.out.size; omega)); have p2 := HX17.out.get (j := 2) rfl; have p4 := HX17.out.get (j := 4) rfl; skip; clear a1 a2 a3)
            | fail)
          refine Text.wp_region_text (fun _ => True) [(0, 4), (1, 4), (2, 4), (3, 4), (4, 4), (5, 4), (6, 4), (7, 4), (8, 4), (9, 4), (10, 4), (11, 4), (12, 4), (13, 4), (14, 4), (15, 4), (16, 4), (17, 4), (18, 4), (19, 4), (20, 4), (21, 4)] (by kernel_rfl) (by kernel_rfl) (fun _ _ _ _ _ h => h) (trivial) ?_
          iterate 7 (refine Text.purek rfl rfl (fun K hK => ⟨_, fun w' => by go_simp <;> rfl, ?_⟩); go_simp; refine hK _ ?_; clear hK K)
          iterate 5 (refine Text.skipk (.inr (.inr rfl)) rfl rfl (fun K hK => ?_); go_simp; refine hK _ ?_; clear hK K)
          iterate 10 (refine Text.purek rfl rfl (fun K hK => ⟨_, fun w' => by go_simp <;> rfl, ?_⟩); go_simp; refine hK _ ?_; clear hK K)
          refine Text.done ?_
          have HV17d := Lib.hid HV17.out.drew
          have HX17d := Lib.hid HX17.out.drew
          have HB17d := Lib.hid HB17.out.drew
          go_wp2_with (first
            | ((with_reducible show wpList _ _ _ (⟨some 145, _, _, _, _, _⟩ :: _) _ _); refine wpList_loadvg _ rfl 42 (.tmp 9) rfl 5 (by kernel_rfl) w11.heap.size 0 ppZ rfl (BL.all (HV17d).out) rfl ?_)
            | (go_at_call 20; refine (from_any ppZ pp0 w17.drew (rPp_zero _)).mono ?_; rintro e w18 ⟨rfl, b1⟩; have HX18 := Lib.hid ((HX17d).out.kept b1); have HB18 := Lib.hid (below_thenB (HB17d).out (HB17d).out.size b1); clear b1)
            | ((with_reducible show wpList _ _ _ (⟨some 147, _, _, _, _, _⟩ :: _) _ _); refine wpList_buildg _ rfl 40 _ rfl #[] (by rfl) _ (bldRpZ _) ?_)
            | (go_at_call 19; refine (rsame_refl ppZ ppZ pp0 w18 (rPp_zero _) (rPp_zero _)).mono ?_; rintro e w19 ⟨rfl, b1⟩; have HB19 := Lib.hid (below_then HB18.out b1); have HX19 := Lib.hid (HX18.out.kept b1); have r2 := HX19.out.get (j := 2) rfl; have r4 := HX19.out.get (j := 4) rfl; clear b1)
            | fail)
          go_ret
          exact ⟨rfl, HB19.out⟩
      · have f3 : (x.kind != 3) = true := by rw [bne_iff_ne]; exact hk
        have HD : Hid (decM x = none) := Lib.hid (dec_kind hk)
        have HK := Lib.hid hk
        clear hk
        by_cases h4 : x.kind = 4
        · have f4 : (x.kind != 4) = false := by rw [bne_eq_false_iff_eq]; exact h4
          have HRE : Hid (isRep x = true) := Lib.hid (by rw [isRep, h4]; rfl)
          clear h4
          obtain ⟨D, S, okb, hdf⟩ : ∃ D S b, drefS x.body = (D, S, b) := ⟨_, _, _, rfl⟩
          have HDF := Lib.hid hdf
          cases okb with
          | true =>
            have HDR := Lib.hid (drV_yes HRE.out hdf)
            clear hdf
            skip
            go_wp2_with (first
              | ((with_reducible show wpList _ _ _ (⟨some 95, _, _, _, _, _⟩ :: _) _ _); refine wpList_loadv _ rfl 33 (.tmp 3) rfl 6 (by kernel_rfl) w1.heap.size 0 (enC x A n c) rfl (BL.all (HX10).out) rfl ?_)
              | (go_at_call 33; refine (decp_any _ x w10 (stay_en _ _ _ _ HRX.out (HB10).out)).mono ?_; rintro e w11 ⟨x1, x2, b1⟩; obtain rfl := x2 HD.out; rw [if_neg HK.out]; have HX11 := Lib.hid ((HX10).out.kept b1); have HB11 := Lib.hid (below_thenB (HB10).out (HB10).out.size b1); clear x1 x2 b1)
              | ((with_reducible show wpList _ _ _ (⟨some 9, _, _, _, _, _⟩ :: _) _ _); refine wpList_alloc _ rfl 42 rfl ppZ ppZero ?_; intro w12 a1 a2 a3; have HV12 := Lib.hid a1; have HX12 := Lib.hid (HX11.out.kept a2); have HB12 := Lib.hid (below_then HB11.out a2); skip; clear a1 a2 a3)
              | ((with_reducible show wpList _ _ _ (⟨none, _, _, _, _, _⟩ :: _) _ _); refine wpList_storev _ rfl 42 (.tmp 9) (.tmp 97) rfl 5 (by kernel_rfl) w11.heap.size 0 _ ppZ (ppZ) rfl rfl HV12.out rfl (one_ppz) (by decide) ?_; intro w13 a1 a2 a3; rw [splice_pp ppZ _ (by rfl)] at a1; have HV13 := Lib.hid a1; have HX13 := Lib.hid (a2.bl HX12.out (fun e => by have := HX11.out.lt; omega)); have HB13 : Hid (Below w.heap.size w w13) := Lib.hid (low_kp HB12.out a2 (fun i hi e => by have := HB11.out.size; omega)); skip; clear a1 a2 a3)
              | ((with_reducible show wpList _ _ _ (⟨some 100, _, _, _, _, _⟩ :: _) _ _); refine wpList_loadv _ rfl 33 (.tmp 3) rfl 6 (by kernel_rfl) w1.heap.size 0 (enC x A n c) rfl (BL.all HX13.out) rfl ?_)
              | (go_at_call 34; refine (decr_any _ x w13 (stay_en _ _ _ _ HRX.out HB13.out)).mono ?_; rw [HDR.out]; rintro e w14 ⟨rfl, b1⟩; have HX14 := Lib.hid (HX13.out.kept b1); have HV14 := Lib.hid (HV13.out.kept b1); have HB14 := Lib.hid (below_then HB13.out b1); have q0 := HX14.out.get (j := 0) rfl; have q1 := HX14.out.get (j := 1) rfl; have q4 := HX14.out.get (j := 4) rfl; skip; clear b1)
              | (go_at_call 35; refine (rdec_any A n c x w14 (HBS.out.kept HB14.out) HW1.out HW2.out).mono ?_; rintro e w15 x1; obtain ⟨cr, rb, rfl, z1, z2, b1⟩ := rdec_form x1; have HZ1 := Lib.hid z1; have HZ2 := Lib.hid z2; clear z1 z2; have HX15 := Lib.hid (HX14.out.kept b1); have HV15 := Lib.hid (HV14.out.kept b1); have HB15 := Lib.hid (below_then HB14.out b1); skip; clear b1)
              | ((with_reducible show wpList _ _ _ (⟨some 14, _, _, _, _, _⟩ :: _) _ _); refine wpList_alloc _ rfl 40 rfl ppZ rpZero ?_; intro w16 a1 a2 a3; have HU16 := Lib.hid a1; have HX16 := Lib.hid (HX15.out.kept a2); have HV16 := Lib.hid (HV15.out.kept a2); have HB16 := Lib.hid (below_then HB15.out a2); skip; clear a1 a2 a3)
              | ((with_reducible show wpList _ _ _ (⟨none, _, _, _, _, _⟩ :: _) _ _); refine wpList_storev _ rfl 40 (.tmp 14) (.tmp 113) rfl 5 (by kernel_rfl) w15.heap.size 0 _ ppZ (cr) rfl rfl HU16.out (HZ1.out) (HZ2.out) (by decide) ?_; intro w17 a1 a2 a3; have HX17 := Lib.hid (a2.bl HX16.out (fun e => by have := HX15.out.lt; omega)); have HV17 := Lib.hid (a2.bl HV16.out (fun e => by have := HV15.out.lt; omega)); have HB17 : Hid (Below w.heap.size w w17) := Lib.hid (low_kp HB16.out a2 (fun i hi e => by have := HB15.out.size; omega)); have p2 := HX17.out.get (j := 2) rfl; have p4 := HX17.out.get (j := 4) rfl; skip; clear a1 a2 a3)
              | ((with_reducible show wpList _ _ _ (⟨some 145, _, _, _, _, _⟩ :: _) _ _); refine wpList_loadvg _ rfl 42 (.tmp 9) rfl 5 (by kernel_rfl) w11.heap.size 0 ppZ rfl (BL.all (HV17).out) rfl ?_)
              | (go_at_call 20; refine (from_any ppZ pp0 w17 (rPp_zero _)).mono ?_; rintro e w18 ⟨rfl, b1⟩; have HX18 := Lib.hid ((HX17).out.kept b1); have HB18 := Lib.hid (below_thenB (HB17).out (HB17).out.size b1); clear b1)
              | ((with_reducible show wpList _ _ _ (⟨some 147, _, _, _, _, _⟩ :: _) _ _); refine wpList_buildg _ rfl 40 _ rfl #[] (by rfl) _ (bldRpZ _) ?_)
              | (go_at_call 19; refine (rsame_refl ppZ ppZ pp0 w18 (rPp_zero _) (rPp_zero _)).mono ?_; rintro e w19 ⟨rfl, b1⟩; have HB19 := Lib.hid (below_then HB18.out b1); have HX19 := Lib.hid (HX18.out.kept b1); have r2 := HX19.out.get (j := 2) rfl; have r4 := HX19.out.get (j := 4) rfl; clear b1)
              | (go_at_call 36; refine (rdecr_any A n c x.body w19 (HBS.out.kept HB19.out)).mono ?_; rw [HDF.out]; rintro e w20 ⟨rfl, b1⟩; have HB20 := Lib.hid (below_then HB19.out b1); clear b1)
              | fail)
            go_ret
            exact ⟨rfl, HB20.out⟩
          | false =>
            have HDR := Lib.hid (drV_no HRE.out hdf)
            clear hdf
            skip
            go_wp2_with (first
              | ((with_reducible show wpList _ _ _ (⟨some 95, _, _, _, _, _⟩ :: _) _ _); refine wpList_loadv _ rfl 33 (.tmp 3) rfl 6 (by kernel_rfl) w1.heap.size 0 (enC x A n c) rfl (BL.all (HX10).out) rfl ?_)
              | (go_at_call 33; refine (decp_any _ x w10 (stay_en _ _ _ _ HRX.out (HB10).out)).mono ?_; rintro e w11 ⟨x1, x2, b1⟩; obtain rfl := x2 HD.out; rw [if_neg HK.out]; have HX11 := Lib.hid ((HX10).out.kept b1); have HB11 := Lib.hid (below_thenB (HB10).out (HB10).out.size b1); clear x1 x2 b1)
              | ((with_reducible show wpList _ _ _ (⟨some 9, _, _, _, _, _⟩ :: _) _ _); refine wpList_alloc _ rfl 42 rfl ppZ ppZero ?_; intro w12 a1 a2 a3; have HV12 := Lib.hid a1; have HX12 := Lib.hid (HX11.out.kept a2); have HB12 := Lib.hid (below_then HB11.out a2); skip; clear a1 a2 a3)
              | ((with_reducible show wpList _ _ _ (⟨none, _, _, _, _, _⟩ :: _) _ _); refine wpList_storev _ rfl 42 (.tmp 9) (.tmp 97) rfl 5 (by kernel_rfl) w11.heap.size 0 _ ppZ (ppZ) rfl rfl HV12.out rfl (one_ppz) (by decide) ?_; intro w13 a1 a2 a3; rw [splice_pp ppZ _ (by rfl)] at a1; have HV13 := Lib.hid a1; have HX13 := Lib.hid (a2.bl HX12.out (fun e => by have := HX11.out.lt; omega)); have HB13 : Hid (Below w.heap.size w w13) := Lib.hid (low_kp HB12.out a2 (fun i hi e => by have := HB11.out.size; omega)); skip; clear a1 a2 a3)
              | ((with_reducible show wpList _ _ _ (⟨some 100, _, _, _, _, _⟩ :: _) _ _); refine wpList_loadv _ rfl 33 (.tmp 3) rfl 6 (by kernel_rfl) w1.heap.size 0 (enC x A n c) rfl (BL.all HX13.out) rfl ?_)
              | (go_at_call 34; refine (decr_any _ x w13 (stay_en _ _ _ _ HRX.out HB13.out)).mono ?_; rw [HDR.out]; rintro e w14 ⟨rfl, b1⟩; have HX14 := Lib.hid (HX13.out.kept b1); have HV14 := Lib.hid (HV13.out.kept b1); have HB14 := Lib.hid (below_then HB13.out b1); have q0 := HX14.out.get (j := 0) rfl; have q1 := HX14.out.get (j := 1) rfl; have q4 := HX14.out.get (j := 4) rfl; skip; clear b1)
              | (go_at_call 35; refine (rdec_any A n c x w14 (HBS.out.kept HB14.out) HW1.out HW2.out).mono ?_; rintro e w15 x1; obtain ⟨cr, rb, rfl, z1, z2, b1⟩ := rdec_form x1; have HZ1 := Lib.hid z1; have HZ2 := Lib.hid z2; clear z1 z2; have HX15 := Lib.hid (HX14.out.kept b1); have HV15 := Lib.hid (HV14.out.kept b1); have HB15 := Lib.hid (below_then HB14.out b1); skip; clear b1)
              | ((with_reducible show wpList _ _ _ (⟨some 14, _, _, _, _, _⟩ :: _) _ _); refine wpList_alloc _ rfl 40 rfl ppZ rpZero ?_; intro w16 a1 a2 a3; have HU16 := Lib.hid a1; have HX16 := Lib.hid (HX15.out.kept a2); have HV16 := Lib.hid (HV15.out.kept a2); have HB16 := Lib.hid (below_then HB15.out a2); skip; clear a1 a2 a3)
              | ((with_reducible show wpList _ _ _ (⟨none, _, _, _, _, _⟩ :: _) _ _); refine wpList_storev _ rfl 40 (.tmp 14) (.tmp 113) rfl 5 (by kernel_rfl) w15.heap.size 0 _ ppZ (cr) rfl rfl HU16.out (HZ1.out) (HZ2.out) (by decide) ?_; intro w17 a1 a2 a3; have HX17 := Lib.hid (a2.bl HX16.out (fun e => by have := HX15.out.lt; omega)); have HV17 := Lib.hid (a2.bl HV16.out (fun e => by have := HV15.out.lt; omega)); have HB17 : Hid (Below w.heap.size w w17) := Lib.hid (low_kp HB16.out a2 (fun i hi e => by have := HB15.out.size; omega)); have p2 := HX17.out.get (j := 2) rfl; have p4 := HX17.out.get (j := 4) rfl; skip; clear a1 a2 a3)
              | ((with_reducible show wpList _ _ _ (⟨some 145, _, _, _, _, _⟩ :: _) _ _); refine wpList_loadvg _ rfl 42 (.tmp 9) rfl 5 (by kernel_rfl) w11.heap.size 0 ppZ rfl (BL.all (HV17).out) rfl ?_)
              | (go_at_call 20; refine (from_any ppZ pp0 w17 (rPp_zero _)).mono ?_; rintro e w18 ⟨rfl, b1⟩; have HX18 := Lib.hid ((HX17).out.kept b1); have HB18 := Lib.hid (below_thenB (HB17).out (HB17).out.size b1); clear b1)
              | ((with_reducible show wpList _ _ _ (⟨some 147, _, _, _, _, _⟩ :: _) _ _); refine wpList_buildg _ rfl 40 _ rfl #[] (by rfl) _ (bldRpZ _) ?_)
              | (go_at_call 19; refine (rsame_refl ppZ ppZ pp0 w18 (rPp_zero _) (rPp_zero _)).mono ?_; rintro e w19 ⟨rfl, b1⟩; have HB19 := Lib.hid (below_then HB18.out b1); have HX19 := Lib.hid (HX18.out.kept b1); have r2 := HX19.out.get (j := 2) rfl; have r4 := HX19.out.get (j := 4) rfl; clear b1)
              | (go_at_call 36; refine (rdecr_any A n c x.body w19 (HBS.out.kept HB19.out)).mono ?_; rw [HDF.out]; rintro e w20 ⟨rfl, b1⟩; have HB20 := Lib.hid (below_then HB19.out b1); clear b1)
              | fail)
            go_ret
            exact ⟨rfl, HB20.out⟩
        have f4 : (x.kind != 4) = true := by rw [bne_iff_ne]; exact h4
        by_cases h5 : x.kind = 5
        · have f5 : (x.kind != 5) = false := by rw [bne_eq_false_iff_eq]; exact h5
          have HRE : Hid (isRep x = true) := Lib.hid (by rw [isRep, h5]; rfl)
          clear h4 h5
          obtain ⟨D, S, okb, hdf⟩ : ∃ D S b, drefS x.body = (D, S, b) := ⟨_, _, _, rfl⟩
          have HDF := Lib.hid hdf
          cases okb with
          | true =>
            have HDR := Lib.hid (drV_yes HRE.out hdf)
            clear hdf
            skip
            go_wp2_with (first
              | ((with_reducible show wpList _ _ _ (⟨some 95, _, _, _, _, _⟩ :: _) _ _); refine wpList_loadv _ rfl 33 (.tmp 3) rfl 6 (by kernel_rfl) w1.heap.size 0 (enC x A n c) rfl (BL.all (HX10).out) rfl ?_)
              | (go_at_call 33; refine (decp_any _ x w10 (stay_en _ _ _ _ HRX.out (HB10).out)).mono ?_; rintro e w11 ⟨x1, x2, b1⟩; obtain rfl := x2 HD.out; rw [if_neg HK.out]; have HX11 := Lib.hid ((HX10).out.kept b1); have HB11 := Lib.hid (below_thenB (HB10).out (HB10).out.size b1); clear x1 x2 b1)
              | ((with_reducible show wpList _ _ _ (⟨some 9, _, _, _, _, _⟩ :: _) _ _); refine wpList_alloc _ rfl 42 rfl ppZ ppZero ?_; intro w12 a1 a2 a3; have HV12 := Lib.hid a1; have HX12 := Lib.hid (HX11.out.kept a2); have HB12 := Lib.hid (below_then HB11.out a2); skip; clear a1 a2 a3)
              | ((with_reducible show wpList _ _ _ (⟨none, _, _, _, _, _⟩ :: _) _ _); refine wpList_storev _ rfl 42 (.tmp 9) (.tmp 97) rfl 5 (by kernel_rfl) w11.heap.size 0 _ ppZ (ppZ) rfl rfl HV12.out rfl (one_ppz) (by decide) ?_; intro w13 a1 a2 a3; rw [splice_pp ppZ _ (by rfl)] at a1; have HV13 := Lib.hid a1; have HX13 := Lib.hid (a2.bl HX12.out (fun e => by have := HX11.out.lt; omega)); have HB13 : Hid (Below w.heap.size w w13) := Lib.hid (low_kp HB12.out a2 (fun i hi e => by have := HB11.out.size; omega)); skip; clear a1 a2 a3)
              | ((with_reducible show wpList _ _ _ (⟨some 100, _, _, _, _, _⟩ :: _) _ _); refine wpList_loadv _ rfl 33 (.tmp 3) rfl 6 (by kernel_rfl) w1.heap.size 0 (enC x A n c) rfl (BL.all HX13.out) rfl ?_)
              | (go_at_call 34; refine (decr_any _ x w13 (stay_en _ _ _ _ HRX.out HB13.out)).mono ?_; rw [HDR.out]; rintro e w14 ⟨rfl, b1⟩; have HX14 := Lib.hid (HX13.out.kept b1); have HV14 := Lib.hid (HV13.out.kept b1); have HB14 := Lib.hid (below_then HB13.out b1); have q0 := HX14.out.get (j := 0) rfl; have q1 := HX14.out.get (j := 1) rfl; have q4 := HX14.out.get (j := 4) rfl; skip; clear b1)
              | (go_at_call 35; refine (rdec_any A n c x w14 (HBS.out.kept HB14.out) HW1.out HW2.out).mono ?_; rintro e w15 x1; obtain ⟨cr, rb, rfl, z1, z2, b1⟩ := rdec_form x1; have HZ1 := Lib.hid z1; have HZ2 := Lib.hid z2; clear z1 z2; have HX15 := Lib.hid (HX14.out.kept b1); have HV15 := Lib.hid (HV14.out.kept b1); have HB15 := Lib.hid (below_then HB14.out b1); skip; clear b1)
              | ((with_reducible show wpList _ _ _ (⟨some 14, _, _, _, _, _⟩ :: _) _ _); refine wpList_alloc _ rfl 40 rfl ppZ rpZero ?_; intro w16 a1 a2 a3; have HU16 := Lib.hid a1; have HX16 := Lib.hid (HX15.out.kept a2); have HV16 := Lib.hid (HV15.out.kept a2); have HB16 := Lib.hid (below_then HB15.out a2); skip; clear a1 a2 a3)
              | ((with_reducible show wpList _ _ _ (⟨none, _, _, _, _, _⟩ :: _) _ _); refine wpList_storev _ rfl 40 (.tmp 14) (.tmp 113) rfl 5 (by kernel_rfl) w15.heap.size 0 _ ppZ (cr) rfl rfl HU16.out (HZ1.out) (HZ2.out) (by decide) ?_; intro w17 a1 a2 a3; have HX17 := Lib.hid (a2.bl HX16.out (fun e => by have := HX15.out.lt; omega)); have HV17 := Lib.hid (a2.bl HV16.out (fun e => by have := HV15.out.lt; omega)); have HB17 : Hid (Below w.heap.size w w17) := Lib.hid (low_kp HB16.out a2 (fun i hi e => by have := HB15.out.size; omega)); have p2 := HX17.out.get (j := 2) rfl; have p4 := HX17.out.get (j := 4) rfl; skip; clear a1 a2 a3)
              | ((with_reducible show wpList _ _ _ (⟨some 145, _, _, _, _, _⟩ :: _) _ _); refine wpList_loadvg _ rfl 42 (.tmp 9) rfl 5 (by kernel_rfl) w11.heap.size 0 ppZ rfl (BL.all (HV17).out) rfl ?_)
              | (go_at_call 20; refine (from_any ppZ pp0 w17 (rPp_zero _)).mono ?_; rintro e w18 ⟨rfl, b1⟩; have HX18 := Lib.hid ((HX17).out.kept b1); have HB18 := Lib.hid (below_thenB (HB17).out (HB17).out.size b1); clear b1)
              | ((with_reducible show wpList _ _ _ (⟨some 147, _, _, _, _, _⟩ :: _) _ _); refine wpList_buildg _ rfl 40 _ rfl #[] (by rfl) _ (bldRpZ _) ?_)
              | (go_at_call 19; refine (rsame_refl ppZ ppZ pp0 w18 (rPp_zero _) (rPp_zero _)).mono ?_; rintro e w19 ⟨rfl, b1⟩; have HB19 := Lib.hid (below_then HB18.out b1); have HX19 := Lib.hid (HX18.out.kept b1); have r2 := HX19.out.get (j := 2) rfl; have r4 := HX19.out.get (j := 4) rfl; clear b1)
              | (go_at_call 36; refine (rdecr_any A n c x.body w19 (HBS.out.kept HB19.out)).mono ?_; rw [HDF.out]; rintro e w20 ⟨rfl, b1⟩; have HB20 := Lib.hid (below_then HB19.out b1); clear b1)
              | fail)
            go_ret
            exact ⟨rfl, HB20.out⟩
          | false =>
            have HDR := Lib.hid (drV_no HRE.out hdf)
            clear hdf
            skip
            go_wp2_with (first
              | ((with_reducible show wpList _ _ _ (⟨some 95, _, _, _, _, _⟩ :: _) _ _); refine wpList_loadv _ rfl 33 (.tmp 3) rfl 6 (by kernel_rfl) w1.heap.size 0 (enC x A n c) rfl (BL.all (HX10).out) rfl ?_)
              | (go_at_call 33; refine (decp_any _ x w10 (stay_en _ _ _ _ HRX.out (HB10).out)).mono ?_; rintro e w11 ⟨x1, x2, b1⟩; obtain rfl := x2 HD.out; rw [if_neg HK.out]; have HX11 := Lib.hid ((HX10).out.kept b1); have HB11 := Lib.hid (below_thenB (HB10).out (HB10).out.size b1); clear x1 x2 b1)
              | ((with_reducible show wpList _ _ _ (⟨some 9, _, _, _, _, _⟩ :: _) _ _); refine wpList_alloc _ rfl 42 rfl ppZ ppZero ?_; intro w12 a1 a2 a3; have HV12 := Lib.hid a1; have HX12 := Lib.hid (HX11.out.kept a2); have HB12 := Lib.hid (below_then HB11.out a2); skip; clear a1 a2 a3)
              | ((with_reducible show wpList _ _ _ (⟨none, _, _, _, _, _⟩ :: _) _ _); refine wpList_storev _ rfl 42 (.tmp 9) (.tmp 97) rfl 5 (by kernel_rfl) w11.heap.size 0 _ ppZ (ppZ) rfl rfl HV12.out rfl (one_ppz) (by decide) ?_; intro w13 a1 a2 a3; rw [splice_pp ppZ _ (by rfl)] at a1; have HV13 := Lib.hid a1; have HX13 := Lib.hid (a2.bl HX12.out (fun e => by have := HX11.out.lt; omega)); have HB13 : Hid (Below w.heap.size w w13) := Lib.hid (low_kp HB12.out a2 (fun i hi e => by have := HB11.out.size; omega)); skip; clear a1 a2 a3)
              | ((with_reducible show wpList _ _ _ (⟨some 100, _, _, _, _, _⟩ :: _) _ _); refine wpList_loadv _ rfl 33 (.tmp 3) rfl 6 (by kernel_rfl) w1.heap.size 0 (enC x A n c) rfl (BL.all HX13.out) rfl ?_)
              | (go_at_call 34; refine (decr_any _ x w13 (stay_en _ _ _ _ HRX.out HB13.out)).mono ?_; rw [HDR.out]; rintro e w14 ⟨rfl, b1⟩; have HX14 := Lib.hid (HX13.out.kept b1); have HV14 := Lib.hid (HV13.out.kept b1); have HB14 := Lib.hid (below_then HB13.out b1); have q0 := HX14.out.get (j := 0) rfl; have q1 := HX14.out.get (j := 1) rfl; have q4 := HX14.out.get (j := 4) rfl; skip; clear b1)
              | (go_at_call 35; refine (rdec_any A n c x w14 (HBS.out.kept HB14.out) HW1.out HW2.out).mono ?_; rintro e w15 x1; obtain ⟨cr, rb, rfl, z1, z2, b1⟩ := rdec_form x1; have HZ1 := Lib.hid z1; have HZ2 := Lib.hid z2; clear z1 z2; have HX15 := Lib.hid (HX14.out.kept b1); have HV15 := Lib.hid (HV14.out.kept b1); have HB15 := Lib.hid (below_then HB14.out b1); skip; clear b1)
              | ((with_reducible show wpList _ _ _ (⟨some 14, _, _, _, _, _⟩ :: _) _ _); refine wpList_alloc _ rfl 40 rfl ppZ rpZero ?_; intro w16 a1 a2 a3; have HU16 := Lib.hid a1; have HX16 := Lib.hid (HX15.out.kept a2); have HV16 := Lib.hid (HV15.out.kept a2); have HB16 := Lib.hid (below_then HB15.out a2); skip; clear a1 a2 a3)
              | ((with_reducible show wpList _ _ _ (⟨none, _, _, _, _, _⟩ :: _) _ _); refine wpList_storev _ rfl 40 (.tmp 14) (.tmp 113) rfl 5 (by kernel_rfl) w15.heap.size 0 _ ppZ (cr) rfl rfl HU16.out (HZ1.out) (HZ2.out) (by decide) ?_; intro w17 a1 a2 a3; have HX17 := Lib.hid (a2.bl HX16.out (fun e => by have := HX15.out.lt; omega)); have HV17 := Lib.hid (a2.bl HV16.out (fun e => by have := HV15.out.lt; omega)); have HB17 : Hid (Below w.heap.size w w17) := Lib.hid (low_kp HB16.out a2 (fun i hi e => by have := HB15.out.size; omega)); have p2 := HX17.out.get (j := 2) rfl; have p4 := HX17.out.get (j := 4) rfl; skip; clear a1 a2 a3)
              | ((with_reducible show wpList _ _ _ (⟨some 145, _, _, _, _, _⟩ :: _) _ _); refine wpList_loadvg _ rfl 42 (.tmp 9) rfl 5 (by kernel_rfl) w11.heap.size 0 ppZ rfl (BL.all (HV17).out) rfl ?_)
              | (go_at_call 20; refine (from_any ppZ pp0 w17 (rPp_zero _)).mono ?_; rintro e w18 ⟨rfl, b1⟩; have HX18 := Lib.hid ((HX17).out.kept b1); have HB18 := Lib.hid (below_thenB (HB17).out (HB17).out.size b1); clear b1)
              | ((with_reducible show wpList _ _ _ (⟨some 147, _, _, _, _, _⟩ :: _) _ _); refine wpList_buildg _ rfl 40 _ rfl #[] (by rfl) _ (bldRpZ _) ?_)
              | (go_at_call 19; refine (rsame_refl ppZ ppZ pp0 w18 (rPp_zero _) (rPp_zero _)).mono ?_; rintro e w19 ⟨rfl, b1⟩; have HB19 := Lib.hid (below_then HB18.out b1); have HX19 := Lib.hid (HX18.out.kept b1); have r2 := HX19.out.get (j := 2) rfl; have r4 := HX19.out.get (j := 4) rfl; clear b1)
              | (go_at_call 36; refine (rdecr_any A n c x.body w19 (HBS.out.kept HB19.out)).mono ?_; rw [HDF.out]; rintro e w20 ⟨rfl, b1⟩; have HB20 := Lib.hid (below_then HB19.out b1); clear b1)
              | fail)
            go_ret
            exact ⟨rfl, HB20.out⟩
        · have f5 : (x.kind != 5) = true := by rw [bne_iff_ne]; exact h5
          have HDR : Hid (drV x = #[.int .i64 0, .int .i64 0, .int .i64 1]) := Lib.hid (drV_not (by rw [isRep, beq_eq_false_iff_ne.2 h4, beq_eq_false_iff_ne.2 h5]; rfl))
          clear h4 h5
          skip
          go_wp2_with (first
            | ((with_reducible show wpList _ _ _ (⟨some 95, _, _, _, _, _⟩ :: _) _ _); refine wpList_loadv _ rfl 33 (.tmp 3) rfl 6 (by kernel_rfl) w1.heap.size 0 (enC x A n c) rfl (BL.all (HX10).out) rfl ?_)
            | (go_at_call 33; refine (decp_any _ x w10 (stay_en _ _ _ _ HRX.out (HB10).out)).mono ?_; rintro e w11 ⟨x1, x2, b1⟩; obtain rfl := x2 HD.out; rw [if_neg HK.out]; have HX11 := Lib.hid ((HX10).out.kept b1); have HB11 := Lib.hid (below_thenB (HB10).out (HB10).out.size b1); clear x1 x2 b1)
            | ((with_reducible show wpList _ _ _ (⟨some 9, _, _, _, _, _⟩ :: _) _ _); refine wpList_alloc _ rfl 42 rfl ppZ ppZero ?_; intro w12 a1 a2 a3; have HV12 := Lib.hid a1; have HX12 := Lib.hid (HX11.out.kept a2); have HB12 := Lib.hid (below_then HB11.out a2); skip; clear a1 a2 a3)
            | ((with_reducible show wpList _ _ _ (⟨none, _, _, _, _, _⟩ :: _) _ _); refine wpList_storev _ rfl 42 (.tmp 9) (.tmp 97) rfl 5 (by kernel_rfl) w11.heap.size 0 _ ppZ (ppZ) rfl rfl HV12.out rfl (one_ppz) (by decide) ?_; intro w13 a1 a2 a3; rw [splice_pp ppZ _ (by rfl)] at a1; have HV13 := Lib.hid a1; have HX13 := Lib.hid (a2.bl HX12.out (fun e => by have := HX11.out.lt; omega)); have HB13 : Hid (Below w.heap.size w w13) := Lib.hid (low_kp HB12.out a2 (fun i hi e => by have := HB11.out.size; omega)); skip; clear a1 a2 a3)
            | ((with_reducible show wpList _ _ _ (⟨some 100, _, _, _, _, _⟩ :: _) _ _); refine wpList_loadv _ rfl 33 (.tmp 3) rfl 6 (by kernel_rfl) w1.heap.size 0 (enC x A n c) rfl (BL.all HX13.out) rfl ?_)
            | (go_at_call 34; refine (decr_any _ x w13 (stay_en _ _ _ _ HRX.out HB13.out)).mono ?_; rw [HDR.out]; rintro e w14 ⟨rfl, b1⟩; have HX14 := Lib.hid (HX13.out.kept b1); have HV14 := Lib.hid (HV13.out.kept b1); have HB14 := Lib.hid (below_then HB13.out b1); have q0 := HX14.out.get (j := 0) rfl; have q1 := HX14.out.get (j := 1) rfl; have q4 := HX14.out.get (j := 4) rfl; skip; clear b1)
            | (go_at_call 35; refine (rdec_any A n c x w14 (HBS.out.kept HB14.out) HW1.out HW2.out).mono ?_; rintro e w15 x1; obtain ⟨cr, rb, rfl, z1, z2, b1⟩ := rdec_form x1; have HZ1 := Lib.hid z1; have HZ2 := Lib.hid z2; clear z1 z2; have HX15 := Lib.hid (HX14.out.kept b1); have HV15 := Lib.hid (HV14.out.kept b1); have HB15 := Lib.hid (below_then HB14.out b1); skip; clear b1)
            | ((with_reducible show wpList _ _ _ (⟨some 14, _, _, _, _, _⟩ :: _) _ _); refine wpList_alloc _ rfl 40 rfl ppZ rpZero ?_; intro w16 a1 a2 a3; have HU16 := Lib.hid a1; have HX16 := Lib.hid (HX15.out.kept a2); have HV16 := Lib.hid (HV15.out.kept a2); have HB16 := Lib.hid (below_then HB15.out a2); skip; clear a1 a2 a3)
            | ((with_reducible show wpList _ _ _ (⟨none, _, _, _, _, _⟩ :: _) _ _); refine wpList_storev _ rfl 40 (.tmp 14) (.tmp 113) rfl 5 (by kernel_rfl) w15.heap.size 0 _ ppZ (cr) rfl rfl HU16.out (HZ1.out) (HZ2.out) (by decide) ?_; intro w17 a1 a2 a3; have HX17 := Lib.hid (a2.bl HX16.out (fun e => by have := HX15.out.lt; omega)); have HV17 := Lib.hid (a2.bl HV16.out (fun e => by have := HV15.out.lt; omega)); have HB17 : Hid (Below w.heap.size w w17) := Lib.hid (low_kp HB16.out a2 (fun i hi e => by have := HB15.out.size; omega)); have p2 := HX17.out.get (j := 2) rfl; have p4 := HX17.out.get (j := 4) rfl; skip; clear a1 a2 a3)
            | ((with_reducible show wpList _ _ _ (⟨some 145, _, _, _, _, _⟩ :: _) _ _); refine wpList_loadvg _ rfl 42 (.tmp 9) rfl 5 (by kernel_rfl) w11.heap.size 0 ppZ rfl (BL.all (HV17).out) rfl ?_)
            | (go_at_call 20; refine (from_any ppZ pp0 w17 (rPp_zero _)).mono ?_; rintro e w18 ⟨rfl, b1⟩; have HX18 := Lib.hid ((HX17).out.kept b1); have HB18 := Lib.hid (below_thenB (HB17).out (HB17).out.size b1); clear b1)
            | ((with_reducible show wpList _ _ _ (⟨some 147, _, _, _, _, _⟩ :: _) _ _); refine wpList_buildg _ rfl 40 _ rfl #[] (by rfl) _ (bldRpZ _) ?_)
            | (go_at_call 19; refine (rsame_refl ppZ ppZ pp0 w18 (rPp_zero _) (rPp_zero _)).mono ?_; rintro e w19 ⟨rfl, b1⟩; have HB19 := Lib.hid (below_then HB18.out b1); have HX19 := Lib.hid (HX18.out.kept b1); have r2 := HX19.out.get (j := 2) rfl; have r4 := HX19.out.get (j := 4) rfl; clear b1)
            | fail)
          go_ret
          exact ⟨rfl, HB19.out⟩
end
end Go.Proofs.YtfonbliomokffaaGreat
