/- The walk of EpochSafe. -/
import Derived.Test.YtfonbliomokffaaGreatLSim
namespace Go.Proofs.YtfonbliomokffaaGreat
open Go Go.RowKit Gf Sha

section
set_option maxRecDepth 100000
set_option maxHeartbeats 8000000
theorem safe_walk (A : Option Addr) (n c : Nat) (es : List Ac) (three : Bool) (w : World) (h : LS rAc 4 32 w A n c es) :
  Calls Tryz.prog 6 #[.slice A n c, .bool three] w fun e w' => e = .returned (.bool true) ∧ Below w.heap.size w w' := by
 have hn := h.len_le
 have H := Lib.hid h
 clear h
 cases hx : decide ((40 : Int) < (n : Int)) with
 | true =>
  go_enter Tryz.func6, Tryz.ntmps6
  go_wp2_with (first
   | (go_at_call 9; refine (awake_any _).mono ?_; rintro e w1 ⟨rfl, b1⟩; have HB1 := Lib.hid b1; clear b1))
  go_ret
  exact ⟨rfl, HB1.out⟩
 | false =>
  have HN : Hid (n ≤ 40) := Lib.hid (by have := of_decide_eq_false hx; omega)
  go_enter Tryz.func6, Tryz.ntmps6
  go_wp2_with (first
   | (go_at_call 9; refine (awake_any _).mono ?_; rintro e w1 ⟨rfl, b1⟩; have HB1 := Lib.hid b1; clear b1)
   | ((with_reducible show wpList _ _ _ (⟨some 23, _, _, _, _, _⟩ :: _) _ _); refine wpList_build _ rfl 53 _ rfl #[] (by rfl) _ (bldTown three _) ?_)
   | ((with_reducible show wpList _ _ _ (⟨some 24, _, _, _, _, _⟩ :: _) _ _); refine wpList_box _ rfl 53 (.tmp 23) rfl (tCs (tI three 0) vz) rfl ?_; intro w2 y1 y2 y3; have HT2 := Lib.hid (tm0 three y1 (below_then HB1.out y2) HB1.out.size); clear y1 y2 y3))
  clear hx
  go_loopw [6] (fun iv wr => ∃ k : Nat, k ≤ 3 ∧ iv = .int .i64 (k : Int) ∧ Hid (TM w wr w1.heap.size (tI three (3 * k)) vz)) (fun iv _ => 3 - (intOf iv).toNat)
  case atStart => exact ⟨0, by omega, rfl, HT2⟩
  case round =>
   obtain ⟨k, hk, rfl, ht0⟩ := hrel
   obtain ⟨wx, hwx⟩ : ∃ x, x = wr := ⟨_, rfl⟩
   rw [← hwx] at ht0 ⊢
   clear hwx
   by_cases hlk : k < 3
   ·
    have hk' : (k : Int) < 3 := by omega
    go_wp2_with fail
    go_loopw [7] (fun iv wr => ∃ d : Nat, d ≤ 3 ∧ iv = .int .i64 (d : Int) ∧ Hid (TM w wr w1.heap.size (tI three (3 * k + d)) vz)) (fun iv _ => 3 - (intOf iv).toNat)
    case atStart => exact ⟨0, by omega, rfl, ht0⟩
    case round =>
     obtain ⟨d, hd, rfl, ht⟩ := hrel
     obtain ⟨wy, hwy⟩ : ∃ x, x = wr := ⟨_, rfl⟩
     rw [← hwy] at ht ⊢
     clear hwy
     by_cases hlt : d < 3
     ·
      have hd' : (d : Int) < 3 := by omega
      cases three with
      | true =>
       have HZ : Hid (true = (true || (decide (k < 2) && decide (d < 2)))) := Lib.hid rfl
       go_wp2_with (first
        | ((with_reducible show wpList _ _ _ (⟨none, _, _, _, _, _⟩ :: _) _ _); refine wpList_store1 _ rfl 4 (.tmp 48) (.tmp 44) rfl (sz1 _ (by kernel_rfl) _) w1.heap.size (12 + k * 3 + d) _ _ (.bool true) rfl rfl ht.out.bl rfl rfl (by rw [tCs_len]; omega) ?_; intro w7 y1 y2 y3; rw [tI_set _ _ hlk hlt HZ.out] at y1; have HT7 := Lib.hid (ht.out.put y1 y2 rfl); clear y1 y2 y3))
       go_roundw
       case rel => exact ⟨d + 1, by omega, by go_num, HT7⟩
       case measure => simp [intOf]; omega
      | false =>
       by_cases hk2 : k < 2
       ·
        have f1 : decide ((k : Int) < 2) = true := decide_eq_true (by omega)
        obtain ⟨z, hz⟩ : ∃ z, z = decide ((d : Int) < 2) := ⟨_, rfl⟩
        have f2 : decide ((d : Int) < 2) = z := hz.symm
        have HZ : Hid (z = (false || (decide (k < 2) && decide (d < 2)))) := Lib.hid (by rw [hz, decide_eq_true hk2, Bool.false_or, Bool.true_and, decide_eq_decide]; omega)
        clear hz
        go_wp2_with (first
         | ((with_reducible show wpList _ _ _ (⟨none, _, _, _, _, _⟩ :: _) _ _); refine wpList_store1 _ rfl 4 (.tmp 48) (.tmp 44) rfl (sz1 _ (by kernel_rfl) _) w1.heap.size (12 + k * 3 + d) _ _ (.bool z) rfl rfl ht.out.bl rfl rfl (by rw [tCs_len]; omega) ?_; intro w7 y1 y2 y3; rw [tI_set _ _ hlk hlt HZ.out] at y1; have HT7 := Lib.hid (ht.out.put y1 y2 rfl); clear y1 y2 y3))
        go_roundw
        case rel => exact ⟨d + 1, by omega, by go_num, HT7⟩
        case measure => simp [intOf]; omega
       ·
        have f1 : decide ((k : Int) < 2) = false := decide_eq_false (by omega)
        have HZ : Hid (false = (false || (decide (k < 2) && decide (d < 2)))) := Lib.hid (by rw [decide_eq_false hk2]; rfl)
        go_wp2_with (first
         | ((with_reducible show wpList _ _ _ (⟨none, _, _, _, _, _⟩ :: _) _ _); refine wpList_store1 _ rfl 4 (.tmp 48) (.tmp 44) rfl (sz1 _ (by kernel_rfl) _) w1.heap.size (12 + k * 3 + d) _ _ (.bool false) rfl rfl ht.out.bl rfl rfl (by rw [tCs_len]; omega) ?_; intro w7 y1 y2 y3; rw [tI_set _ _ hlk hlt HZ.out] at y1; have HT7 := Lib.hid (ht.out.put y1 y2 rfl); clear y1 y2 y3))
        go_roundw
        case rel => exact ⟨d + 1, by omega, by go_num, HT7⟩
        case measure => simp [intOf]; omega
     ·
      obtain rfl : d = 3 := by omega
      go_wp2_with fail
      go_roundw
      case rel => exact ⟨k + 1, by omega, by go_num, ht⟩
      case measure => simp [intOf]; omega
   ·
    obtain rfl : k = 3 := by omega
    go_wp2_with (first
     | ((with_reducible show wpList _ _ _ (⟨none, _, _, _, _, _⟩ :: _) _ _); refine wpList_store1 _ rfl 4 (.tmp 52) (.tmp 50) rfl (sz1 _ (by kernel_rfl) _) w1.heap.size 48 _ _ (.bool three) rfl rfl ht0.out.bl rfl rfl (by rw [tCs_len]; omega) ?_; intro w3 y1 y2 y3; rw [set_ad] at y1; have HT3 := Lib.hid (ht0.out.put y1 y2 rfl); clear y1 y2 y3)
     | ((with_reducible show wpList _ _ _ (⟨none, _, _, _, _, _⟩ :: _) _ _); refine wpList_store1 _ rfl 3 (.tmp 55) (.const (.int .i64 (-1))) rfl (sz1 _ (by kernel_rfl) _) w1.heap.size 49 _ _ (.int .i64 (-1)) rfl rfl HT3.out.bl rfl rfl (by rw [tCs_len]; omega) ?_; intro w4 y1 y2 y3; rw [set_bw] at y1; have HT4 := Lib.hid (HT3.out.put y1 y2 rfl); clear y1 y2 y3))
    have HT5 : Hid (TM w w4 w1.heap.size (t0 three) vz) := HT4
    clear HT4 HT3 ht0 HT2
    go_loopw [58] (fun iv wr => ∃ (k : Nat) (T : Tn) (v : Nat → Value), k ≤ n ∧ iv = .int .i64 (k : Int) ∧ Hid (TM w wr w1.heap.size T v) ∧ Hid (Inv three k (41 * k) T)) (fun iv _ => n - (intOf iv).toNat)
    case atStart => exact ⟨0, t0 three, vz, by omega, rfl, HT5, Lib.hid (t0_inv three)⟩
    case round =>
     obtain ⟨k, T, v, hk, rfl, ht, hi⟩ := hrel
     obtain ⟨wx, hwx⟩ : ∃ x, x = wr := ⟨_, rfl⟩
     rw [← hwx] at ht ⊢
     clear hwx
     by_cases hlk : k < n
     ·
      obtain ⟨⟨kd, wo, ot, st⟩, ga, oa, cs, hs, ea, hat, rfl, h1, h2, h3⟩ := H.out.at_ stay_ac ht.out.low hlk
      have HA := Lib.hid hat
      subst ea
      clear hs hat h1 h2 h3
      have HIL : Hid (T.all.length ≤ 2000) := Lib.hid (Nat.le_trans hi.out.len (by have := HN.out; omega))
      cases f1 : decide (wo < 0) with
      | true =>
       go_wp2_with (first
        | ((with_reducible show wpList _ _ _ (⟨some 61, _, _, _, _, _⟩ :: _) _ _); refine wpList_loadv _ rfl 55 (.tmp 60) rfl 4 (by kernel_rfl) ga (oa + k * 4) (acC ⟨kd, wo, ot, st⟩) (by go_simp) HA.out rfl ?_)
        | ((with_reducible show wpList _ _ _ (⟨some 9, _, _, _, _, _⟩ :: _) _ _); refine wpList_alloc _ rfl 55 rfl acZ acZero ?_; intro w5 a1 a2 a3; have HV5 := Lib.hid a1; have HX5 := Lib.hid a2; clear a1 a2 a3)
        | ((with_reducible show wpList _ _ _ (⟨none, _, _, _, _, _⟩ :: _) _ _); refine wpList_storev _ rfl 55 (.tmp 9) (.tmp 61) rfl 4 (by kernel_rfl) wx.heap.size 0 _ acZ (acC ⟨kd, wo, ot, st⟩) rfl rfl HV5.out rfl (one_val _ rfl) (by decide) ?_; intro w6 a1 a2 a3; rw [splice_ac] at a1; have HV6 := Lib.hid a1; have HX6 : Hid (Below wx.heap.size wx w6) := Lib.hid (low_kp HX5.out a2 (fun i hi e => by omega)); have p1 := HV6.out.get (j := 1) rfl; have p2 := HV6.out.get (j := 2) rfl; clear a1 a2 a3)
        | fail)
       go_ret
       exact ⟨rfl, below_thenB ht.out.low ht.out.low.size HX6.out⟩
      | false =>
      cases f2 : decide (2 < wo) with
      | true =>
       go_wp2_with (first
        | ((with_reducible show wpList _ _ _ (⟨some 61, _, _, _, _, _⟩ :: _) _ _); refine wpList_loadv _ rfl 55 (.tmp 60) rfl 4 (by kernel_rfl) ga (oa + k * 4) (acC ⟨kd, wo, ot, st⟩) (by go_simp) HA.out rfl ?_)
        | ((with_reducible show wpList _ _ _ (⟨some 9, _, _, _, _, _⟩ :: _) _ _); refine wpList_alloc _ rfl 55 rfl acZ acZero ?_; intro w5 a1 a2 a3; have HV5 := Lib.hid a1; have HX5 := Lib.hid a2; clear a1 a2 a3)
        | ((with_reducible show wpList _ _ _ (⟨none, _, _, _, _, _⟩ :: _) _ _); refine wpList_storev _ rfl 55 (.tmp 9) (.tmp 61) rfl 4 (by kernel_rfl) wx.heap.size 0 _ acZ (acC ⟨kd, wo, ot, st⟩) rfl rfl HV5.out rfl (one_val _ rfl) (by decide) ?_; intro w6 a1 a2 a3; rw [splice_ac] at a1; have HV6 := Lib.hid a1; have HX6 : Hid (Below wx.heap.size wx w6) := Lib.hid (low_kp HX5.out a2 (fun i hi e => by omega)); have p1 := HV6.out.get (j := 1) rfl; have p2 := HV6.out.get (j := 2) rfl; clear a1 a2 a3)
        | fail)
       go_ret
       exact ⟨rfl, below_thenB ht.out.low ht.out.low.size HX6.out⟩
      | false =>
      cases f3 : decide (ot < 0) with
      | true =>
       go_wp2_with (first
        | ((with_reducible show wpList _ _ _ (⟨some 61, _, _, _, _, _⟩ :: _) _ _); refine wpList_loadv _ rfl 55 (.tmp 60) rfl 4 (by kernel_rfl) ga (oa + k * 4) (acC ⟨kd, wo, ot, st⟩) (by go_simp) HA.out rfl ?_)
        | ((with_reducible show wpList _ _ _ (⟨some 9, _, _, _, _, _⟩ :: _) _ _); refine wpList_alloc _ rfl 55 rfl acZ acZero ?_; intro w5 a1 a2 a3; have HV5 := Lib.hid a1; have HX5 := Lib.hid a2; clear a1 a2 a3)
        | ((with_reducible show wpList _ _ _ (⟨none, _, _, _, _, _⟩ :: _) _ _); refine wpList_storev _ rfl 55 (.tmp 9) (.tmp 61) rfl 4 (by kernel_rfl) wx.heap.size 0 _ acZ (acC ⟨kd, wo, ot, st⟩) rfl rfl HV5.out rfl (one_val _ rfl) (by decide) ?_; intro w6 a1 a2 a3; rw [splice_ac] at a1; have HV6 := Lib.hid a1; have HX6 : Hid (Below wx.heap.size wx w6) := Lib.hid (low_kp HX5.out a2 (fun i hi e => by omega)); have p1 := HV6.out.get (j := 1) rfl; have p2 := HV6.out.get (j := 2) rfl; clear a1 a2 a3)
        | fail)
       go_ret
       exact ⟨rfl, below_thenB ht.out.low ht.out.low.size HX6.out⟩
      | false =>
      cases f4 : decide (2 < ot) with
      | true =>
       go_wp2_with (first
        | ((with_reducible show wpList _ _ _ (⟨some 61, _, _, _, _, _⟩ :: _) _ _); refine wpList_loadv _ rfl 55 (.tmp 60) rfl 4 (by kernel_rfl) ga (oa + k * 4) (acC ⟨kd, wo, ot, st⟩) (by go_simp) HA.out rfl ?_)
        | ((with_reducible show wpList _ _ _ (⟨some 9, _, _, _, _, _⟩ :: _) _ _); refine wpList_alloc _ rfl 55 rfl acZ acZero ?_; intro w5 a1 a2 a3; have HV5 := Lib.hid a1; have HX5 := Lib.hid a2; clear a1 a2 a3)
        | ((with_reducible show wpList _ _ _ (⟨none, _, _, _, _, _⟩ :: _) _ _); refine wpList_storev _ rfl 55 (.tmp 9) (.tmp 61) rfl 4 (by kernel_rfl) wx.heap.size 0 _ acZ (acC ⟨kd, wo, ot, st⟩) rfl rfl HV5.out rfl (one_val _ rfl) (by decide) ?_; intro w6 a1 a2 a3; rw [splice_ac] at a1; have HV6 := Lib.hid a1; have HX6 : Hid (Below wx.heap.size wx w6) := Lib.hid (low_kp HX5.out a2 (fun i hi e => by omega)); have p1 := HV6.out.get (j := 1) rfl; have p2 := HV6.out.get (j := 2) rfl; clear a1 a2 a3)
        | fail)
       go_ret
       exact ⟨rfl, below_thenB ht.out.low ht.out.low.size HX6.out⟩
      | false =>
      obtain ⟨u, hu, rfl⟩ : ∃ u : Nat, u < 3 ∧ wo = (u : Int) := ⟨wo.toNat, by have := of_decide_eq_false f1; have := of_decide_eq_false f2; omega, by have := of_decide_eq_false f1; omega⟩
      obtain ⟨o, ho, rfl⟩ : ∃ o : Nat, o < 3 ∧ ot = (o : Int) := ⟨ot.toNat, by have := of_decide_eq_false f3; have := of_decide_eq_false f4; omega, by have := of_decide_eq_false f3; omega⟩
      go_wp2_with (first
       | ((with_reducible show wpList _ _ _ (⟨some 61, _, _, _, _, _⟩ :: _) _ _); refine wpList_loadv _ rfl 55 (.tmp 60) rfl 4 (by kernel_rfl) ga (oa + k * 4) (acC ⟨kd, (u : Int), (o : Int), st⟩) (by go_simp) HA.out rfl ?_)
       | ((with_reducible show wpList _ _ _ (⟨some 9, _, _, _, _, _⟩ :: _) _ _); refine wpList_alloc _ rfl 55 rfl acZ acZero ?_; intro w5 a1 a2 a3; have HV5 := Lib.hid a1; have HX5 := Lib.hid a2; clear a1 a2 a3)
       | ((with_reducible show wpList _ _ _ (⟨none, _, _, _, _, _⟩ :: _) _ _); refine wpList_storev _ rfl 55 (.tmp 9) (.tmp 61) rfl 4 (by kernel_rfl) wx.heap.size 0 _ acZ (acC ⟨kd, (u : Int), (o : Int), st⟩) rfl rfl HV5.out rfl (one_val _ rfl) (by decide) ?_; intro w6 a1 a2 a3; rw [splice_ac] at a1; have HV6 := Lib.hid a1; have HX6 : Hid (Below wx.heap.size wx w6) := Lib.hid (low_kp HX5.out a2 (fun i hi e => by omega)); have p1 := HV6.out.get (j := 1) rfl; have p2 := HV6.out.get (j := 2) rfl; clear a1 a2 a3)
       | ((with_reducible show wpList _ _ _ (⟨some 81, _, _, _, _, _⟩ :: _) _ _); refine wpList_loadv _ rfl 55 (.tmp 9) rfl 4 (by kernel_rfl) wx.heap.size 0 (acC ⟨kd, (u : Int), (o : Int), st⟩) rfl (BL.all HV6.out) rfl ?_)
       | (go_at_call 21; refine (do_any w w1.heap.size T v u o kd st w6 (ht.out.kept HX6.out) hi.out.l HIL.out hu ho).mono ?_; rintro e w8 ⟨rfl, v8, x1⟩; have HT8 := Lib.hid x1; clear x1))
      clear f1 f2 f3 f4
      obtain ⟨X, hX⟩ : ∃ X, X = stepT T kd u o st := ⟨_, rfl⟩
      have HIX : Hid (Inv three (k + 1) (41 * (k + 1)) X) := Lib.hid (by rw [hX]; exact step_inv hi.out (by have := HN.out; omega) hu ho kd st)
      rw [← hX] at HT8
      have HXL : Hid (X.all.length ≤ 2000) := Lib.hid (Nat.le_trans HIX.out.len (by have := HN.out; omega))
      clear hX
      go_loopw [10, 11] (fun av iv wr => ∃ (d : Nat) (z : Value), d ≤ 3 ∧ iv = .int .i64 (d : Int) ∧ z = av ∧ Hid (OL rEnT 6 33 w8 wr z (allK X d)) ∧ Hid (Below w8.heap.size w8 wr)) (fun _ iv _ => 3 - (intOf iv).toNat)
      case atStart => exact ⟨0, _, by omega, rfl, rfl, Lib.hid (OL.nil _ _ _ _ _), Lib.hid (Below.refl _ _)⟩
      case round =>
       obtain ⟨d, z, hd, rfl, rfl, ho1, hb⟩ := hrel
       obtain ⟨wy, hwy⟩ : ∃ x, x = wr := ⟨_, rfl⟩
       rw [← hwy] at ho1 hb ⊢
       clear hwy
       by_cases hlt : d < 3
       ·
        obtain ⟨m, hm⟩ : ∃ m, m = (X.lg d).length := ⟨_, rfl⟩
        obtain ⟨Ad, cd, hv, hls⟩ := HT8.out.ls hlt (Nat.le_trans (lg_len hlt) (Nat.le_trans HXL.out (by decide)))
        rw [← hm] at hv hls
        have q0 : wy.cell? ⟨w1.heap.size, d, none⟩ = some (.slice Ad m cd) := by rw [← hv]; exact (HT8.out.kept hb.out).cl hlt
        have HLS := Lib.hid hls
        have HVL : Hid ((allK X d).length + m ≤ 2000) := Lib.hid (by rw [hm]; exact Nat.le_trans (allK_len X hlt) HXL.out)
        have hd' : (d : Int) < 3 := by omega
        clear hm hv hls
        go_wp2_with (first
         | ((with_reducible show wpList _ _ _ (⟨some 95, _, _, _, _, _⟩ :: _) _ _); obtain ⟨iS, i1, i2, i3, i4⟩ := info_some infoEn; refine wpList_plain rfl fun K hK => wp_appOL2 _ (.tmp 88) (.tmp 94) iS _ rfl Tryz.underlying22 i1 i2 i3 rfl _ rfl ho1.out hb.out rfl HLS.out (fun _ _ h => len_ent _ _ h) (fun _ _ h => ones_ent _ _ h) (by rw [i4]; have := HVL.out; omega) (by have := HVL.out; omega) (fun v4 w9 q1 q2 q3 => hK _ _ ?_); have HO9 := Lib.hid q1; have HB9 := Lib.hid q2; clear hK K q1 q2 q3 i1 i2 i3 i4))
        go_roundw
        case rel => exact ⟨d + 1, _, by omega, by go_num, rfl, HO9, HB9⟩
        case measure => simp [intOf]; omega
       ·
        obtain rfl : d = 3 := by omega
        have ho3 := ho1.out
        rw [allK_3] at ho3
        obtain ⟨A9, c9, rfl, hls⟩ := ho3.ls (b := 72) stay_ent hb.out (by have := HXL.out; unfold lim; omega)
        have HLE : Hid (LS rEn 6 72 wy A9 X.all.length c9 X.all) := Lib.hid (hls.mono fun _ _ h => h.1)
        clear hls ho3 ho1
        go_wp2_with fail
        go_loopw [12, 13] (fun ev iv wr => ∃ (d : Nat) (z : Value), d ≤ 3 ∧ iv = .int .i64 (d : Int) ∧ z = ev ∧ Hid (OL rInt 1 3 wy wr z (exK X d)) ∧ Hid (Below wy.heap.size wy wr)) (fun _ iv _ => 3 - (intOf iv).toNat)
        case atStart => exact ⟨0, _, by omega, rfl, rfl, Lib.hid (OL.nil _ _ _ _ _), Lib.hid (Below.refl _ _)⟩
        case round =>
         obtain ⟨d, z, hd, rfl, rfl, ho2, hb2⟩ := hrel
         obtain ⟨wz, hwz⟩ : ∃ x, x = wr := ⟨_, rfl⟩
         rw [← hwz] at ho2 hb2 ⊢
         clear hwz
         by_cases hlt : d < 3
         ·
          have hd' : (d : Int) < 3 := by omega
          have q1 := (HT8.out.kept (below_then hb.out hb2.out)).ce hlt
          have HST := Lib.hid (exK_step X d)
          have HKL := Lib.hid (exK_len X d)
          cases c1 : X.ex d with
          | false =>
           rw [c1] at q1 HST
           go_wp2_with fail
           go_roundw
           case rel => exact ⟨d + 1, _, by omega, by go_num, rfl, Lib.hid (by rw [HST.out]; simpa using ho2.out), hb2⟩
           case measure => simp [intOf]; omega
          | true =>
           rw [c1] at q1 HST
           go_wp2_with (first
            | ((with_reducible show wpList _ _ _ (⟨some 108, _, _, _, _, _⟩ :: _) _ _); refine wpList_bslice _ rfl 23 3 1 _ rfl #[(0, .int .i64 (d : Int))] (by rw [List.map_toArray]; rfl) [.int .i64 (d : Int)] (bslI _ _) ?_; intro w10 y1 y2 y3; have HO10 := Lib.hid (ho2.out.kept y2); have HB10 := Lib.hid (below_thenB hb2.out hb2.out.size y2); have HG10 := Lib.hid y1; clear y1 y2 y3)
            | ((with_reducible show wpList _ _ _ (⟨some 109, _, _, _, _, _⟩ :: _) _ _); obtain ⟨iS, i1, i2, i3, i4⟩ := info_some infoI; obtain ⟨css, hC1, hC2, hC3, hC4, hC5⟩ := HO10.out; refine wpList_appRW _ rfl (.tmp 106) (.tmp 108) 23 3 1 iS _ rfl Tryz.underlying23 i1 i2 i3 rfl z _ _ rfl hC4 wz.heap.size [.int .i64 (d : Int)] rfl HG10.out rfl (one_val _ rfl) (by rw [i4]; have := HKL.out; omega) (by have := HKL.out; omega) ?_; intro v' w11 ap; have HO11 := Lib.hid (OL.push hC1 hC2 hC3 hC5 rfl rfl ⟨rfl, wf_small (by omega) (by omega)⟩ HB10.out.size ap); have HB11 : Hid (Below wy.heap.size wy w11) := Lib.hid (low_kp HB10.out ap.kp (fun i hi e => by have := hC5 i e; omega)); clear i1 i2 i3 i4 hC1 hC2 hC3 hC4 hC5 ap))
           go_roundw
           case rel => exact ⟨d + 1, by omega, by omega, Lib.hid (by rw [HST.out]; exact HO11.out)⟩
           case measure => simp [intOf]; omega
         ·
          obtain rfl : d = 3 := by omega
          have ho4 := ho2.out
          rw [exK_3] at ho4
          obtain ⟨A10, c10, rfl, hls⟩ := ho4.ls (b := 8) stay_int hb2.out (by have := exK_len X 3; rw [exK_3] at this; unfold lim; omega)
          have HEX := Lib.hid hls
          obtain ⟨S0, hS0⟩ : ∃ S, S = dropL (dd X.all) 0 X.exL := ⟨_, rfl⟩
          have HS0 : Hid (dropL (dd X.all) 0 X.exL = S0) := Lib.hid hS0.symm
          clear hS0 hls ho4 ho2
          go_wp2_with (first
           | (go_at_call 14; refine (dropped_any A9 _ c9 X.all 0 A10 _ c10 X.exL wz (HLE.out.kept stay_en hb2.out) HXL.out HEX.out).mono ?_; unfold StrN; rw [HS0.out]; rintro e w12 ⟨A12, c12, rfl, x1, _, x3⟩; have HD12 := Lib.hid x1; have HF12 := Lib.hid (below_then (below_then hb.out hb2.out) x3); clear x1 x3))
          go_loopw [15] (fun iv wr => ∃ t : Nat, t ≤ 3 ∧ iv = .int .i64 (t : Int) ∧ Hid (Below w12.heap.size w12 wr)) (fun iv _ => 3 - (intOf iv).toNat)
          case atStart => exact ⟨0, by omega, rfl, Lib.hid (Below.refl _ _)⟩
          case round =>
           obtain ⟨t, htt, rfl, hb3⟩ := hrel
           obtain ⟨wt, hwt⟩ : ∃ x, x = wr := ⟨_, rfl⟩
           rw [← hwt] at hb3 ⊢
           clear hwt
           by_cases hlt : t < 3
           ·
            have ht' : (t : Int) < 3 := by omega
            have q1 := (HT8.out.kept (below_then HF12.out hb3.out)).ce hlt
            cases c1 : X.ex t with
            | true =>
             rw [c1] at q1
             go_wp2_with fail
             go_roundw
             case rel => exact ⟨t + 1, by omega, by go_num, hb3⟩
             case measure => simp [intOf]; omega
            | false =>
             rw [c1] at q1
             obtain ⟨N, hN⟩ : ∃ N, N = X.needed t := ⟨_, rfl⟩
             have HNE : Hid (X.needed t = N) := Lib.hid hN.symm
             have HNS : Hid (∀ s ∈ N, hasB S0 s = false) := Lib.hid (fun s hs => by rw [← HS0.out]; rw [hN] at hs; exact no_drop HIX.out (by have := HN.out; omega) hlt c1 hs)
             clear hN
             go_wp2_with (first
              | (go_at_call 22; refine (needed_any w w1.heap.size X v8 t wt (HT8.out.kept (below_then HF12.out hb3.out)) hlt).mono ?_; rw [HNE.out]; rintro e w13 ⟨A13, c13, rfl, x1, x3⟩; have HL13 := Lib.hid x1; have HX13 := Lib.hid (below_then hb3.out x3); have hn13 := x1.len_le; have HD13 := Lib.hid (HD12.out.kept stay_str HX13.out); clear x1 x3))
             clear q1
             go_loopw [127] (fun iv wr => ∃ i : Nat, i ≤ N.length ∧ iv = .int .i64 (i : Int) ∧ wr = w13) (fun iv _ => N.length - (intOf iv).toNat)
             case atStart => exact ⟨0, by omega, rfl, rfl⟩
             case round =>
              obtain ⟨i, hi2, rfl, rfl⟩ := hrel
              by_cases hin : i < N.length
              ·
               obtain ⟨s, gs, os, hss, es', p1⟩ := HL13.out.str_at (Below.refl _ _) hin
               have HHS := Lib.hid (HNS.out s (mem_of hss))
               subst es'
               clear hss
               go_wp2_with (first
                | (go_at_call 17; refine (has_any _ _ _ S0 s _ HD13.out).mono ?_; rintro e w14 ⟨rfl, hw⟩; rw [hw, HHS.out]; clear hw w14))
               go_roundw
               case rel => exact ⟨i + 1, by omega, by go_num, trivial⟩
               case measure => simp [intOf]; omega
              ·
               obtain rfl : i = N.length := by omega
               go_wp2_with fail
               go_roundw
               case rel => exact ⟨t + 1, by omega, by go_num, HX13⟩
               case measure => simp [intOf]; omega
           ·
            obtain rfl : t = 3 := by omega
            go_wp2_with fail
            go_roundw
            case rel => exact ⟨k + 1, X, v8, by omega, by go_num, Lib.hid (HT8.out.kept (below_then HF12.out hb3.out)), HIX⟩
            case measure => simp [intOf]; omega
     ·
      obtain rfl : k = n := by omega
      go_wp2_with fail
      go_ret
      exact ⟨rfl, ht.out.low⟩
end
end Go.Proofs.YtfonbliomokffaaGreat
