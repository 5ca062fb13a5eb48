/- The reference's IsSafe for a forgetting and a proposal. -/
import Derived.Test.YtboglaokdgnpaaaWmm
namespace Go.Proofs.Ytboglaokdgnpaaa
open Go Go.RowKit Gf Sha

set_option maxRecDepth 100000 in
set_option maxHeartbeats 4000000 in
theorem issafe4 (cx cs : List Value) (y : Si) (t : Stp) (w : World) (hx : rSi w cx y) (h : rStp w cs t) (hk : t.kind = 4) :
  Calls Try.prog 30 #[.agg cx.toArray, .agg cs.toArray] w fun e w' => e = .returned (.bool (rSafe y t)) ∧ Below w.heap.size w w' := by
 obtain ⟨a0, n0, c0, a1, n1, c1, a2, n2, c2, a3, n3, c3, a4, n4, c4, a5, n5, c5, rfl, hq⟩ := hx
 obtain ⟨A0, m0, k0, A1, m1, k1, rfl, h0, _, _⟩ := h
 have HQ := Lib.hid hq
 have hm := h0.len_le
 have HI := Lib.hid h0
 have HL := Lib.hid h0.1
 have HR : Hid (rSafe y t = t.sts.all (fg2 y)) := Lib.hid (by rw [rSafe, if_neg (by omega), if_pos hk])
 have f3 : (t.kind == 3) = false := by simp [hk]
 have f4 : (t.kind == 4) = true := by simp [hk]
 clear h0 hq hk
 go_enter Try.func30, Try.ntmps30
 go_wp2_with (first
  | ((with_reducible show OpW 2); refine wpList_box _ rfl 26 (.tmp 0) rfl (siC a0 n0 c0 a1 n1 c1 a2 n2 c2 a3 n3 c3 a4 n4 c4 a5 n5 c5 y.pct) rfl ?_; intro w1 y1 y2 y3; have HB1 := Lib.hid y2; have HS1 := Lib.hid y1; clear y1 y2 y3)
  | ((with_reducible show OpW 3); refine wpList_box _ rfl 42 (.tmp 1) rfl (stC t A0 m0 k0 A1 m1 k1) rfl ?_; intro w2 y1 y2 y3; have HT2 := Lib.hid y1; have HX2 := Lib.hid y2; have HB2 := Lib.hid (below_then HB1.out y2); have HS2 := Lib.hid (HS1.out.kept y2); have q0 := HT2.out.get (j := 0) rfl; have q1 := HT2.out.get (j := 1) rfl; clear y1 y2 y3)
  | fail)
 clear q0 q1
 go_loopw [42] (fun iv wr => ∃ k : Nat, k ≤ m0 ∧ iv = .int .i64 (k : Int) ∧ Hid ((t.sts.take k).all (fg2 y) = true) ∧ Hid (Below w2.heap.size w2 wr)) (fun iv _ => m0 - (intOf iv).toNat)
 case atStart => exact ⟨0, by omega, rfl, Lib.hid rfl, Lib.hid (Below.refl _ _)⟩
 case round =>
  obtain ⟨k, hk, rfl, hall, hb⟩ := hrel
  obtain ⟨wx, hwx⟩ : ∃ x, x = wr := ⟨_, rfl⟩
  rw [← hwx] at hb ⊢
  clear hwx
  have HBx := Lib.hid (below_thenB HB2.out HB2.out.size hb.out)
  have HB1x := Lib.hid (below_then HX2.out hb.out)
  by_cases hlt : k < m0
  ·
   obtain ⟨id, g, o, hs, ea, p1⟩ := HI.out.str_at HBx.out hlt
   have HX := Lib.hid hs
   have HSx := Lib.hid (HS2.out.kept hb.out)
   subst ea
   clear hs
   cases hf : (findS y id).isSome with
   | false =>
    have HB : Hid (rSafe y t = false) := Lib.hid (by rw [HR.out, all_miss HX.out (by rw [fg2, hf]; rfl)])
    go_wp2_with (first
     | ((with_reducible show OpW 47); refine wpList_loadv _ rfl 26 (.tmp 2) rfl 7 (by kernel_rfl) w.heap.size 0 _ rfl (BL.all HSx.out) rfl ?_)
     | (go_at_call 66; refine (find_any _ y id _ (show rSi wx _ _ from ⟨_, _, _, _, _, _, _, _, _, _, _, _, _, _, _, _, _, _, rfl, HQ.out.kept HBx.out⟩)).mono ?_; rintro e w3 ⟨fs, rfl, hfs, b3⟩; rw [hf]; obtain ⟨Af, mf, cf, rfl, _⟩ := hfs; have HX3 := Lib.hid b3; have HS3 := Lib.hid (HSx.out.kept b3); clear b3)
     | ((with_reducible show OpW 7); refine wpList_alloc _ rfl 61 rfl spZ spZero ?_; intro w4 y1 y2 y3; have HV4 := Lib.hid y1; have HX4 := Lib.hid (below_thenB HX3.out HX3.out.size y2); have HS4 := Lib.hid (HS3.out.kept y2); clear y1 y2 y3)
     | ((with_reducible show OpN); refine wpList_storev _ rfl 61 (.tmp 7) (.tmp 50) rfl 6 (by kernel_rfl) w3.heap.size 0 _ spZ (spC ((findS y id).getD spE) Af mf cf) rfl rfl HV4.out rfl (one_sp _ Af mf cf) (by decide) ?_; intro w5 y1 y2 y3; have HX5 : Hid (Below wx.heap.size wx w5) := Lib.hid (((Kp.of_below (S := fun _ => False) HX4.out).after y2 (fun i hi e => by have := HX3.out.size; omega)).below (Nat.le_refl _) (fun _ h => h.elim)); have HS5 := Lib.hid (HS1.out.kept (below_thenB HB1x.out HB1x.out.size HX5.out)); have s3 := HS5.out.get (j := 3) rfl; clear y1 y2 y3)
     | (go_at_call 43; refine (has_any a3 n3 c3 y.drop id _ ((HQ.out.drop.kept stay_str HBx.out).kept stay_str HX5.out)).mono ?_; rintro e wh ⟨rfl, hw⟩; rw [hw]; clear hw wh; rw [hd]))
    go_ret
    exact ⟨ret_bool HB.out.symm, below_thenB HBx.out HBx.out.size HX5.out⟩
   | true =>
    cases hd : hasB y.drop id with
    | false =>
     have HB : Hid (rSafe y t = false) := Lib.hid (by rw [HR.out, all_miss HX.out (by rw [fg2, hd, Bool.and_false])])
     go_wp2_with (first
      | ((with_reducible show OpW 47); refine wpList_loadv _ rfl 26 (.tmp 2) rfl 7 (by kernel_rfl) w.heap.size 0 _ rfl (BL.all HSx.out) rfl ?_)
      | (go_at_call 66; refine (find_any _ y id _ (show rSi wx _ _ from ⟨_, _, _, _, _, _, _, _, _, _, _, _, _, _, _, _, _, _, rfl, HQ.out.kept HBx.out⟩)).mono ?_; rintro e w3 ⟨fs, rfl, hfs, b3⟩; rw [hf]; obtain ⟨Af, mf, cf, rfl, _⟩ := hfs; have HX3 := Lib.hid b3; have HS3 := Lib.hid (HSx.out.kept b3); clear b3)
      | ((with_reducible show OpW 7); refine wpList_alloc _ rfl 61 rfl spZ spZero ?_; intro w4 y1 y2 y3; have HV4 := Lib.hid y1; have HX4 := Lib.hid (below_thenB HX3.out HX3.out.size y2); have HS4 := Lib.hid (HS3.out.kept y2); clear y1 y2 y3)
      | ((with_reducible show OpN); refine wpList_storev _ rfl 61 (.tmp 7) (.tmp 50) rfl 6 (by kernel_rfl) w3.heap.size 0 _ spZ (spC ((findS y id).getD spE) Af mf cf) rfl rfl HV4.out rfl (one_sp _ Af mf cf) (by decide) ?_; intro w5 y1 y2 y3; have HX5 : Hid (Below wx.heap.size wx w5) := Lib.hid (((Kp.of_below (S := fun _ => False) HX4.out).after y2 (fun i hi e => by have := HX3.out.size; omega)).below (Nat.le_refl _) (fun _ h => h.elim)); have HS5 := Lib.hid (HS1.out.kept (below_thenB HB1x.out HB1x.out.size HX5.out)); have s3 := HS5.out.get (j := 3) rfl; clear y1 y2 y3)
      | (go_at_call 43; refine (has_any a3 n3 c3 y.drop id _ ((HQ.out.drop.kept stay_str HBx.out).kept stay_str HX5.out)).mono ?_; rintro e wh ⟨rfl, hw⟩; rw [hw]; clear hw wh; rw [hd]))
     go_ret
     exact ⟨ret_bool HB.out.symm, below_thenB HBx.out HBx.out.size HX5.out⟩
    | true =>
     have HB := Lib.hid (all_step HX.out hall.out (by rw [fg2, hf, hd]; rfl))
     go_wp2_with (first
      | ((with_reducible show OpW 47); refine wpList_loadv _ rfl 26 (.tmp 2) rfl 7 (by kernel_rfl) w.heap.size 0 _ rfl (BL.all HSx.out) rfl ?_)
      | (go_at_call 66; refine (find_any _ y id _ (show rSi wx _ _ from ⟨_, _, _, _, _, _, _, _, _, _, _, _, _, _, _, _, _, _, rfl, HQ.out.kept HBx.out⟩)).mono ?_; rintro e w3 ⟨fs, rfl, hfs, b3⟩; rw [hf]; obtain ⟨Af, mf, cf, rfl, _⟩ := hfs; have HX3 := Lib.hid b3; have HS3 := Lib.hid (HSx.out.kept b3); clear b3)
      | ((with_reducible show OpW 7); refine wpList_alloc _ rfl 61 rfl spZ spZero ?_; intro w4 y1 y2 y3; have HV4 := Lib.hid y1; have HX4 := Lib.hid (below_thenB HX3.out HX3.out.size y2); have HS4 := Lib.hid (HS3.out.kept y2); clear y1 y2 y3)
      | ((with_reducible show OpN); refine wpList_storev _ rfl 61 (.tmp 7) (.tmp 50) rfl 6 (by kernel_rfl) w3.heap.size 0 _ spZ (spC ((findS y id).getD spE) Af mf cf) rfl rfl HV4.out rfl (one_sp _ Af mf cf) (by decide) ?_; intro w5 y1 y2 y3; have HX5 : Hid (Below wx.heap.size wx w5) := Lib.hid (((Kp.of_below (S := fun _ => False) HX4.out).after y2 (fun i hi e => by have := HX3.out.size; omega)).below (Nat.le_refl _) (fun _ h => h.elim)); have HS5 := Lib.hid (HS1.out.kept (below_thenB HB1x.out HB1x.out.size HX5.out)); have s3 := HS5.out.get (j := 3) rfl; clear y1 y2 y3)
      | (go_at_call 43; refine (has_any a3 n3 c3 y.drop id _ ((HQ.out.drop.kept stay_str HBx.out).kept stay_str HX5.out)).mono ?_; rintro e wh ⟨rfl, hw⟩; rw [hw]; clear hw wh; rw [hd]))
     go_roundw
     case rel => exact ⟨k + 1, by omega, by go_num, HB, Lib.hid (below_thenB hb.out hb.out.size HX5.out)⟩
     case measure => simp [intOf]; omega
  ·
   obtain rfl : k = m0 := by omega
   have HB : Hid (rSafe y t = true) := Lib.hid (by have h9 := hall.out; rw [take_end HL.out] at h9; rw [HR.out, h9])
   go_wp2_with fail
   go_ret
   exact ⟨ret_bool HB.out.symm, HBx.out⟩
theorem found_id {y : Si} {id : List UInt8} (h : (findS y id).isSome = true) : ((findS y id).getD spE).id = id := by
 obtain ⟨s, hs⟩ := Option.isSome_iff_exists.1 h
 rw [hs]
 have := List.find?_some hs
 simpa using this
set_option maxRecDepth 100000 in
set_option maxHeartbeats 4000000 in
theorem issafe2 (cx cs : List Value) (y : Si) (t : Stp) (w : World) (hx : rSi w cx y) (h : rStp w cs t) (hk : t.kind = 2) (hbd : y.cond.length + t.sts.length ≤ 100000) :
  Calls Try.prog 30 #[.agg cx.toArray, .agg cs.toArray] w fun e w' => e = .returned (.bool (rSafe y t)) ∧ Below w.heap.size w w' := by
 obtain ⟨a0, n0, c0, a1, n1, c1, a2, n2, c2, a3, n3, c3, a4, n4, c4, a5, n5, c5, rfl, hq⟩ := hx
 obtain ⟨A0, m0, k0, A1, m1, k1, rfl, h0, _, _⟩ := h
 have HQ := Lib.hid hq
 have hm := h0.len_le
 have HI := Lib.hid h0
 have HL := Lib.hid h0.1
 have HBD : Hid (y.cond.length + m0 ≤ 100000) := Lib.hid (by rw [← h0.1]; exact hbd)
 have HR : Hid (rSafe y t = (t.sts.all (lv2 y) && decide ((uncov (condY y t.sts)).length = (uncov y).length))) := Lib.hid (by rw [rSafe, if_neg (by omega), if_neg (by omega), if_neg (by omega), if_pos hk])
 have f3 : (t.kind == 3) = false := by simp [hk]
 have f4 : (t.kind == 4) = false := by simp [hk]
 have f1 : (t.kind == 1) = false := by simp [hk]
 have f2 : (t.kind == 2) = true := by simp [hk]
 clear h0 hq hk hbd
 go_enter Try.func30, Try.ntmps30
 go_wp2_with (first
  | ((with_reducible show OpW 2); refine wpList_box _ rfl 26 (.tmp 0) rfl (siC a0 n0 c0 a1 n1 c1 a2 n2 c2 a3 n3 c3 a4 n4 c4 a5 n5 c5 y.pct) rfl ?_; intro w1 y1 y2 y3; have HB1 := Lib.hid y2; have HS1 := Lib.hid y1; clear y1 y2 y3)
  | ((with_reducible show OpW 3); refine wpList_box _ rfl 42 (.tmp 1) rfl (stC t A0 m0 k0 A1 m1 k1) rfl ?_; intro w2 y1 y2 y3; have HT2 := Lib.hid y1; have HX2 := Lib.hid y2; have HB2 := Lib.hid (below_then HB1.out y2); have HS2 := Lib.hid (HS1.out.kept y2); have q0 := HT2.out.get (j := 0) rfl; have q1 := HT2.out.get (j := 1) rfl; clear y1 y2 y3)
  | fail)
 clear q0 q1
 go_loopw [106] (fun iv wr => ∃ k : Nat, k ≤ m0 ∧ iv = .int .i64 (k : Int) ∧ Hid ((t.sts.take k).all (lv2 y) = true) ∧ Hid (Below w2.heap.size w2 wr)) (fun iv _ => m0 - (intOf iv).toNat)
 case atStart => exact ⟨0, by omega, rfl, Lib.hid rfl, Lib.hid (Below.refl _ _)⟩
 case round =>
  obtain ⟨k, hk, rfl, hall, hb⟩ := hrel
  obtain ⟨wx, hwx⟩ : ∃ x, x = wr := ⟨_, rfl⟩
  rw [← hwx] at hb ⊢
  clear hwx
  have HBx := Lib.hid (below_thenB HB2.out HB2.out.size hb.out)
  have HB1x := Lib.hid (below_then HX2.out hb.out)
  have HSx := Lib.hid (HS2.out.kept hb.out)
  by_cases hlt : k < m0
  ·
   obtain ⟨id, g, o, hs, ea, p1⟩ := HI.out.str_at HBx.out hlt
   have HX := Lib.hid hs
   subst ea
   clear hs
   cases hf : (findS y id).isSome with
   | false =>
    have HB : Hid (rSafe y t = false) := Lib.hid (by rw [HR.out, all_miss HX.out (by rw [lv2, hf]; rfl)]; rfl)
    go_wp2_with (first
     | ((with_reducible show OpW 111); refine wpList_loadv _ rfl 26 (.tmp 2) rfl 7 (by kernel_rfl) w.heap.size 0 _ rfl (BL.all HSx.out) rfl ?_)
     | (go_at_call 66; refine (find_any _ y id _ (show rSi wx _ _ from ⟨_, _, _, _, _, _, _, _, _, _, _, _, _, _, _, _, _, _, rfl, HQ.out.kept HBx.out⟩)).mono ?_; rintro e w3 ⟨fs, rfl, hfs, b3⟩; rw [hf]; have HFS := Lib.hid hfs; obtain ⟨Af, mf, cf, rfl, _⟩ := hfs; have HX3 := Lib.hid b3; have HS3 := Lib.hid (HSx.out.kept b3); clear b3)
     | ((with_reducible show OpW 18); refine wpList_alloc _ rfl 61 rfl spZ spZero ?_; intro w4 y1 y2 y3; have HV4 := Lib.hid y1; have HX4 := Lib.hid (below_thenB HX3.out HX3.out.size y2); have HY4 := Lib.hid y2; clear y1 y2 y3)
     | ((with_reducible show OpN); refine wpList_storev _ rfl 61 (.tmp 18) (.tmp 114) rfl 6 (by kernel_rfl) w3.heap.size 0 _ spZ (spC ((findS y id).getD spE) Af mf cf) rfl rfl HV4.out rfl (one_sp _ Af mf cf) (by decide) ?_; intro w5 y1 y2 y3; have HV5 : Hid (BL w5 w3.heap.size 61 (spC ((findS y id).getD spE) Af mf cf)) := Lib.hid y1; have HX5 : Hid (Below wx.heap.size wx w5) := Lib.hid (((Kp.of_below (S := fun _ => False) HX4.out).after y2 (fun i hi e => by have := HX3.out.size; omega)).below (Nat.le_refl _) (fun _ h => h.elim)); have HY5 : Hid (Below w3.heap.size w3 w5) := Lib.hid (((Kp.of_below (S := fun _ => False) HY4.out).after y2 (fun i hi e => by omega)).below (Nat.le_refl _) (fun _ h => h.elim)); have HS5 := Lib.hid (HS1.out.kept (below_thenB HB1x.out HB1x.out.size HX5.out)); clear y1 y2 y3)
     | ((with_reducible show OpW 119); refine wpList_loadvg _ rfl 26 (.tmp 2) rfl 7 (by kernel_rfl) w.heap.size 0 _ rfl (BL.all HS5.out) rfl ?_)
     | ((with_reducible show OpW 120); refine wpList_loadvg _ rfl 61 (.tmp 18) rfl 6 (by kernel_rfl) w3.heap.size 0 (spC ((findS y id).getD spE) Af mf cf) rfl (BL.all HV5.out) rfl ?_)
     | (go_at_call 45; refine (live_any _ _ y ((findS y id).getD spE) _ (show rSi w5 _ _ from ⟨_, _, _, _, _, _, _, _, _, _, _, _, _, _, _, _, _, _, rfl, HQ.out.kept (below_thenB HBx.out HBx.out.size HX5.out)⟩) (stay_sp _ _ _ _ HFS.out HY5.out)).mono ?_; rintro e w6 ⟨rfl, b6⟩; rw [found_id hf, hl]; have HX6 := Lib.hid (below_thenB HX5.out HX5.out.size b6); clear b6))
    go_ret
    exact ⟨ret_bool HB.out.symm, below_thenB HBx.out HBx.out.size HX5.out⟩
   | true =>
    cases hl : liveB y id with
    | false =>
     have HB : Hid (rSafe y t = false) := Lib.hid (by rw [HR.out, all_miss HX.out (by rw [lv2, hl, Bool.and_false])]; rfl)
     go_wp2_with (first
      | ((with_reducible show OpW 111); refine wpList_loadv _ rfl 26 (.tmp 2) rfl 7 (by kernel_rfl) w.heap.size 0 _ rfl (BL.all HSx.out) rfl ?_)
      | (go_at_call 66; refine (find_any _ y id _ (show rSi wx _ _ from ⟨_, _, _, _, _, _, _, _, _, _, _, _, _, _, _, _, _, _, rfl, HQ.out.kept HBx.out⟩)).mono ?_; rintro e w3 ⟨fs, rfl, hfs, b3⟩; rw [hf]; have HFS := Lib.hid hfs; obtain ⟨Af, mf, cf, rfl, _⟩ := hfs; have HX3 := Lib.hid b3; have HS3 := Lib.hid (HSx.out.kept b3); clear b3)
      | ((with_reducible show OpW 18); refine wpList_alloc _ rfl 61 rfl spZ spZero ?_; intro w4 y1 y2 y3; have HV4 := Lib.hid y1; have HX4 := Lib.hid (below_thenB HX3.out HX3.out.size y2); have HY4 := Lib.hid y2; clear y1 y2 y3)
      | ((with_reducible show OpN); refine wpList_storev _ rfl 61 (.tmp 18) (.tmp 114) rfl 6 (by kernel_rfl) w3.heap.size 0 _ spZ (spC ((findS y id).getD spE) Af mf cf) rfl rfl HV4.out rfl (one_sp _ Af mf cf) (by decide) ?_; intro w5 y1 y2 y3; have HV5 : Hid (BL w5 w3.heap.size 61 (spC ((findS y id).getD spE) Af mf cf)) := Lib.hid y1; have HX5 : Hid (Below wx.heap.size wx w5) := Lib.hid (((Kp.of_below (S := fun _ => False) HX4.out).after y2 (fun i hi e => by have := HX3.out.size; omega)).below (Nat.le_refl _) (fun _ h => h.elim)); have HY5 : Hid (Below w3.heap.size w3 w5) := Lib.hid (((Kp.of_below (S := fun _ => False) HY4.out).after y2 (fun i hi e => by omega)).below (Nat.le_refl _) (fun _ h => h.elim)); have HS5 := Lib.hid (HS1.out.kept (below_thenB HB1x.out HB1x.out.size HX5.out)); clear y1 y2 y3)
      | ((with_reducible show OpW 119); refine wpList_loadvg _ rfl 26 (.tmp 2) rfl 7 (by kernel_rfl) w.heap.size 0 _ rfl (BL.all HS5.out) rfl ?_)
      | ((with_reducible show OpW 120); refine wpList_loadvg _ rfl 61 (.tmp 18) rfl 6 (by kernel_rfl) w3.heap.size 0 (spC ((findS y id).getD spE) Af mf cf) rfl (BL.all HV5.out) rfl ?_)
      | (go_at_call 45; refine (live_any _ _ y ((findS y id).getD spE) _ (show rSi w5 _ _ from ⟨_, _, _, _, _, _, _, _, _, _, _, _, _, _, _, _, _, _, rfl, HQ.out.kept (below_thenB HBx.out HBx.out.size HX5.out)⟩) (stay_sp _ _ _ _ HFS.out HY5.out)).mono ?_; rintro e w6 ⟨rfl, b6⟩; rw [found_id hf, hl]; have HX6 := Lib.hid (below_thenB HX5.out HX5.out.size b6); clear b6))
     go_ret
     exact ⟨ret_bool HB.out.symm, below_thenB HBx.out HBx.out.size HX6.out⟩
    | true =>
     have HB := Lib.hid (all_step HX.out hall.out (by rw [lv2, hf, hl]; rfl))
     go_wp2_with (first
      | ((with_reducible show OpW 111); refine wpList_loadv _ rfl 26 (.tmp 2) rfl 7 (by kernel_rfl) w.heap.size 0 _ rfl (BL.all HSx.out) rfl ?_)
      | (go_at_call 66; refine (find_any _ y id _ (show rSi wx _ _ from ⟨_, _, _, _, _, _, _, _, _, _, _, _, _, _, _, _, _, _, rfl, HQ.out.kept HBx.out⟩)).mono ?_; rintro e w3 ⟨fs, rfl, hfs, b3⟩; rw [hf]; have HFS := Lib.hid hfs; obtain ⟨Af, mf, cf, rfl, _⟩ := hfs; have HX3 := Lib.hid b3; have HS3 := Lib.hid (HSx.out.kept b3); clear b3)
      | ((with_reducible show OpW 18); refine wpList_alloc _ rfl 61 rfl spZ spZero ?_; intro w4 y1 y2 y3; have HV4 := Lib.hid y1; have HX4 := Lib.hid (below_thenB HX3.out HX3.out.size y2); have HY4 := Lib.hid y2; clear y1 y2 y3)
      | ((with_reducible show OpN); refine wpList_storev _ rfl 61 (.tmp 18) (.tmp 114) rfl 6 (by kernel_rfl) w3.heap.size 0 _ spZ (spC ((findS y id).getD spE) Af mf cf) rfl rfl HV4.out rfl (one_sp _ Af mf cf) (by decide) ?_; intro w5 y1 y2 y3; have HV5 : Hid (BL w5 w3.heap.size 61 (spC ((findS y id).getD spE) Af mf cf)) := Lib.hid y1; have HX5 : Hid (Below wx.heap.size wx w5) := Lib.hid (((Kp.of_below (S := fun _ => False) HX4.out).after y2 (fun i hi e => by have := HX3.out.size; omega)).below (Nat.le_refl _) (fun _ h => h.elim)); have HY5 : Hid (Below w3.heap.size w3 w5) := Lib.hid (((Kp.of_below (S := fun _ => False) HY4.out).after y2 (fun i hi e => by omega)).below (Nat.le_refl _) (fun _ h => h.elim)); have HS5 := Lib.hid (HS1.out.kept (below_thenB HB1x.out HB1x.out.size HX5.out)); clear y1 y2 y3)
      | ((with_reducible show OpW 119); refine wpList_loadvg _ rfl 26 (.tmp 2) rfl 7 (by kernel_rfl) w.heap.size 0 _ rfl (BL.all HS5.out) rfl ?_)
      | ((with_reducible show OpW 120); refine wpList_loadvg _ rfl 61 (.tmp 18) rfl 6 (by kernel_rfl) w3.heap.size 0 (spC ((findS y id).getD spE) Af mf cf) rfl (BL.all HV5.out) rfl ?_)
      | (go_at_call 45; refine (live_any _ _ y ((findS y id).getD spE) _ (show rSi w5 _ _ from ⟨_, _, _, _, _, _, _, _, _, _, _, _, _, _, _, _, _, _, rfl, HQ.out.kept (below_thenB HBx.out HBx.out.size HX5.out)⟩) (stay_sp _ _ _ _ HFS.out HY5.out)).mono ?_; rintro e w6 ⟨rfl, b6⟩; rw [found_id hf, hl]; have HX6 := Lib.hid (below_thenB HX5.out HX5.out.size b6); clear b6))
     go_roundw
     case rel => exact ⟨k + 1, by omega, by go_num, HB, Lib.hid (below_thenB hb.out hb.out.size HX6.out)⟩
     case measure => simp [intOf]; omega
  ·
   obtain rfl : k = m0 := by omega
   have HB : Hid (rSafe y t = decide ((uncov (condY y t.sts)).length = (uncov y).length)) := Lib.hid (by have h9 := hall.out; rw [take_end HL.out] at h9; rw [HR.out, h9]; rfl)
   have r1 := (HT2.out.kept hb.out).get (j := 1) rfl
   go_upto_region 40 with (first
    | ((with_reducible show OpW 125); refine wpList_loadv _ rfl 26 (.tmp 2) rfl 7 (by kernel_rfl) w.heap.size 0 _ rfl (BL.all HSx.out) rfl ?_)
    | (go_at_call 67; refine (condemning_any _ y _ (show rSi wx _ _ from ⟨_, _, _, _, _, _, _, _, _, _, _, _, _, _, _, _, _, _, rfl, HQ.out.kept HBx.out⟩) _ _ _ t.sts (HI.out.kept stay_str HBx.out) HBD.out).mono ?_; rintro e w3 ⟨⟨fs, rfl, hfs⟩, bl3⟩; have HFS := Lib.hid hfs; have HX3 := Lib.hid bl3; clear bl3; obtain ⟨b0, k0, d0, b1, k1, d1, b2, k2, d2, b3, k3, d3, b4, k4, d4, b5, k5, d5, rfl, hfq⟩ := hfs; have HFQ := Lib.hid hfq; clear hfq)
    | ((with_reducible show OpW 20); refine wpList_alloc _ rfl 26 rfl siZ siqZero ?_; intro w4 y1 y2 y3; have HV4 := Lib.hid y1; have HX4 := Lib.hid (below_thenB HX3.out HX3.out.size y2); have HY4 := Lib.hid y2; clear y1 y2 y3)
    | ((with_reducible show OpN); refine wpList_storev _ rfl 26 (.tmp 20) (.tmp 128) rfl 7 (by kernel_rfl) w3.heap.size 0 _ siZ (siC b0 k0 d0 b1 k1 d1 b2 k2 d2 b3 k3 d3 b4 k4 d4 b5 k5 d5 (condY y t.sts).pct) rfl rfl HV4.out rfl (one_si _ _ _ _ _ _ _ _ _ _ _ _ _ _ _ _ _ _ _) (by decide) ?_; intro w5 y1 y2 y3; have HV5 : Hid (BL w5 w3.heap.size 26 (siC b0 k0 d0 b1 k1 d1 b2 k2 d2 b3 k3 d3 b4 k4 d4 b5 k5 d5 (condY y t.sts).pct)) := Lib.hid y1; have HX5 : Hid (Below wx.heap.size wx w5) := Lib.hid (((Kp.of_below (S := fun _ => False) HX4.out).after y2 (fun i hi e => by have := HX3.out.size; omega)).below (Nat.le_refl _) (fun _ h => h.elim)); have HY5 : Hid (Below w3.heap.size w3 w5) := Lib.hid (((Kp.of_below (S := fun _ => False) HY4.out).after y2 (fun i hi e => by omega)).below (Nat.le_refl _) (fun _ h => h.elim)); have HS5 := Lib.hid (HS1.out.kept (below_thenB HB1x.out HB1x.out.size HX5.out)); clear y1 y2 y3))
   clear r1
   obtain ⟨u1, hu1⟩ : ∃ n, n = (uncov (condY y t.sts)).length := ⟨_, rfl⟩
   obtain ⟨u2, hu2⟩ : ∃ n, n = (uncov y).length := ⟨_, rfl⟩
   have HU1 := Lib.hid hu1
   have HU2 := Lib.hid hu2
   clear hu1 hu2
   have HBr : Hid (rSafe y t = decide (u1 = u2)) := Lib.hid (by rw [HB.out, HU1.out, HU2.out])
   have hcase : (u1 = u2 ∧ Hid (rSafe y t = true)) ∨ (u1 ≠ u2 ∧ Hid (rSafe y t = false)) := by
    by_cases hu : u1 = u2
    ·
     exact .inl ⟨hu, Lib.hid (by rw [HBr.out, decide_eq_true hu])⟩
    ·
     exact .inr ⟨hu, Lib.hid (by rw [HBr.out, decide_eq_false hu])⟩
   refine Text.wp_region_text (fun w' => Below w5.heap.size w5 w') [(0, 0), (3, 0), (1, 2), (2, 4), (4, 2), (5, 4), (6, 4), (7, 4)] (by kernel_rfl) (by kernel_rfl) (fun _ _ _ _ _ h => h) ((Below.refl _ _).drew) ?_
   refine Text.heldk rfl rfl (fun K hK => ?_)
   refine ⟨_, fun w' hw' => exec_loadv 26 (.tmp 20) rfl 7 (by kernel_rfl) w3.heap.size 0 (siC b0 k0 d0 b1 k1 d1 b2 k2 d2 b3 k3 d3 b4 k4 d4 b5 k5 d5 (condY y t.sts).pct) rfl (BL.all (HV5.out.kept hw')) rfl, ?_⟩
   go_simp
   refine hK _ ?_
   clear hK K
   refine Text.heldk rfl rfl (fun K hK => ?_)
   refine ⟨_, fun w' hw' => exec_loadv 26 (.tmp 2) rfl 7 (by kernel_rfl) w.heap.size 0 _ rfl (BL.all (HS5.out.kept hw')) rfl, ?_⟩
   go_simp
   refine hK _ ?_
   clear hK K
   refine Text.eff rfl rfl (fun K hK => ?_)
   go_simp
   refine (uncov_any _ (condY y t.sts) _ (show rSi _ _ _ from ⟨b0, k0, d0, b1, k1, d1, b2, k2, d2, b3, k3, d3, b4, k4, d4, b5, k5, d5, rfl, (HFQ.out.kept HY5.out).kept (Below.refl _ _).drew⟩)).mono ?_
   rintro e w6 ⟨A6, c6, rfl, _, bl6⟩
   have HX6 : Hid (Below w5.heap.size w5 w6) := Lib.hid (below_ofDrew bl6)
   rw [← HU1.out]
   refine hK _ _ HX6.out ?_
   clear hK K bl6
   (refine Text.purek rfl rfl (fun K hK => ⟨_, fun w' => by go_simp <;> rfl, ?_⟩); go_simp; refine hK _ ?_; clear hK K)
   refine Text.eff rfl rfl (fun K hK => ?_)
   go_simp
   refine (uncov_any _ y _ (show rSi w6 _ _ from ⟨_, _, _, _, _, _, _, _, _, _, _, _, _, _, _, _, _, _, rfl, HQ.out.kept (below_thenB (below_thenB HBx.out HBx.out.size HX5.out) (below_thenB HBx.out HBx.out.size HX5.out).size HX6.out)⟩)).mono ?_
   rintro e w7 ⟨A7, c7, rfl, _, bl7⟩
   have HX7 : Hid (Below w5.heap.size w5 w7) := Lib.hid (below_thenB HX6.out HX6.out.size bl7)
   rw [← HU2.out]
   refine hK _ _ HX7.out ?_
   clear hK K bl7
   rcases hcase with ⟨hu, hr⟩ | ⟨hu, hr⟩
   ·
    subst hu
    iterate 3 (refine Text.purek rfl rfl (fun K hK => ⟨_, fun w' => by go_simp <;> rfl, ?_⟩); go_simp; refine hK _ ?_; clear hK K)
    refine Text.done ?_
    go_wp2_with fail
    go_ret
    exact ⟨ret_bool hr.out.symm, below_thenB (below_thenB HBx.out HBx.out.size HX5.out) (below_thenB HBx.out HBx.out.size HX5.out).size HX7.out⟩
   ·
    have hu1 : ((u1 : Int) == (u2 : Int)) = false := by simp only [beq_eq_false_iff_ne, ne_eq]; omega
    have hu2 : (u1 == u2) = false := by simpa using hu
    have HUU := Lib.hid hu
    clear hu
    iterate 3 (refine Text.purek rfl rfl (fun K hK => ⟨_, fun w' => by go_simp <;> rfl, ?_⟩); go_simp; refine hK _ ?_; clear hK K)
    refine Text.done ?_
    go_wp2_with fail
    go_ret
    exact ⟨ret_bool hr.out.symm, below_thenB (below_thenB HBx.out HBx.out.size HX5.out) (below_thenB HBx.out HBx.out.size HX5.out).size HX7.out⟩
end Go.Proofs.Ytboglaokdgnpaaa
