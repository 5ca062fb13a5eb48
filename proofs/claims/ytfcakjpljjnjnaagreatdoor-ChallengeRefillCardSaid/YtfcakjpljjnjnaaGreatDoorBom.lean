/- few: a stripe and pieces are small. -/
import Derived.Test.YtfcakjpljjnjnaaGreatDoorBnm
namespace Go.Proofs.YtfcakjpljjnjnaaGreatDoor
open Go Go.RowKit Go.Shelf Gf Sha

def FewR (n : Nat) (w : World) (e : Ending) (w' : World) : Prop := ∃ b, e = .returned (.bool b) ∧ (b = true → n ≤ 1000) ∧ Below w.heap.size w w'
section
set_option maxRecDepth 100000
set_option maxHeartbeats 4000000
theorem few44_any (cs : List Value) (s : Sp) (A : Option Addr) (n c : Nat) (ps : List Pe) (w : World) (hs : rSp w cs s) (hp : LS rPe 4 72 w A n c ps) :
  Calls Tryz.prog 7 #[.agg cs.toArray, .slice A n c] w (FewR n w) := by
 have HP := Lib.hid hp
 obtain ⟨R, rn, e, rfl, _⟩ := hs
 clear hp
 cases c1 : decide (((strB s.id).size : Int) > 64) with
 | true =>
  go_enter Tryz.func7, Tryz.ntmps7
  go_wp2_with (first
   | ((with_reducible show OpW 2); refine wpList_box _ rfl 26 (.tmp 0) rfl (spC s R rn e) rfl ?_; intro w1 y1 y2 y3; have HB1 := Lib.hid y2; have p0 := y1.get (j := 0) rfl; have p2 := y1.get (j := 2) rfl; have p4 := y1.get (j := 4) rfl; have p5 := y1.get (j := 5) rfl; clear y1 y2 y3)
   | fail)
  go_ret
  exact ⟨false, rfl, fun h => (by cases h), HB1.out⟩
 | false =>
 by_cases g2 : rn > 8
 ·
  have c2 : decide ((rn : Int) > 8) = true := decide_eq_true (by omega)
  have c2' : decide (rn > 8) = true := decide_eq_true g2
  go_enter Tryz.func7, Tryz.ntmps7
  go_wp2_with (first
   | ((with_reducible show OpW 2); refine wpList_box _ rfl 26 (.tmp 0) rfl (spC s R rn e) rfl ?_; intro w1 y1 y2 y3; have HB1 := Lib.hid y2; have p0 := y1.get (j := 0) rfl; have p2 := y1.get (j := 2) rfl; have p4 := y1.get (j := 4) rfl; have p5 := y1.get (j := 5) rfl; clear y1 y2 y3)
   | fail)
  go_ret
  exact ⟨false, rfl, fun h => (by cases h), HB1.out⟩
 have c2 : decide ((rn : Int) > 8) = false := decide_eq_false (by omega)
 have c2' : decide (rn > 8) = false := decide_eq_false g2
 by_cases g3 : n > 6
 ·
  have c3 : decide ((n : Int) > 6) = true := decide_eq_true (by omega)
  have c3' : decide (n > 6) = true := decide_eq_true g3
  go_enter Tryz.func7, Tryz.ntmps7
  go_wp2_with (first
   | ((with_reducible show OpW 2); refine wpList_box _ rfl 26 (.tmp 0) rfl (spC s R rn e) rfl ?_; intro w1 y1 y2 y3; have HB1 := Lib.hid y2; have p0 := y1.get (j := 0) rfl; have p2 := y1.get (j := 2) rfl; have p4 := y1.get (j := 4) rfl; have p5 := y1.get (j := 5) rfl; clear y1 y2 y3)
   | fail)
  go_ret
  exact ⟨false, rfl, fun h => (by cases h), HB1.out⟩
 have c3 : decide ((n : Int) > 6) = false := decide_eq_false (by omega)
 have c3' : decide (n > 6) = false := decide_eq_false g3
 cases c4 : decide (s.t > 6) with
 | true =>
  go_enter Tryz.func7, Tryz.ntmps7
  go_wp2_with (first
   | ((with_reducible show OpW 2); refine wpList_box _ rfl 26 (.tmp 0) rfl (spC s R rn e) rfl ?_; intro w1 y1 y2 y3; have HB1 := Lib.hid y2; have p0 := y1.get (j := 0) rfl; have p2 := y1.get (j := 2) rfl; have p4 := y1.get (j := 4) rfl; have p5 := y1.get (j := 5) rfl; clear y1 y2 y3)
   | fail)
  go_ret
  exact ⟨false, rfl, fun h => (by cases h), HB1.out⟩
 | false =>
 cases c5 : decide (s.b > 200) with
 | true =>
  go_enter Tryz.func7, Tryz.ntmps7
  go_wp2_with (first
   | ((with_reducible show OpW 2); refine wpList_box _ rfl 26 (.tmp 0) rfl (spC s R rn e) rfl ?_; intro w1 y1 y2 y3; have HB1 := Lib.hid y2; have p0 := y1.get (j := 0) rfl; have p2 := y1.get (j := 2) rfl; have p4 := y1.get (j := 4) rfl; have p5 := y1.get (j := 5) rfl; clear y1 y2 y3)
   | fail)
  go_ret
  exact ⟨false, rfl, fun h => (by cases h), HB1.out⟩
 | false =>
 have HN6 := Lib.hid (show n ≤ 1000 by omega)
 go_enter Tryz.func7, Tryz.ntmps7
 go_wp2_with (first
  | ((with_reducible show OpW 2); refine wpList_box _ rfl 26 (.tmp 0) rfl (spC s R rn e) rfl ?_; intro w1 y1 y2 y3; have HB1 := Lib.hid y2; have p0 := y1.get (j := 0) rfl; have p2 := y1.get (j := 2) rfl; have p4 := y1.get (j := 4) rfl; have p5 := y1.get (j := 5) rfl; clear y1 y2 y3)
  | fail)
 go_loopw [36] (fun iv wr => ∃ k : Nat, k ≤ n ∧ iv = .int .i64 (k : Int) ∧ Hid (Below w.heap.size w wr)) (fun iv _ => n - (intOf iv).toNat)
 case atStart => exact ⟨0, by omega, rfl, HB1⟩
 case round =>
  obtain ⟨k, hk, rfl, hb⟩ := hrel
  obtain ⟨wx, hwx⟩ : ∃ x, x = wr := ⟨_, rfl⟩
  rw [← hwx] at hb ⊢
  clear hwx
  by_cases hlt : k < n
  ·
   obtain ⟨p, g, o, cs9, hpk, ea, hat, hrw⟩ := HP.out.at_ stay_pe hb.out hlt
   have HRW := Lib.hid hrw
   have HA := Lib.hid hat
   subst ea
   obtain ⟨A', n', c', B', m', d', rfl, _, hts, _⟩ := hrw
   have HTS := Lib.hid hts
   clear hat hts hpk
   by_cases g6 : n' > 200
   ·
    have c6 : decide ((n' : Int) > 200) = true := decide_eq_true (by omega)
    have c6' : decide (n' > 200) = true := decide_eq_true g6
    go_wp2_with (first
     | ((with_reducible show OpW 39); refine wpList_loadv _ rfl 48 (.tmp 38) rfl 4 (by kernel_rfl) g (o + k * 4) (peC p A' n' c' B' m' d') (by go_simp) HA.out rfl ?_)
     | ((with_reducible show OpW 6); refine wpList_alloc _ rfl 48 rfl peZ peZero ?_; intro w3 a1 a2 a3; have HV3 := Lib.hid a1; have HX3 := Lib.hid a2; clear a1 a2 a3)
     | ((with_reducible show OpN); refine wpList_storev _ rfl 48 (.tmp 6) (.tmp 39) rfl 4 (by kernel_rfl) wx.heap.size 0 _ peZ (peC p A' n' c' B' m' d') rfl rfl HV3.out rfl (one_pe p A' n' c' B' m' d') (by decide) ?_; intro w4 a1 a2 a3; have HV4 : Hid (BL w4 wx.heap.size 48 (peC p A' n' c' B' m' d')) := Lib.hid a1; have HX4 : Hid (Below wx.heap.size wx w4) := Lib.hid (((Kp.of_below (S := fun _ => False) HX3.out).after a2 (fun i hi e => by omega)).below (Nat.le_refl _) (fun _ h => h.elim)); clear a1 a2 a3; have q0 := BL.get (j := 0) HV4.out rfl; have q2 := BL.get (j := 2) HV4.out rfl; have q3 := BL.get (j := 3) HV4.out rfl)
     | fail)
    go_ret
    exact ⟨false, rfl, fun h => (by cases h), below_then hb.out HX4.out⟩
   have c6 : decide ((n' : Int) > 200) = false := decide_eq_false (by omega)
   have c6' : decide (n' > 200) = false := decide_eq_false g6
   by_cases g7 : m' > 16
   ·
    have c7 : decide ((m' : Int) > 16) = true := decide_eq_true (by omega)
    have c7' : decide (m' > 16) = true := decide_eq_true g7
    go_wp2_with (first
     | ((with_reducible show OpW 39); refine wpList_loadv _ rfl 48 (.tmp 38) rfl 4 (by kernel_rfl) g (o + k * 4) (peC p A' n' c' B' m' d') (by go_simp) HA.out rfl ?_)
     | ((with_reducible show OpW 6); refine wpList_alloc _ rfl 48 rfl peZ peZero ?_; intro w3 a1 a2 a3; have HV3 := Lib.hid a1; have HX3 := Lib.hid a2; clear a1 a2 a3)
     | ((with_reducible show OpN); refine wpList_storev _ rfl 48 (.tmp 6) (.tmp 39) rfl 4 (by kernel_rfl) wx.heap.size 0 _ peZ (peC p A' n' c' B' m' d') rfl rfl HV3.out rfl (one_pe p A' n' c' B' m' d') (by decide) ?_; intro w4 a1 a2 a3; have HV4 : Hid (BL w4 wx.heap.size 48 (peC p A' n' c' B' m' d')) := Lib.hid a1; have HX4 : Hid (Below wx.heap.size wx w4) := Lib.hid (((Kp.of_below (S := fun _ => False) HX3.out).after a2 (fun i hi e => by omega)).below (Nat.le_refl _) (fun _ h => h.elim)); clear a1 a2 a3; have q0 := BL.get (j := 0) HV4.out rfl; have q2 := BL.get (j := 2) HV4.out rfl; have q3 := BL.get (j := 3) HV4.out rfl)
     | fail)
    go_ret
    exact ⟨false, rfl, fun h => (by cases h), below_then hb.out HX4.out⟩
   have c7 : decide ((m' : Int) > 16) = false := decide_eq_false (by omega)
   have c7' : decide (m' > 16) = false := decide_eq_false g7
   cases c8 : decide (((strB p.id).size : Int) > 64) with
   | true =>
    go_wp2_with (first
     | ((with_reducible show OpW 39); refine wpList_loadv _ rfl 48 (.tmp 38) rfl 4 (by kernel_rfl) g (o + k * 4) (peC p A' n' c' B' m' d') (by go_simp) HA.out rfl ?_)
     | ((with_reducible show OpW 6); refine wpList_alloc _ rfl 48 rfl peZ peZero ?_; intro w3 a1 a2 a3; have HV3 := Lib.hid a1; have HX3 := Lib.hid a2; clear a1 a2 a3)
     | ((with_reducible show OpN); refine wpList_storev _ rfl 48 (.tmp 6) (.tmp 39) rfl 4 (by kernel_rfl) wx.heap.size 0 _ peZ (peC p A' n' c' B' m' d') rfl rfl HV3.out rfl (one_pe p A' n' c' B' m' d') (by decide) ?_; intro w4 a1 a2 a3; have HV4 : Hid (BL w4 wx.heap.size 48 (peC p A' n' c' B' m' d')) := Lib.hid a1; have HX4 : Hid (Below wx.heap.size wx w4) := Lib.hid (((Kp.of_below (S := fun _ => False) HX3.out).after a2 (fun i hi e => by omega)).below (Nat.le_refl _) (fun _ h => h.elim)); clear a1 a2 a3; have q0 := BL.get (j := 0) HV4.out rfl; have q2 := BL.get (j := 2) HV4.out rfl; have q3 := BL.get (j := 3) HV4.out rfl)
     | fail)
    go_ret
    exact ⟨false, rfl, fun h => (by cases h), below_then hb.out HX4.out⟩
   | false =>
   go_wp2_with (first
    | ((with_reducible show OpW 39); refine wpList_loadv _ rfl 48 (.tmp 38) rfl 4 (by kernel_rfl) g (o + k * 4) (peC p A' n' c' B' m' d') (by go_simp) HA.out rfl ?_)
    | ((with_reducible show OpW 6); refine wpList_alloc _ rfl 48 rfl peZ peZero ?_; intro w3 a1 a2 a3; have HV3 := Lib.hid a1; have HX3 := Lib.hid a2; clear a1 a2 a3)
    | ((with_reducible show OpN); refine wpList_storev _ rfl 48 (.tmp 6) (.tmp 39) rfl 4 (by kernel_rfl) wx.heap.size 0 _ peZ (peC p A' n' c' B' m' d') rfl rfl HV3.out rfl (one_pe p A' n' c' B' m' d') (by decide) ?_; intro w4 a1 a2 a3; have HV4 : Hid (BL w4 wx.heap.size 48 (peC p A' n' c' B' m' d')) := Lib.hid a1; have HX4 : Hid (Below wx.heap.size wx w4) := Lib.hid (((Kp.of_below (S := fun _ => False) HX3.out).after a2 (fun i hi e => by omega)).below (Nat.le_refl _) (fun _ h => h.elim)); clear a1 a2 a3; have q0 := BL.get (j := 0) HV4.out rfl; have q2 := BL.get (j := 2) HV4.out rfl; have q3 := BL.get (j := 3) HV4.out rfl)
    | fail)
   go_loop [60] (fun iv => ∃ j : Nat, j ≤ m' ∧ iv = .int .i64 (j : Int)) (fun iv => m' - (intOf iv).toNat)
   case atStart => exact ⟨0, by omega, rfl⟩
   case round =>
    obtain ⟨j, hj, rfl⟩ := hrel
    by_cases hl2 : j < m'
    ·
     obtain ⟨gs, os, ea, q9⟩ := (HTS.out.kept HX4.out).2.2.2 j hl2
     subst ea
     cases c9 : decide (((strB (gR p.sm j)).size : Int) > 64) with
     | true =>
      go_wp2_with fail
      go_ret
      exact ⟨false, rfl, fun h => (by cases h), below_then hb.out HX4.out⟩
     | false =>
      go_wp2_with fail
      go_round
      case rel => exact ⟨j + 1, by omega, by go_num⟩
      case measure => simp [intOf]; omega
    ·
     obtain rfl : j = m' := by omega
     go_wp2_with fail
     go_roundw
     case rel => exact ⟨k + 1, by omega, by go_num, Lib.hid (below_then hb.out HX4.out)⟩
     case measure => simp [intOf]; omega
  ·
   obtain rfl : k = n := by omega
   go_wp2_with fail
   go_ret
   exact ⟨true, rfl, fun _ => HN6.out, hb.out⟩
end
end Go.Proofs.YtfcakjpljjnjnaaGreatDoor
