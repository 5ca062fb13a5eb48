/- The reference's Fits, Pieces. -/
import Derived.Test.YtfcakjpljjnjnaaGreatDoorBkm
namespace Go.Proofs.YtfcakjpljjnjnaaGreatDoor
open Go Go.RowKit Gf Sha

section
set_option maxRecDepth 100000
set_option maxHeartbeats 4000000
theorem rsfits_any (cs : List Value) (s : Sp) (cp : List Value) (p : Pe) (w : World) (h : rSp w cs s) (hp : rPe w cp p) (hT : Tabs w) (hv : spB s = true) :
  Calls Tryz.prog 50 #[.agg cs.toArray, .agg cp.toArray] w fun e w' => e = .returned (.bool (sfiB s p)) ∧ Below w.heap.size w w' := by
 have HP := Lib.hid hp
 have HSP := Lib.hid h
 have HT := Lib.hid hT
 have HVB := Lib.hid hv
 obtain ⟨R, r, e, rfl, _⟩ := h
 obtain ⟨A, n, c, B, m, d, rfl, hbs, hts, _, _⟩ := hp
 have HNL : Hid (p.da.length = n) := Lib.hid hbs.1
 have HML : Hid (p.sm.length = m) := Lib.hid hts.1
 clear hT hbs hts hv
 cases gv : verP p with
 | false =>
  have HVP := Lib.hid gv
  have HF : Hid (sfiB s p = false) := Lib.hid (by unfold sfiB; rw [gv]; simp)
  clear gv
  go_enter Tryz.func50, Tryz.ntmps50
  go_wp2_with (first
   | ((with_reducible show OpW 2); refine wpList_box _ rfl 26 (.tmp 0) rfl (spC s R r e) rfl ?_; intro w1 y1 y2 y3; have HB1 := Lib.hid y2; have HV1 := Lib.hid y1; clear y1 y2 y3)
   | ((with_reducible show OpW 3); refine wpList_box _ rfl 48 (.tmp 1) rfl (peC p A n c B m d) rfl ?_; intro w2 y1 y2 y3; have HB2 := Lib.hid (below_then HB1.out y2); have HV2 := Lib.hid (HV1.out.kept y2); have HP2 := Lib.hid y1; clear y1 y2 y3)
   | ((with_reducible show OpW 5); refine wpList_loadv _ rfl 26 (.tmp 2) rfl 6 (by kernel_rfl) w.heap.size 0 (spC s R r e) rfl (BL.all HV2.out) rfl ?_)
   | (go_at_call 27; refine (rvalid_any _ s w2 (stay_sp _ _ _ _ HSP.out HB2.out)).mono ?_; rintro e9 w3 ⟨rfl, r2⟩; rw [HVB.out]; have HB3 := Lib.hid (below_then HB2.out r2); have HV3 := Lib.hid (HV2.out.kept r2); have HP3 := Lib.hid (HP2.out.kept r2); clear r2)
   | ((with_reducible show OpW 8); refine wpList_loadvg _ rfl 48 (.tmp 3) rfl 4 (by kernel_rfl) w1.heap.size 0 (peC p A n c B m d) rfl (BL.all HP3.out) rfl ?_)
   | (go_at_call 81; refine (rverP_any _ p w3 (stay_pe _ _ _ _ HP.out HB3.out) (HT.out.kept HB3.out)).mono ?_; rintro e9 w4 ⟨rfl, r2⟩; rw [HVP.out]; have HB4 := Lib.hid (below_then HB3.out r2); have HV4 := Lib.hid (HV3.out.kept r2); have HP4 := Lib.hid (HP3.out.kept r2); have p0 := BL.get (j := 0) HV4.out rfl; have p2 := BL.get (j := 2) HV4.out rfl; have p4 := BL.get (j := 4) HV4.out rfl; have q0 := BL.get (j := 0) HP4.out rfl; have q2 := BL.get (j := 2) HP4.out rfl; have q3 := BL.get (j := 3) HP4.out rfl; clear r2)
   | fail)
  go_ret
  exact ⟨ret_bool HF.out.symm, HB4.out⟩
 | true =>
 have HVP := Lib.hid gv
 by_cases g1 : p.id = s.id
 rotate_left
 ·
  have e1 : ((strB p.id).toList == (strB s.id).toList) = false := by rw [strB_eq, decide_eq_false g1]
  have HF : Hid (sfiB s p = false) := Lib.hid (by unfold sfiB; rw [decide_eq_false g1]; rfl)
  clear g1 gv
  go_enter Tryz.func50, Tryz.ntmps50
  go_wp2_with (first
   | ((with_reducible show OpW 2); refine wpList_box _ rfl 26 (.tmp 0) rfl (spC s R r e) rfl ?_; intro w1 y1 y2 y3; have HB1 := Lib.hid y2; have HV1 := Lib.hid y1; clear y1 y2 y3)
   | ((with_reducible show OpW 3); refine wpList_box _ rfl 48 (.tmp 1) rfl (peC p A n c B m d) rfl ?_; intro w2 y1 y2 y3; have HB2 := Lib.hid (below_then HB1.out y2); have HV2 := Lib.hid (HV1.out.kept y2); have HP2 := Lib.hid y1; clear y1 y2 y3)
   | ((with_reducible show OpW 5); refine wpList_loadv _ rfl 26 (.tmp 2) rfl 6 (by kernel_rfl) w.heap.size 0 (spC s R r e) rfl (BL.all HV2.out) rfl ?_)
   | (go_at_call 27; refine (rvalid_any _ s w2 (stay_sp _ _ _ _ HSP.out HB2.out)).mono ?_; rintro e9 w3 ⟨rfl, r2⟩; rw [HVB.out]; have HB3 := Lib.hid (below_then HB2.out r2); have HV3 := Lib.hid (HV2.out.kept r2); have HP3 := Lib.hid (HP2.out.kept r2); clear r2)
   | ((with_reducible show OpW 8); refine wpList_loadvg _ rfl 48 (.tmp 3) rfl 4 (by kernel_rfl) w1.heap.size 0 (peC p A n c B m d) rfl (BL.all HP3.out) rfl ?_)
   | (go_at_call 81; refine (rverP_any _ p w3 (stay_pe _ _ _ _ HP.out HB3.out) (HT.out.kept HB3.out)).mono ?_; rintro e9 w4 ⟨rfl, r2⟩; rw [HVP.out]; have HB4 := Lib.hid (below_then HB3.out r2); have HV4 := Lib.hid (HV3.out.kept r2); have HP4 := Lib.hid (HP3.out.kept r2); have p0 := BL.get (j := 0) HV4.out rfl; have p2 := BL.get (j := 2) HV4.out rfl; have p4 := BL.get (j := 4) HV4.out rfl; have q0 := BL.get (j := 0) HP4.out rfl; have q2 := BL.get (j := 2) HP4.out rfl; have q3 := BL.get (j := 3) HP4.out rfl; clear r2)
   | fail)
  go_ret
  exact ⟨ret_bool HF.out.symm, HB4.out⟩
 have e1 : ((strB p.id).toList == (strB s.id).toList) = true := by rw [strB_eq, decide_eq_true g1]
 by_cases g2 : (m : Int) = s.t
 rotate_left
 ·
  have e2 : ((m : Int) == s.t) = false := by rw [beq_eq_false_iff_ne]; exact g2
  have HF : Hid (sfiB s p = false) := Lib.hid (by unfold sfiB; rw [HML.out, decide_eq_true g1, decide_eq_false g2]; rfl)
  clear g1 g2 gv
  go_enter Tryz.func50, Tryz.ntmps50
  go_wp2_with (first
   | ((with_reducible show OpW 2); refine wpList_box _ rfl 26 (.tmp 0) rfl (spC s R r e) rfl ?_; intro w1 y1 y2 y3; have HB1 := Lib.hid y2; have HV1 := Lib.hid y1; clear y1 y2 y3)
   | ((with_reducible show OpW 3); refine wpList_box _ rfl 48 (.tmp 1) rfl (peC p A n c B m d) rfl ?_; intro w2 y1 y2 y3; have HB2 := Lib.hid (below_then HB1.out y2); have HV2 := Lib.hid (HV1.out.kept y2); have HP2 := Lib.hid y1; clear y1 y2 y3)
   | ((with_reducible show OpW 5); refine wpList_loadv _ rfl 26 (.tmp 2) rfl 6 (by kernel_rfl) w.heap.size 0 (spC s R r e) rfl (BL.all HV2.out) rfl ?_)
   | (go_at_call 27; refine (rvalid_any _ s w2 (stay_sp _ _ _ _ HSP.out HB2.out)).mono ?_; rintro e9 w3 ⟨rfl, r2⟩; rw [HVB.out]; have HB3 := Lib.hid (below_then HB2.out r2); have HV3 := Lib.hid (HV2.out.kept r2); have HP3 := Lib.hid (HP2.out.kept r2); clear r2)
   | ((with_reducible show OpW 8); refine wpList_loadvg _ rfl 48 (.tmp 3) rfl 4 (by kernel_rfl) w1.heap.size 0 (peC p A n c B m d) rfl (BL.all HP3.out) rfl ?_)
   | (go_at_call 81; refine (rverP_any _ p w3 (stay_pe _ _ _ _ HP.out HB3.out) (HT.out.kept HB3.out)).mono ?_; rintro e9 w4 ⟨rfl, r2⟩; rw [HVP.out]; have HB4 := Lib.hid (below_then HB3.out r2); have HV4 := Lib.hid (HV3.out.kept r2); have HP4 := Lib.hid (HP3.out.kept r2); have p0 := BL.get (j := 0) HV4.out rfl; have p2 := BL.get (j := 2) HV4.out rfl; have p4 := BL.get (j := 4) HV4.out rfl; have q0 := BL.get (j := 0) HP4.out rfl; have q2 := BL.get (j := 2) HP4.out rfl; have q3 := BL.get (j := 3) HP4.out rfl; clear r2)
   | fail)
  go_ret
  exact ⟨ret_bool HF.out.symm, HB4.out⟩
 have e2 : ((m : Int) == s.t) = true := by rw [beq_iff_eq]; exact g2
 cases g3 : decide ((n : Int) = s.b) with
 | false =>
  have e3 : ((n : Int) == s.b) = false := by rw [beq_eq_false_iff_ne]; exact of_decide_eq_false g3
  have HF : Hid (sfiB s p = false) := Lib.hid (by unfold sfiB; rw [HML.out, HNL.out, decide_eq_true g1, decide_eq_true g2, g3]; rfl)
  clear g1 g2 g3 gv
  go_enter Tryz.func50, Tryz.ntmps50
  go_wp2_with (first
   | ((with_reducible show OpW 2); refine wpList_box _ rfl 26 (.tmp 0) rfl (spC s R r e) rfl ?_; intro w1 y1 y2 y3; have HB1 := Lib.hid y2; have HV1 := Lib.hid y1; clear y1 y2 y3)
   | ((with_reducible show OpW 3); refine wpList_box _ rfl 48 (.tmp 1) rfl (peC p A n c B m d) rfl ?_; intro w2 y1 y2 y3; have HB2 := Lib.hid (below_then HB1.out y2); have HV2 := Lib.hid (HV1.out.kept y2); have HP2 := Lib.hid y1; clear y1 y2 y3)
   | ((with_reducible show OpW 5); refine wpList_loadv _ rfl 26 (.tmp 2) rfl 6 (by kernel_rfl) w.heap.size 0 (spC s R r e) rfl (BL.all HV2.out) rfl ?_)
   | (go_at_call 27; refine (rvalid_any _ s w2 (stay_sp _ _ _ _ HSP.out HB2.out)).mono ?_; rintro e9 w3 ⟨rfl, r2⟩; rw [HVB.out]; have HB3 := Lib.hid (below_then HB2.out r2); have HV3 := Lib.hid (HV2.out.kept r2); have HP3 := Lib.hid (HP2.out.kept r2); clear r2)
   | ((with_reducible show OpW 8); refine wpList_loadvg _ rfl 48 (.tmp 3) rfl 4 (by kernel_rfl) w1.heap.size 0 (peC p A n c B m d) rfl (BL.all HP3.out) rfl ?_)
   | (go_at_call 81; refine (rverP_any _ p w3 (stay_pe _ _ _ _ HP.out HB3.out) (HT.out.kept HB3.out)).mono ?_; rintro e9 w4 ⟨rfl, r2⟩; rw [HVP.out]; have HB4 := Lib.hid (below_then HB3.out r2); have HV4 := Lib.hid (HV3.out.kept r2); have HP4 := Lib.hid (HP3.out.kept r2); have p0 := BL.get (j := 0) HV4.out rfl; have p2 := BL.get (j := 2) HV4.out rfl; have p4 := BL.get (j := 4) HV4.out rfl; have q0 := BL.get (j := 0) HP4.out rfl; have q2 := BL.get (j := 2) HP4.out rfl; have q3 := BL.get (j := 3) HP4.out rfl; clear r2)
   | fail)
  go_ret
  exact ⟨ret_bool HF.out.symm, HB4.out⟩
 | true =>
  have e3 : ((n : Int) == s.b) = true := by rw [beq_iff_eq]; exact of_decide_eq_true g3
  have HF : Hid (sfiB s p = true) := Lib.hid (by unfold sfiB; rw [HML.out, HNL.out, decide_eq_true g1, decide_eq_true g2, g3, gv]; rfl)
  clear g1 g2 g3 gv
  go_enter Tryz.func50, Tryz.ntmps50
  go_wp2_with (first
   | ((with_reducible show OpW 2); refine wpList_box _ rfl 26 (.tmp 0) rfl (spC s R r e) rfl ?_; intro w1 y1 y2 y3; have HB1 := Lib.hid y2; have HV1 := Lib.hid y1; clear y1 y2 y3)
   | ((with_reducible show OpW 3); refine wpList_box _ rfl 48 (.tmp 1) rfl (peC p A n c B m d) rfl ?_; intro w2 y1 y2 y3; have HB2 := Lib.hid (below_then HB1.out y2); have HV2 := Lib.hid (HV1.out.kept y2); have HP2 := Lib.hid y1; clear y1 y2 y3)
   | ((with_reducible show OpW 5); refine wpList_loadv _ rfl 26 (.tmp 2) rfl 6 (by kernel_rfl) w.heap.size 0 (spC s R r e) rfl (BL.all HV2.out) rfl ?_)
   | (go_at_call 27; refine (rvalid_any _ s w2 (stay_sp _ _ _ _ HSP.out HB2.out)).mono ?_; rintro e9 w3 ⟨rfl, r2⟩; rw [HVB.out]; have HB3 := Lib.hid (below_then HB2.out r2); have HV3 := Lib.hid (HV2.out.kept r2); have HP3 := Lib.hid (HP2.out.kept r2); clear r2)
   | ((with_reducible show OpW 8); refine wpList_loadvg _ rfl 48 (.tmp 3) rfl 4 (by kernel_rfl) w1.heap.size 0 (peC p A n c B m d) rfl (BL.all HP3.out) rfl ?_)
   | (go_at_call 81; refine (rverP_any _ p w3 (stay_pe _ _ _ _ HP.out HB3.out) (HT.out.kept HB3.out)).mono ?_; rintro e9 w4 ⟨rfl, r2⟩; rw [HVP.out]; have HB4 := Lib.hid (below_then HB3.out r2); have HV4 := Lib.hid (HV3.out.kept r2); have HP4 := Lib.hid (HP3.out.kept r2); have p0 := BL.get (j := 0) HV4.out rfl; have p2 := BL.get (j := 2) HV4.out rfl; have p4 := BL.get (j := 4) HV4.out rfl; have q0 := BL.get (j := 0) HP4.out rfl; have q2 := BL.get (j := 2) HP4.out rfl; have q3 := BL.get (j := 3) HP4.out rfl; clear r2)
   | fail)
  go_ret
  exact ⟨ret_bool HF.out.symm, HB4.out⟩
theorem rpcs_any (d t c : Nat) (A : Option Addr) (blocks : List (List UInt8)) (L : Nat) (w : World) (hd : 1 ≤ d) (hd8 : d ≤ 8) (h1t : 1 ≤ t) (ht : t ≤ 16) (h : MS w A d c blocks) (hr : Rect blocks L) (hL1 : 1 ≤ L) (hL6 : L ≤ 65536) (hT : Tabs w) :
  Calls Tryz.prog 52 #[.int .i64 (d : Int), .int .i64 (t : Int), .slice A d c] w fun e w' => ∃ v, e = .returned v ∧ OLn rPe 4 48 w.heap.size w' v (pcsL (encM d t blocks L)) ∧ Below w.heap.size w w' := by
 have hfull : fillB blocks L d = blocks := by have h9 := fillB_start blocks L; rwa [h.1] at h9
 have heq := encM_eq (t := t) hr (by rw [h.1]; exact Nat.le_refl _ : blocks.length ≤ d)
 rw [hfull] at heq
 have HE := Lib.hid (rencode_any d t A d c blocks L w h hr (by omega) (by omega) (Nat.le_refl _) hd8 ht)
 obtain ⟨rows, hrows⟩ : ∃ z, z = encM d t blocks L := ⟨_, rfl⟩
 rw [← hrows] at heq
 rw [← heq] at HE
 rw [← hrows]
 have hlen : rows.length = t := by rw [heq]; simp [rencM]
 have hrect : Rect rows L := by rw [heq]; exact rencM_rect _ _ _ _
 have HLEN := Lib.hid hlen
 have HRC := Lib.hid hrect
 have HT := Lib.hid hT
 have hlv9 := sums_lv (rect_le hrect hL6)
 have HLv : Hid (Lv (sumsL rows)) := Lib.hid hlv9
 have HIDL : Hid ((rt (sumsL rows)).length = 32) := Lib.hid (rt_length hlv9 (by unfold sumsL; rw [List.length_map, hlen]; exact h1t) (by unfold sumsL; rw [List.length_map, hlen]; omega))
 clear h hr heq hrows hlen hrect hT hlv9 hfull
 obtain ⟨RT, hRT⟩ : ∃ z, z = rt (sumsL rows) := ⟨_, rfl⟩
 have HRT := Lib.hid hRT
 clear hRT
 go_enter Tryz.func52, Tryz.ntmps52
 go_wp2_with (first
  | (go_at_call 84; refine HE.out.mono ?_; rintro e9 w1 ⟨v1, rfl, hnew, b1⟩; obtain ⟨A1, c1, rfl, hm1⟩ := hnew.ms (by unfold lim; omega); have HM1 := Lib.hid hm1; have HB1 := Lib.hid b1; clear hnew hm1 b1))
 go_loopw [7, 20] (fun v iv wr => ∃ k : Nat, k ≤ t ∧ iv = .int .i64 (k : Int) ∧ Hid (OwnS wr w1.heap.size v k ((rows.take k).map psum)) ∧ Hid (Below w1.heap.size w1 wr)) (fun _ iv _ => t - (intOf iv).toNat)
 case atStart => exact ⟨0, by omega, rfl, Lib.hid ⟨RW.nil _ _ _, fun b hb => by cases hb⟩, Lib.hid (Below.refl _ _)⟩
 case round =>
  obtain ⟨k, hk, rfl, ho, hb⟩ := hrel
  obtain ⟨wx, hwx⟩ : ∃ x, x = wr := ⟨_, rfl⟩
  rw [← hwx] at ho hb ⊢
  clear hwx
  by_cases hlt : k < t
  ·
   obtain ⟨g, o, A', n', c', ea, q0, hbs⟩ := (HM1.out.kept hb.out).2.2.2 k hlt
   have hnL : n' = L := by rw [← hbs.1]; exact HRC.out k (by rw [HLEN.out]; exact hlt)
   have HBS := Lib.hid hbs
   have HN := Lib.hid (sums_succ (rows := rows) (k := k) (by rw [HLEN.out]; exact hlt))
   have HTx := Lib.hid (HT.out.kept (below_then HB1.out hb.out))
   subst ea
   subst hnL
   clear hbs
   go_wp2_with (first
    | (go_at_call 85; refine (rpsum_any A' n' c' (gR rows k) wx HBS.out HTx.out (by omega) (by omega)).mono ?_; rintro e9 w3 ⟨rfl, r2⟩; have HB3 := Lib.hid r2; have HO3 := Lib.hid (ho.out.kept' r2); clear r2)
    | ((with_reducible show OpW 27); refine wpList_bslice _ rfl 46 9 1 _ rfl #[(0, .string (strB (psum (gR rows k))))] (by rw [List.map_toArray]; rfl) [.string (strB (psum (gR rows k)))] (bslS _ _) ?_; intro w6 a1 a2 a3; have HG6 := Lib.hid a1; have HX6 : Hid (Below w3.heap.size w3 w6) := Lib.hid a2; clear a1 a2 a3)
    | ((with_reducible show OpW 28); refine wpList_pushS rfl (.tmp 24) (.tmp 27) rfl w1.heap.size _ k _ rfl (HO3.out.kept' HX6.out) (by have := hb.out.size; have := HB3.out.size; have := HX6.out.size; omega) w3.heap.size (psum (gR rows k)) rfl HG6.out (by omega) ?_; intro v' w7 a1 a2; rw [← HN.out] at a1; have HO7 := Lib.hid a1; have HB7 : Hid (Below w1.heap.size w1 w7) := Lib.hid (low_kp (below_then (below_then hb.out HB3.out) HX6.out) a2 (fun i hi e => by have := ho.out.2 i e; omega)); clear a1 a2))
   go_roundw
   case rel => exact ⟨k + 1, by omega, by go_num, HO7, HB7⟩
   case measure => simp [intOf]; omega
  ·
   obtain rfl : k = t := by omega
   have e9 : rows.take k = rows := List.take_of_length_le (by rw [HLEN.out]; exact Nat.le_refl _)
   rw [e9] at ho
   have ho' : OwnS wx w1.heap.size _ k (sumsL rows) := ho.out
   obtain ⟨As, cs9, ev, _⟩ := ho'.1.form
   subst ev
   have HTS : Hid (TS wx As k cs9 (sumsL rows)) := Lib.hid (TS.of_rw ho'.1 (by unfold lim; omega))
   have HMx := Lib.hid (HM1.out.kept hb.out)
   have HBx := Lib.hid (below_then HB1.out hb.out)
   clear ho ho' hlt e9
   go_wp2_with fail
   go_loopw [11, 32] (fun v iv wr => ∃ j : Nat, j ≤ k ∧ iv = .int .i64 (j : Int) ∧ Hid (OLn rPe 4 48 wx.heap.size wr v ((List.range j).map (pieN rows))) ∧ Hid (Below wx.heap.size wx wr)) (fun _ iv _ => k - (intOf iv).toNat)
   case atStart => exact ⟨0, by omega, rfl, Lib.hid ⟨[], rfl, (fun _ h => by cases h), (fun _ _ k h => absurd h (by simp)), RW.nil _ _ _, (fun b hb => by cases hb)⟩, Lib.hid (Below.refl _ _)⟩
   case round =>
    obtain ⟨j, hj, rfl, ho, hb2⟩ := hrel
    obtain ⟨wy, hwy⟩ : ∃ x, x = wr := ⟨_, rfl⟩
    rw [← hwy] at ho hb2 ⊢
    clear hwy
    by_cases hl2 : j < k
    ·
     obtain ⟨g, o, A', n', c', ea, q0x, hbs⟩ := HMx.out.2.2.2 j hl2
     have q0 := cell_kept hb2.out q0x
     have hnL : n' = L := by rw [← hbs.1]; exact HRC.out j (by rw [HLEN.out]; exact hl2)
     have HBS := Lib.hid hbs
     have HN := Lib.hid (pcsL_succ rows j)
     have HTSy := Lib.hid (HTS.out.kept hb2.out)
     subst ea
     subst hnL
     clear hbs
     go_wp2_with (first
      | (go_at_call 86; refine (rroot_any k k As cs9 (sumsL rows) wy (Nat.le_refl _) HTSy.out (by omega) (by omega) HLv.out).mono ?_; rintro e9 w8 ⟨rfl, r2⟩; rw [← HRT.out]; have HX8 := Lib.hid r2; have HB8 := Lib.hid (below_then hb2.out r2); have HO8 := Lib.hid (ho.out.kept r2); clear r2)
      | ((with_reducible show OpW 41); refine wpList_build _ rfl 31 _ rfl #[(0, .string (strB RT)), (1, .int .i64 (j : Int))] (by rw [List.map_toArray]; rfl) (.agg [.string (strB RT), .int .i64 (j : Int)].toArray) (bldPid _ _ _) ?_)
      | ((with_reducible show OpW 44); refine wpList_build _ rfl 48 _ rfl #[(0, .agg [.string (strB RT), .int .i64 (j : Int)].toArray), (1, .slice A' n' c'), (2, .slice As k cs9)] (by rw [List.map_toArray]; rfl) (.agg [.string (strB RT), .int .i64 (j : Int), .slice A' n' c', .slice As k cs9].toArray) (by exact bldPe RT (j : Int) A' n' c' As k cs9 _) ?_)
      | ((with_reducible show OpW 45); refine wpList_bslice _ rfl 27 48 1 _ rfl #[(0, .agg [.string (strB RT), .int .i64 (j : Int), .slice A' n' c', .slice As k cs9].toArray)] (by rw [List.map_toArray]; rfl) [.string (strB RT), .int .i64 (j : Int), .slice A' n' c', .slice As k cs9] (by exact bslPe RT (j : Int) A' n' c' As k cs9 _) ?_; intro w6 a1 a2 a3; have HG6 : Hid (BL w6 w8.heap.size 48 (peC (pieN rows j) A' n' c' As k cs9)) := Lib.hid (by rw [pieC_eq, ← HRT.out]; exact a1); have HX6 : Hid (Below w8.heap.size w8 w6) := Lib.hid a2; clear a1 a2 a3)
      | ((with_reducible show OpW 46); refine wpList_pushPe rfl (.tmp 37) (.tmp 45) rfl wx.heap.size _ _ rfl (HO8.out.kept HX6.out) (by have := HB8.out.size; have := HX6.out.size; omega) w8.heap.size (pieN rows j) A' n' c' As k cs9 rfl HG6.out (fun w9 hk9 => by have hb9 := low_kp (below_then HB8.out HX6.out) hk9 (fun i hi e => by obtain ⟨_, _, _, _, _, h5⟩ := ho.out; have := h5 i e; omega); exact ⟨A', n', c', As, k, cs9, rfl, HBS.out.kept hb9, HTS.out.kept hb9, Nat.le_trans (Nat.le_of_eq HIDL.out) reach32, wfI_of (by show -9223372036854775808 ≤ (j : Int); omega) (by show (j : Int) < 9223372036854775808; omega)⟩) (by rw [List.length_map, List.length_range]; omega) ?_; intro v' w7 a1 a2; rw [← HN.out] at a1; have HO7 := Lib.hid a1; have HB7 : Hid (Below wx.heap.size wx w7) := Lib.hid (low_kp (below_then HB8.out HX6.out) a2 (fun i hi e => by obtain ⟨_, _, _, _, _, h5⟩ := ho.out; have := h5 i e; omega)); clear a1 a2))
     go_roundw
     case rel => exact ⟨j + 1, by omega, by go_num, HO7, HB7⟩
     case measure => simp [intOf]; omega
    ·
     obtain rfl : j = k := by omega
     have HO9 := Lib.hid (OLn.low ho.out HBx.out.size)
     have e8 : pcsL rows = (List.range rows.length).map (pieN rows) := rfl
     rw [HLEN.out] at e8
     rw [← e8] at HO9
     go_wp2_with fail
     go_ret
     exact ⟨_, rfl, HO9.out, below_then HBx.out hb2.out⟩
end
end Go.Proofs.YtfcakjpljjnjnaaGreatDoor
