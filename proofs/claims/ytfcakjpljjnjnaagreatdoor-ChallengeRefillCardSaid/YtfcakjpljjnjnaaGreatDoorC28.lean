/- Several texts in one: Bc, Bd, GfW. -/
import Derived.Test.YtfcakjpljjnjnaaGreatDoorC27
import Derived.Test.YtfcakjpljjnjnaaGreatDoorChecked
import Derived.Test.YtfcakjpljjnjnaaGreatDoorC1
import Derived.WalkKit
import Derived.WalkLawsBesides
import Derived.WalkSpells
import Derived.Deep.QuietTactic
import Derived.BigQuiet
import Derived.Lib.Hide
/- stripe.Verify, fits. -/
namespace Go.Proofs.YtfcakjpljjnjnaaGreatDoor
open Go Go.RowKit Gf Sha

theorem of512_any (A : Option Addr) (n c : Nat) (x : List UInt8) (w : World) (h : BS w A n c x) (hT : Tabs w) (h1 : 1 ≤ n) (hn : n ≤ 65536) :
  Calls Tryz.prog 60 #[.slice A n c, .int .i64 512] w fun e w' => e = .returned (.tuple #[.string (strB (psum x)), .int .i64 0]) ∧ Below w.heap.size w w' := by
 have hl := h.1
 have h9 := mof_any A n c 512 x w h hT h1 (by omega) (by decide) (by decide) (by unfold nb; omega)
 unfold psum
 rw [hl]
 exact h9
theorem sm_lv {l : List (List UInt8)} (h : smB l = true) : Lv l := fun s hs => of_decide_eq_true (List.all_eq_true.1 h s hs)
section
set_option maxRecDepth 100000
set_option maxHeartbeats 4000000
theorem sverify_any (cs : List Value) (p : Pe) (w : World) (h : rPe w cs p) (hT : Tabs w) :
  Calls Tryz.prog 116 #[.agg cs.toArray] w fun e w' => e = .returned (.bool (verP p)) ∧ Below w.heap.size w w' := by
 obtain ⟨A, n, c, B, m, d, rfl, hbs, hts, _, _⟩ := h
 have HT := Lib.hid hT
 have HBS := Lib.hid hbs
 have HTS := Lib.hid hts
 have HNL : Hid (p.da.length = n) := Lib.hid hbs.1
 have HML : Hid (p.sm.length = m) := Lib.hid hts.1
 have hn9 : n ≤ lim := hbs.2.2.1
 have hm9 : m * 16 ≤ lim := hts.2.2.1
 unfold lim at hn9 hm9
 clear hT hbs hts
 by_cases g1 : p.id.length = 32
 rotate_left
 ·
  have e1 : (((strB p.id).size : Int) != 32) = true := by rw [strB_size, bne_iff_ne]; omega
  have HF : Hid (verP p = false) := Lib.hid (by unfold verP; rw [decide_eq_false g1]; rfl)
  clear g1
  go_enter Tryz.func116, Tryz.ntmps116
  go_wp2_with (first
   | ((with_reducible show OpW 1); refine wpList_box _ rfl 48 (.tmp 0) rfl (peC p A n c B m d) rfl ?_; intro w1 y1 y2 y3; have HB1 := Lib.hid y2; have q0 := y1.get (j := 0) rfl; have q1 := y1.get (j := 1) rfl; have q2 := y1.get (j := 2) rfl; have q3 := y1.get (j := 3) rfl; clear y1 y2 y3)
   | (go_at_call 142; refine (cont_len B m d p.sm w1 (HTS.out.kept HB1.out)).mono ?_; rintro e9 w2 ⟨rfl, r2⟩; rw [HAL.out]; have HB2 := Lib.hid (below_then HB1.out r2); have q0 := cell_kept r2 q0; have q1 := cell_kept r2 q1; have q2 := cell_kept r2 q2; have q3 := cell_kept r2 q3; clear r2)
   | (go_at_call 60; refine (of512_any A n c p.da w2 (HBS.out.kept HB2.out) (HT.out.kept HB2.out) (by omega) (by omega)).mono ?_; rintro e9 w3 ⟨rfl, r2⟩; rw [← HPS.out]; have HB3 := Lib.hid (below_then HB2.out r2); have q0 := cell_kept r2 q0; have q1 := cell_kept r2 q1; have q2 := cell_kept r2 q2; have q3 := cell_kept r2 q3; clear r2)
   | fail)
  go_ret
  exact ⟨ret_bool HF.out.symm, HB1.out⟩
 have e1 : (((strB p.id).size : Int) != 32) = false := by rw [strB_size, g1]; rfl
 by_cases g2 : 1 ≤ m
 rotate_left
 ·
  have e2 : decide ((m : Int) < 1) = true := decide_eq_true (by omega)
  have e2' : decide (m < 1) = true := decide_eq_true (by omega)
  have HF : Hid (verP p = false) := Lib.hid (by unfold verP; rw [HML.out, decide_eq_false g2, decide_eq_true g1]; rfl)
  clear g1 g2
  go_enter Tryz.func116, Tryz.ntmps116
  go_wp2_with (first
   | ((with_reducible show OpW 1); refine wpList_box _ rfl 48 (.tmp 0) rfl (peC p A n c B m d) rfl ?_; intro w1 y1 y2 y3; have HB1 := Lib.hid y2; have q0 := y1.get (j := 0) rfl; have q1 := y1.get (j := 1) rfl; have q2 := y1.get (j := 2) rfl; have q3 := y1.get (j := 3) rfl; clear y1 y2 y3)
   | (go_at_call 142; refine (cont_len B m d p.sm w1 (HTS.out.kept HB1.out)).mono ?_; rintro e9 w2 ⟨rfl, r2⟩; rw [HAL.out]; have HB2 := Lib.hid (below_then HB1.out r2); have q0 := cell_kept r2 q0; have q1 := cell_kept r2 q1; have q2 := cell_kept r2 q2; have q3 := cell_kept r2 q3; clear r2)
   | (go_at_call 60; refine (of512_any A n c p.da w2 (HBS.out.kept HB2.out) (HT.out.kept HB2.out) (by omega) (by omega)).mono ?_; rintro e9 w3 ⟨rfl, r2⟩; rw [← HPS.out]; have HB3 := Lib.hid (below_then HB2.out r2); have q0 := cell_kept r2 q0; have q1 := cell_kept r2 q1; have q2 := cell_kept r2 q2; have q3 := cell_kept r2 q3; clear r2)
   | fail)
  go_ret
  exact ⟨ret_bool HF.out.symm, HB1.out⟩
 have e2 : decide ((m : Int) < 1) = false := decide_eq_false (by omega)
 have e2' : decide (m < 1) = false := decide_eq_false (by omega)
 by_cases g3 : m ≤ 16
 rotate_left
 ·
  have e3 : decide ((m : Int) > 16) = true := decide_eq_true (by omega)
  have e3' : decide (m > 16) = true := decide_eq_true (by omega)
  have HF : Hid (verP p = false) := Lib.hid (by unfold verP; rw [HML.out, decide_eq_true g2, decide_eq_false g3, decide_eq_true g1]; rfl)
  clear g1 g3
  go_enter Tryz.func116, Tryz.ntmps116
  go_wp2_with (first
   | ((with_reducible show OpW 1); refine wpList_box _ rfl 48 (.tmp 0) rfl (peC p A n c B m d) rfl ?_; intro w1 y1 y2 y3; have HB1 := Lib.hid y2; have q0 := y1.get (j := 0) rfl; have q1 := y1.get (j := 1) rfl; have q2 := y1.get (j := 2) rfl; have q3 := y1.get (j := 3) rfl; clear y1 y2 y3)
   | (go_at_call 142; refine (cont_len B m d p.sm w1 (HTS.out.kept HB1.out)).mono ?_; rintro e9 w2 ⟨rfl, r2⟩; rw [HAL.out]; have HB2 := Lib.hid (below_then HB1.out r2); have q0 := cell_kept r2 q0; have q1 := cell_kept r2 q1; have q2 := cell_kept r2 q2; have q3 := cell_kept r2 q3; clear r2)
   | (go_at_call 60; refine (of512_any A n c p.da w2 (HBS.out.kept HB2.out) (HT.out.kept HB2.out) (by omega) (by omega)).mono ?_; rintro e9 w3 ⟨rfl, r2⟩; rw [← HPS.out]; have HB3 := Lib.hid (below_then HB2.out r2); have q0 := cell_kept r2 q0; have q1 := cell_kept r2 q1; have q2 := cell_kept r2 q2; have q3 := cell_kept r2 q3; clear r2)
   | fail)
  go_ret
  exact ⟨ret_bool HF.out.symm, HB1.out⟩
 have e3 : decide ((m : Int) > 16) = false := decide_eq_false (by omega)
 have e3' : decide (m > 16) = false := decide_eq_false (by omega)
 cases g4 : smB p.sm with
 | false =>
  have HAL : Hid ((List.range m).any (fun k => !decide ((gR p.sm k).length = 32)) = true) := Lib.hid (by rw [← HML.out, any_len, g4]; rfl)
  have HF : Hid (verP p = false) := Lib.hid (by unfold verP; rw [HML.out, decide_eq_true g2, decide_eq_true g3, decide_eq_true g1, g4]; rfl)
  clear g1 g4
  go_enter Tryz.func116, Tryz.ntmps116
  go_wp2_with (first
   | ((with_reducible show OpW 1); refine wpList_box _ rfl 48 (.tmp 0) rfl (peC p A n c B m d) rfl ?_; intro w1 y1 y2 y3; have HB1 := Lib.hid y2; have q0 := y1.get (j := 0) rfl; have q1 := y1.get (j := 1) rfl; have q2 := y1.get (j := 2) rfl; have q3 := y1.get (j := 3) rfl; clear y1 y2 y3)
   | (go_at_call 142; refine (cont_len B m d p.sm w1 (HTS.out.kept HB1.out)).mono ?_; rintro e9 w2 ⟨rfl, r2⟩; rw [HAL.out]; have HB2 := Lib.hid (below_then HB1.out r2); have q0 := cell_kept r2 q0; have q1 := cell_kept r2 q1; have q2 := cell_kept r2 q2; have q3 := cell_kept r2 q3; clear r2)
   | (go_at_call 60; refine (of512_any A n c p.da w2 (HBS.out.kept HB2.out) (HT.out.kept HB2.out) (by omega) (by omega)).mono ?_; rintro e9 w3 ⟨rfl, r2⟩; rw [← HPS.out]; have HB3 := Lib.hid (below_then HB2.out r2); have q0 := cell_kept r2 q0; have q1 := cell_kept r2 q1; have q2 := cell_kept r2 q2; have q3 := cell_kept r2 q3; clear r2)
   | fail)
  go_ret
  exact ⟨ret_bool HF.out.symm, HB2.out⟩
 | true =>
 have HAL : Hid ((List.range m).any (fun k => !decide ((gR p.sm k).length = 32)) = false) := Lib.hid (by rw [← HML.out, any_len, g4]; rfl)
 have HLV := Lib.hid (sm_lv g4)
 have HV1 : Hid (verP p = (decide (0 ≤ p.ix) && (decide (p.ix < (m : Int)) && (decide (1 ≤ n) && (decide (n ≤ 65536) && (decide (psum p.da = gR p.sm p.ix.toNat) && decide (rt p.sm = p.id))))))) := Lib.hid (by
  unfold verP; rw [HML.out, HNL.out, decide_eq_true g2, decide_eq_true g3, decide_eq_true g1, g4]; rfl)
 clear g1 g4
 by_cases g5 : 0 ≤ p.ix
 rotate_left
 ·
  have e5 : decide (p.ix < 0) = true := decide_eq_true (by omega)
  have HF : Hid (verP p = false) := Lib.hid (by rw [HV1.out, decide_eq_false g5]; rfl)
  clear g5
  go_enter Tryz.func116, Tryz.ntmps116
  go_wp2_with (first
   | ((with_reducible show OpW 1); refine wpList_box _ rfl 48 (.tmp 0) rfl (peC p A n c B m d) rfl ?_; intro w1 y1 y2 y3; have HB1 := Lib.hid y2; have q0 := y1.get (j := 0) rfl; have q1 := y1.get (j := 1) rfl; have q2 := y1.get (j := 2) rfl; have q3 := y1.get (j := 3) rfl; clear y1 y2 y3)
   | (go_at_call 142; refine (cont_len B m d p.sm w1 (HTS.out.kept HB1.out)).mono ?_; rintro e9 w2 ⟨rfl, r2⟩; rw [HAL.out]; have HB2 := Lib.hid (below_then HB1.out r2); have q0 := cell_kept r2 q0; have q1 := cell_kept r2 q1; have q2 := cell_kept r2 q2; have q3 := cell_kept r2 q3; clear r2)
   | (go_at_call 60; refine (of512_any A n c p.da w2 (HBS.out.kept HB2.out) (HT.out.kept HB2.out) (by omega) (by omega)).mono ?_; rintro e9 w3 ⟨rfl, r2⟩; rw [← HPS.out]; have HB3 := Lib.hid (below_then HB2.out r2); have q0 := cell_kept r2 q0; have q1 := cell_kept r2 q1; have q2 := cell_kept r2 q2; have q3 := cell_kept r2 q3; clear r2)
   | fail)
  go_ret
  exact ⟨ret_bool HF.out.symm, HB2.out⟩
 have e5 : decide (p.ix < 0) = false := decide_eq_false (by omega)
 by_cases g6 : p.ix < (m : Int)
 rotate_left
 ·
  have e6 : decide (p.ix ≥ (m : Int)) = true := decide_eq_true (by omega)
  have e6' : decide ((m : Int) ≤ p.ix) = true := e6
  have HF : Hid (verP p = false) := Lib.hid (by rw [HV1.out, decide_eq_false g6, decide_eq_true g5]; rfl)
  clear g6
  go_enter Tryz.func116, Tryz.ntmps116
  go_wp2_with (first
   | ((with_reducible show OpW 1); refine wpList_box _ rfl 48 (.tmp 0) rfl (peC p A n c B m d) rfl ?_; intro w1 y1 y2 y3; have HB1 := Lib.hid y2; have q0 := y1.get (j := 0) rfl; have q1 := y1.get (j := 1) rfl; have q2 := y1.get (j := 2) rfl; have q3 := y1.get (j := 3) rfl; clear y1 y2 y3)
   | (go_at_call 142; refine (cont_len B m d p.sm w1 (HTS.out.kept HB1.out)).mono ?_; rintro e9 w2 ⟨rfl, r2⟩; rw [HAL.out]; have HB2 := Lib.hid (below_then HB1.out r2); have q0 := cell_kept r2 q0; have q1 := cell_kept r2 q1; have q2 := cell_kept r2 q2; have q3 := cell_kept r2 q3; clear r2)
   | (go_at_call 60; refine (of512_any A n c p.da w2 (HBS.out.kept HB2.out) (HT.out.kept HB2.out) (by omega) (by omega)).mono ?_; rintro e9 w3 ⟨rfl, r2⟩; rw [← HPS.out]; have HB3 := Lib.hid (below_then HB2.out r2); have q0 := cell_kept r2 q0; have q1 := cell_kept r2 q1; have q2 := cell_kept r2 q2; have q3 := cell_kept r2 q3; clear r2)
   | fail)
  go_ret
  exact ⟨ret_bool HF.out.symm, HB2.out⟩
 have e6 : decide (p.ix ≥ (m : Int)) = false := decide_eq_false (by omega)
 have e6' : decide ((m : Int) ≤ p.ix) = false := e6
 by_cases g7 : 1 ≤ n
 rotate_left
 ·
  have e7 : decide ((n : Int) < 1) = true := decide_eq_true (by omega)
  have e7' : decide (n < 1) = true := decide_eq_true (by omega)
  have HF : Hid (verP p = false) := Lib.hid (by rw [HV1.out, decide_eq_true g6, decide_eq_true g5, decide_eq_false g7]; rfl)
  clear g7
  go_enter Tryz.func116, Tryz.ntmps116
  go_wp2_with (first
   | ((with_reducible show OpW 1); refine wpList_box _ rfl 48 (.tmp 0) rfl (peC p A n c B m d) rfl ?_; intro w1 y1 y2 y3; have HB1 := Lib.hid y2; have q0 := y1.get (j := 0) rfl; have q1 := y1.get (j := 1) rfl; have q2 := y1.get (j := 2) rfl; have q3 := y1.get (j := 3) rfl; clear y1 y2 y3)
   | (go_at_call 142; refine (cont_len B m d p.sm w1 (HTS.out.kept HB1.out)).mono ?_; rintro e9 w2 ⟨rfl, r2⟩; rw [HAL.out]; have HB2 := Lib.hid (below_then HB1.out r2); have q0 := cell_kept r2 q0; have q1 := cell_kept r2 q1; have q2 := cell_kept r2 q2; have q3 := cell_kept r2 q3; clear r2)
   | (go_at_call 60; refine (of512_any A n c p.da w2 (HBS.out.kept HB2.out) (HT.out.kept HB2.out) (by omega) (by omega)).mono ?_; rintro e9 w3 ⟨rfl, r2⟩; rw [← HPS.out]; have HB3 := Lib.hid (below_then HB2.out r2); have q0 := cell_kept r2 q0; have q1 := cell_kept r2 q1; have q2 := cell_kept r2 q2; have q3 := cell_kept r2 q3; clear r2)
   | fail)
  go_ret
  exact ⟨ret_bool HF.out.symm, HB2.out⟩
 have e7 : decide ((n : Int) < 1) = false := decide_eq_false (by omega)
 have e7' : decide (n < 1) = false := decide_eq_false (by omega)
 by_cases g8 : (n : Int) ≤ 65536
 rotate_left
 ·
  have e8 : decide ((n : Int) > 65536) = true := decide_eq_true (by omega)
  have e8' : decide (n > 65536) = true := decide_eq_true (by omega)
  have HF : Hid (verP p = false) := Lib.hid (by rw [HV1.out, decide_eq_true g6, decide_eq_true g5, decide_eq_true g7, decide_eq_false (by omega : ¬ n ≤ 65536)]; rfl)
  clear g8
  go_enter Tryz.func116, Tryz.ntmps116
  go_wp2_with (first
   | ((with_reducible show OpW 1); refine wpList_box _ rfl 48 (.tmp 0) rfl (peC p A n c B m d) rfl ?_; intro w1 y1 y2 y3; have HB1 := Lib.hid y2; have q0 := y1.get (j := 0) rfl; have q1 := y1.get (j := 1) rfl; have q2 := y1.get (j := 2) rfl; have q3 := y1.get (j := 3) rfl; clear y1 y2 y3)
   | (go_at_call 142; refine (cont_len B m d p.sm w1 (HTS.out.kept HB1.out)).mono ?_; rintro e9 w2 ⟨rfl, r2⟩; rw [HAL.out]; have HB2 := Lib.hid (below_then HB1.out r2); have q0 := cell_kept r2 q0; have q1 := cell_kept r2 q1; have q2 := cell_kept r2 q2; have q3 := cell_kept r2 q3; clear r2)
   | (go_at_call 60; refine (of512_any A n c p.da w2 (HBS.out.kept HB2.out) (HT.out.kept HB2.out) (by omega) (by omega)).mono ?_; rintro e9 w3 ⟨rfl, r2⟩; rw [← HPS.out]; have HB3 := Lib.hid (below_then HB2.out r2); have q0 := cell_kept r2 q0; have q1 := cell_kept r2 q1; have q2 := cell_kept r2 q2; have q3 := cell_kept r2 q3; clear r2)
   | fail)
  go_ret
  exact ⟨ret_bool HF.out.symm, HB2.out⟩
 have e8 : decide ((n : Int) > 65536) = false := decide_eq_false (by omega)
 have e8' : decide (n > 65536) = false := decide_eq_false (by omega)
 obtain ⟨k, hk⟩ : ∃ k : Nat, p.ix = (k : Int) := ⟨p.ix.toNat, by omega⟩
 have HV2 : Hid (verP p = (decide (psum p.da = gR p.sm k) && decide (rt p.sm = p.id))) := Lib.hid (by
  rw [HV1.out, decide_eq_true g6, decide_eq_true g5, decide_eq_true g7, decide_eq_true (by omega : n ≤ 65536), hk, Int.toNat_natCast]; rfl)
 have hkm : k < m := by omega
 have hkI : (k : Int) < (m : Int) := by omega
 obtain ⟨PS, hPS⟩ : ∃ z, z = psum p.da := ⟨_, rfl⟩
 have HPS := Lib.hid hPS
 rw [← hPS] at HV2
 clear hPS HV1 g5 g6
 rw [hk] at e5 e6 e6'
 go_enter Tryz.func116, Tryz.ntmps116
 go_wp2_with (first
  | ((with_reducible show OpW 1); refine wpList_box _ rfl 48 (.tmp 0) rfl (peC p A n c B m d) rfl ?_; intro w1 y1 y2 y3; have HB1 := Lib.hid y2; have q0 := y1.get (j := 0) rfl; have q1 := y1.get (j := 1) rfl; have q2 := y1.get (j := 2) rfl; have q3 := y1.get (j := 3) rfl; clear y1 y2 y3)
  | (go_at_call 142; refine (cont_len B m d p.sm w1 (HTS.out.kept HB1.out)).mono ?_; rintro e9 w2 ⟨rfl, r2⟩; rw [HAL.out]; have HB2 := Lib.hid (below_then HB1.out r2); have q0 := cell_kept r2 q0; have q1 := cell_kept r2 q1; have q2 := cell_kept r2 q2; have q3 := cell_kept r2 q3; clear r2)
  | (go_at_call 60; refine (of512_any A n c p.da w2 (HBS.out.kept HB2.out) (HT.out.kept HB2.out) (by omega) (by omega)).mono ?_; rintro e9 w3 ⟨rfl, r2⟩; rw [← HPS.out]; have HB3 := Lib.hid (below_then HB2.out r2); have q0 := cell_kept r2 q0; have q1 := cell_kept r2 q1; have q2 := cell_kept r2 q2; have q3 := cell_kept r2 q3; clear r2)
  | fail)
 rw [hk] at q1
 obtain ⟨gs, os, ea, c9⟩ := (HTS.out.kept HB3.out).2.2.2 k hkm
 have HTS3 := Lib.hid (HTS.out.kept HB3.out)
 have HT3 := Lib.hid (HT.out.kept HB3.out)
 subst ea
 by_cases g9 : PS = gR p.sm k
 ·
  have e9 : ((strB PS).toList == (strB (gR p.sm k)).toList) = true := by rw [strB_eq, decide_eq_true g9]
  by_cases ga : rt p.sm = p.id
  ·
   have ea : ((strB (rt p.sm)).toList == (strB p.id).toList) = true := by rw [strB_eq, decide_eq_true ga]
   have HF : Hid (verP p = true) := Lib.hid (by rw [HV2.out, decide_eq_true g9, decide_eq_true ga]; rfl)
   clear g9 ga
   refine Text.wp_region_text (fun w' => w'.cell? ⟨w.heap.size, 0, none⟩ = some (.string (strB p.id))) [(0, 4), (1, 4), (2, 4), (3, 4), (4, 4), (6, 4), (7, 4), (5, 1), (8, 1), (9, 4), (10, 1), (11, 4), (12, 4), (13, 4), (14, 4), (17, 4), (18, 4), (19, 0), (15, 1), (16, 2), (20, 4), (21, 4), (22, 4)] (by kernel_rfl) (by kernel_rfl) (fun _ _ _ _ _ h => h) (q0) ?_
   iterate 7 (refine Text.purek rfl rfl (fun K hK => ⟨_, fun w' => by go_simp <;> rfl, ?_⟩); go_simp; refine hK _ ?_; clear hK K)
   iterate 2 (refine Text.readk rfl rfl (fun K hK => ⟨_, by go_simp <;> rfl, ?_⟩); go_simp; refine hK _ ?_; clear hK K)
   (refine Text.purek rfl rfl (fun K hK => ⟨_, fun w' => by go_simp <;> rfl, ?_⟩); go_simp; refine hK _ ?_; clear hK K)
   (refine Text.readk rfl rfl (fun K hK => ⟨_, by go_simp <;> rfl, ?_⟩); go_simp; refine hK _ ?_; clear hK K)
   iterate 6 (refine Text.purek rfl rfl (fun K hK => ⟨_, fun w' => by go_simp <;> rfl, ?_⟩); go_simp; refine hK _ ?_; clear hK K)
   (refine Text.heldk rfl rfl (fun K hK => ⟨_, fun w' hw' => by go_simp <;> rfl, ?_⟩); go_simp; refine hK _ ?_; clear hK K)
   (refine Text.readk rfl rfl (fun K hK => ⟨_, by go_simp <;> rfl, ?_⟩); go_simp; refine hK _ ?_; clear hK K)
   refine Text.effw rfl rfl (fun K hK => ?_)
   go_simp
   refine (mroot_any m m _ d p.sm _ (Nat.le_refl _) (HTS3.out.kept (Below.refl _ _).drew) (HT3.out.kept (Below.refl _ _).drew) (by omega) (by omega) HLV.out).mono ?_
   rintro e9 w9 ⟨rfl, r9⟩
   have HB9 := Lib.hid (below_then HB3.out.drew r9)
   refine hK _ _ (cell_kept r9 q0) ?_
   clear hK K
   iterate 3 (refine Text.purek rfl rfl (fun K hK => ⟨_, fun w' => by go_simp <;> rfl, ?_⟩); go_simp; refine hK _ ?_; clear hK K)
   refine Text.done ?_
   go_wp2_with fail
   go_ret
   exact ⟨ret_bool HF.out.symm, HB9.out⟩
  ·
   have ea : ((strB (rt p.sm)).toList == (strB p.id).toList) = false := by rw [strB_eq, decide_eq_false ga]
   have HF : Hid (verP p = false) := Lib.hid (by rw [HV2.out, decide_eq_true g9, decide_eq_false ga]; rfl)
   clear g9 ga
   refine Text.wp_region_text (fun w' => w'.cell? ⟨w.heap.size, 0, none⟩ = some (.string (strB p.id))) [(0, 4), (1, 4), (2, 4), (3, 4), (4, 4), (6, 4), (7, 4), (5, 1), (8, 1), (9, 4), (10, 1), (11, 4), (12, 4), (13, 4), (14, 4), (17, 4), (18, 4), (19, 0), (15, 1), (16, 2), (20, 4), (21, 4), (22, 4)] (by kernel_rfl) (by kernel_rfl) (fun _ _ _ _ _ h => h) (q0) ?_
   iterate 7 (refine Text.purek rfl rfl (fun K hK => ⟨_, fun w' => by go_simp <;> rfl, ?_⟩); go_simp; refine hK _ ?_; clear hK K)
   iterate 2 (refine Text.readk rfl rfl (fun K hK => ⟨_, by go_simp <;> rfl, ?_⟩); go_simp; refine hK _ ?_; clear hK K)
   (refine Text.purek rfl rfl (fun K hK => ⟨_, fun w' => by go_simp <;> rfl, ?_⟩); go_simp; refine hK _ ?_; clear hK K)
   (refine Text.readk rfl rfl (fun K hK => ⟨_, by go_simp <;> rfl, ?_⟩); go_simp; refine hK _ ?_; clear hK K)
   iterate 6 (refine Text.purek rfl rfl (fun K hK => ⟨_, fun w' => by go_simp <;> rfl, ?_⟩); go_simp; refine hK _ ?_; clear hK K)
   (refine Text.heldk rfl rfl (fun K hK => ⟨_, fun w' hw' => by go_simp <;> rfl, ?_⟩); go_simp; refine hK _ ?_; clear hK K)
   (refine Text.readk rfl rfl (fun K hK => ⟨_, by go_simp <;> rfl, ?_⟩); go_simp; refine hK _ ?_; clear hK K)
   refine Text.effw rfl rfl (fun K hK => ?_)
   go_simp
   refine (mroot_any m m _ d p.sm _ (Nat.le_refl _) (HTS3.out.kept (Below.refl _ _).drew) (HT3.out.kept (Below.refl _ _).drew) (by omega) (by omega) HLV.out).mono ?_
   rintro e9 w9 ⟨rfl, r9⟩
   have HB9 := Lib.hid (below_then HB3.out.drew r9)
   refine hK _ _ (cell_kept r9 q0) ?_
   clear hK K
   iterate 3 (refine Text.purek rfl rfl (fun K hK => ⟨_, fun w' => by go_simp <;> rfl, ?_⟩); go_simp; refine hK _ ?_; clear hK K)
   refine Text.done ?_
   go_wp2_with fail
   go_ret
   exact ⟨ret_bool HF.out.symm, HB9.out⟩
 ·
  have e9 : ((strB PS).toList == (strB (gR p.sm k)).toList) = false := by rw [strB_eq, decide_eq_false g9]
  have HF : Hid (verP p = false) := Lib.hid (by rw [HV2.out, decide_eq_false g9]; rfl)
  clear g9
  refine Text.wp_region_text (fun _ => True) [(0, 4), (1, 4), (2, 4), (3, 4), (4, 4), (6, 4), (7, 4), (5, 1), (8, 1), (9, 4), (10, 1), (11, 4), (12, 4), (13, 4), (14, 4), (15, 4), (16, 4), (17, 4), (18, 4), (19, 4), (20, 4), (21, 4), (22, 4)] (by kernel_rfl) (by kernel_rfl) (fun _ _ _ _ _ h => h) (trivial) ?_
  iterate 7 (refine Text.purek rfl rfl (fun K hK => ⟨_, fun w' => by go_simp <;> rfl, ?_⟩); go_simp; refine hK _ ?_; clear hK K)
  iterate 2 (refine Text.readk rfl rfl (fun K hK => ⟨_, by go_simp <;> rfl, ?_⟩); go_simp; refine hK _ ?_; clear hK K)
  (refine Text.purek rfl rfl (fun K hK => ⟨_, fun w' => by go_simp <;> rfl, ?_⟩); go_simp; refine hK _ ?_; clear hK K)
  (refine Text.readk rfl rfl (fun K hK => ⟨_, by go_simp <;> rfl, ?_⟩); go_simp; refine hK _ ?_; clear hK K)
  iterate 3 (refine Text.purek rfl rfl (fun K hK => ⟨_, fun w' => by go_simp <;> rfl, ?_⟩); go_simp; refine hK _ ?_; clear hK K)
  iterate 7 (refine Text.skipk (.inr (.inr rfl)) rfl rfl (fun K hK => ?_); go_simp; refine hK _ ?_; clear hK K)
  iterate 2 (refine Text.purek rfl rfl (fun K hK => ⟨_, fun w' => by go_simp <;> rfl, ?_⟩); go_simp; refine hK _ ?_; clear hK K)
  refine Text.done ?_
  go_wp2_with fail
  go_ret
  exact ⟨ret_bool HF.out.symm, HB3.out.drew⟩
end
end Go.Proofs.YtfcakjpljjnjnaaGreatDoor
/- stripe.fits; lists of strings and of pieces that a loop builds. -/
namespace Go.Proofs.YtfcakjpljjnjnaaGreatDoor
open Go Go.RowKit Gf Sha

theorem low_kp {S : Nat → Prop} {w0 w w' : World} (h : Below w0.heap.size w0 w) (hk : Kp S w w') (hS : ∀ i, i < w0.heap.size → ¬ S i) : Below w0.heap.size w0 w' :=
 ((Kp.of_below (S := fun _ => False) h).after hk (fun i hi e => hS i hi e)).below (Nat.le_refl _) (fun _ h => h.elim)
theorem RW.ne_bl {w : World} {te t : TypeId} {s n g : Nat} {v : Value} {l cs : List Value} (h : RW w te s v n l) (hb : BL w g t cs) (ht : t ≠ te) : ∀ b, v.ownBlock = some b → b ≠ g := fun b hv e => by
 subst e
 obtain ⟨cs', h1⟩ := h.ty hv
 exact ht (hb.ty h1)
theorem one_us (x : List UInt8) : ∀ v ∈ ([.string (strB x)] : List Value), v.oneCell' = true := fun v hv => by
 rw [List.mem_singleton.1 hv]; rfl
/-- A string is appended to a list of the call's own. -/
theorem wpList_pushS {w : World} {ops : Array Oper} {rest : List Oper} {o : Oper} {a : Act} {Q : Exit → Act → World → Prop} (hg : o.guard = none) (sl x : Operand)
  (hop : o.op = .call { callee := .builtin .append, args := #[sl, x], argTypes := #[46, 46] }) (base : Nat) (v : Value) (n : Nat) (L : List (List UInt8)) (hv : a.eval sl = v) (h : OwnS w base v n L) (hb : base ≤ w.heap.size)
  (g : Nat) (z : List UInt8) (hx : a.eval x = .slice (some ⟨g, 0, none⟩) 1 1) (hbl : BL w g 9 [.string (strB z)]) (hl : n ≤ 10000)
  (hK : ∀ v' w', OwnS w' base v' (n + 1) (L ++ [z]) → Kp (fun b => v.ownBlock = some b) w w' → wpList Tryz.prog ops Q rest (a.put o.dst v') w') : wpList Tryz.prog ops Q (o :: rest) a w := by
 obtain ⟨iS, i1, i2, i3, i4⟩ := info_some infoStr
 refine wpList_appRW _ hg sl x 46 9 1 iS _ hop Tryz.underlying46 i1 i2 i3 rfl v _ _ hv h.1 g _ hx hbl rfl (one_us z) (by rw [i4]; omega) (by omega) ?_
 intro v' w' ap
 refine hK v' w' ⟨?_, fun b e => (ap.own b e).elim (h.2 b) (fun h1 => by omega)⟩ ap.kp
 have h1 := ap.row
 rw [List.map_append]
 exact h1
theorem bslPe (id : List UInt8) (ix : Int) (A : Option Addr) (n c : Nat) (B : Option Addr) (m d : Nat) (w : World) : (Instr.buildSlice 27 1 #[(0, .agg [.string (strB id), .int .i64 ix, .slice A n c, .slice B m d].toArray)]).run Tryz.prog w = .ok (.slice (some ⟨w.heap.size, 0, none⟩) 1 1) (w.alloc (.cells [.string (strB id), .int .i64 ix, .slice A n c, .slice B m d].toArray 48)) := by kernel_rfl
theorem bldPid (s : List UInt8) (i : Int) (w : World) : (Instr.build 31 #[(0, .string (strB s)), (1, .int .i64 i)]).run Tryz.prog w = .ok (.agg [.string (strB s), .int .i64 i].toArray) w := by kernel_rfl
theorem bldPe (id : List UInt8) (ix : Int) (A : Option Addr) (n c : Nat) (B : Option Addr) (m d : Nat) (w : World) : (Instr.build 48 #[(0, .agg [.string (strB id), .int .i64 ix].toArray), (1, .slice A n c), (2, .slice B m d)]).run Tryz.prog w = .ok (.agg [.string (strB id), .int .i64 ix, .slice A n c, .slice B m d].toArray) w := by kernel_rfl
/-- A piece is appended to a list of the call's own. -/
theorem wpList_pushPe {w : World} {ops : Array Oper} {rest : List Oper} {o : Oper} {a : Act} {Q : Exit → Act → World → Prop} (hg : o.guard = none) (sl x : Operand)
  (hop : o.op = .call { callee := .builtin .append, args := #[sl, x], argTypes := #[27, 27] }) (base : Nat) (v : Value) (L : List Pe) (hv : a.eval sl = v) (h : OLn rPe 4 48 base w v L) (hb : base ≤ w.heap.size)
  (g : Nat) (y : Pe) (A : Option Addr) (n c : Nat) (B : Option Addr) (m d : Nat) (hx : a.eval x = .slice (some ⟨g, 0, none⟩) 1 1) (hbl : BL w g 48 (peC y A n c B m d))
  (hst : ∀ w', Kp (fun b => v.ownBlock = some b) w w' → rPe w' (peC y A n c B m d) y) (hl : L.length ≤ 10000)
  (hK : ∀ v' w', OLn rPe 4 48 base w' v' (L ++ [y]) → Kp (fun b => v.ownBlock = some b) w w' → wpList Tryz.prog ops Q rest (a.put o.dst v') w') : wpList Tryz.prog ops Q (o :: rest) a w := by
 obtain ⟨css, h1, h2, h3, h4, h5⟩ := h
 obtain ⟨iS, i1, i2, i3, i4⟩ := info_some infoPe
 refine wpList_appRW _ hg sl x 27 48 4 iS _ hop Tryz.underlying27 i1 i2 i3 rfl v _ _ hv h4 g _ hx hbl rfl (one_pe y A n c B m d) (by rw [i4]; omega) (by omega) ?_
 intro v' w' ap
 exact hK v' w' (OLn.push h1 h2 h3 h5 rfl rfl hst hb ap) ap.kp
/-- Bytes and strings of the call's own stay when a list of pieces turns. -/
theorem pe_stay {w : World} {b1 b2 base : Nat} {v : Value} {L : List Pe} {y : Pe} {A : Option Addr} {n c : Nat} {B : Option Addr} {m d : Nat} (hv : OLn rPe 4 48 base w v L) (h1 : OwnB w b1 (.slice A n c) n y.da) (h2 : OwnS w b2 (.slice B m d) m y.sm)
  (hn : n ≤ lim) (hm : m * 16 ≤ lim) (hid : y.id.length ≤ reachBytes) (hix : wfI y.ix) : ∀ w', Kp (fun b => v.ownBlock = some b) w w' → rPe w' (peC y A n c B m d) y := by
 intro w' hk
 obtain ⟨css, _, _, _, h4, _⟩ := hv
 refine ⟨A, n, c, B, m, d, rfl, BS.of_rw (h1.1.kp hk (fun b hb e => ?_)) hn, TS.of_rw (h2.1.kp hk (fun b hb e => ?_)) hm, hid, hix⟩
 ·
  obtain ⟨cs, hb2⟩ := h4.ty e
  exact h1.1.ne_bl hb2 (by decide) b hb rfl
 ·
  obtain ⟨cs, hb2⟩ := h4.ty e
  exact h2.1.ne_bl hb2 (by decide) b hb rfl
section
set_option maxRecDepth 100000
set_option maxHeartbeats 4000000
theorem sfits_any (cs : List Value) (s : Sp) (cp : List Value) (p : Pe) (w : World) (h : rSp w cs s) (hp : rPe w cp p) (hT : Tabs w) :
  Calls Tryz.prog 73 #[.agg cs.toArray, .agg cp.toArray] w fun e w' => e = .returned (.bool (sfiB s p)) ∧ Below w.heap.size w w' := by
 have HP := Lib.hid hp
 have HT := Lib.hid hT
 obtain ⟨R, r, e, rfl, _⟩ := h
 obtain ⟨A, n, c, B, m, d, rfl, hbs, hts, _, _⟩ := hp
 have HNL : Hid (p.da.length = n) := Lib.hid hbs.1
 have HML : Hid (p.sm.length = m) := Lib.hid hts.1
 clear hT hbs hts
 by_cases g1 : p.id = s.id
 rotate_left
 ·
  have e1 : ((strB p.id).toList == (strB s.id).toList) = false := by rw [strB_eq, decide_eq_false g1]
  have HF : Hid (sfiB s p = false) := Lib.hid (by unfold sfiB; rw [decide_eq_false g1]; rfl)
  clear g1
  go_enter Tryz.func73, Tryz.ntmps73
  go_wp2_with (first
   | ((with_reducible show OpW 2); refine wpList_box _ rfl 26 (.tmp 0) rfl (spC s R r e) rfl ?_; intro w1 y1 y2 y3; have HB1 := Lib.hid y2; have p0 := y1.get (j := 0) rfl; have p2 := y1.get (j := 2) rfl; have p4 := y1.get (j := 4) rfl; clear y1 y2 y3)
   | ((with_reducible show OpW 3); refine wpList_box _ rfl 48 (.tmp 1) rfl (peC p A n c B m d) rfl ?_; intro w2 y1 y2 y3; have HB2 := Lib.hid (below_then HB1.out y2); have p0 := cell_kept y2 p0; have p2 := cell_kept y2 p2; have p4 := cell_kept y2 p4; have HV2 := Lib.hid y1; have q0 := y1.get (j := 0) rfl; have q2 := y1.get (j := 2) rfl; have q3 := y1.get (j := 3) rfl; clear y1 y2 y3)
   | fail)
  go_ret
  exact ⟨ret_bool HF.out.symm, HB2.out⟩
 have e1 : ((strB p.id).toList == (strB s.id).toList) = true := by rw [strB_eq, decide_eq_true g1]
 by_cases g2 : (m : Int) = s.t
 rotate_left
 ·
  have e2 : ((m : Int) == s.t) = false := by rw [beq_eq_false_iff_ne]; exact g2
  have HF : Hid (sfiB s p = false) := Lib.hid (by unfold sfiB; rw [HML.out, decide_eq_true g1, decide_eq_false g2]; rfl)
  clear g1 g2
  go_enter Tryz.func73, Tryz.ntmps73
  go_wp2_with (first
   | ((with_reducible show OpW 2); refine wpList_box _ rfl 26 (.tmp 0) rfl (spC s R r e) rfl ?_; intro w1 y1 y2 y3; have HB1 := Lib.hid y2; have p0 := y1.get (j := 0) rfl; have p2 := y1.get (j := 2) rfl; have p4 := y1.get (j := 4) rfl; clear y1 y2 y3)
   | ((with_reducible show OpW 3); refine wpList_box _ rfl 48 (.tmp 1) rfl (peC p A n c B m d) rfl ?_; intro w2 y1 y2 y3; have HB2 := Lib.hid (below_then HB1.out y2); have p0 := cell_kept y2 p0; have p2 := cell_kept y2 p2; have p4 := cell_kept y2 p4; have HV2 := Lib.hid y1; have q0 := y1.get (j := 0) rfl; have q2 := y1.get (j := 2) rfl; have q3 := y1.get (j := 3) rfl; clear y1 y2 y3)
   | fail)
  go_ret
  exact ⟨ret_bool HF.out.symm, HB2.out⟩
 have e2 : ((m : Int) == s.t) = true := by rw [beq_iff_eq]; exact g2
 by_cases g3 : (n : Int) = s.b
 rotate_left
 ·
  have e3 : ((n : Int) == s.b) = false := by rw [beq_eq_false_iff_ne]; exact g3
  have HF : Hid (sfiB s p = false) := Lib.hid (by unfold sfiB; rw [HML.out, HNL.out, decide_eq_true g1, decide_eq_true g2, decide_eq_false g3]; rfl)
  clear g1 g2 g3
  go_enter Tryz.func73, Tryz.ntmps73
  go_wp2_with (first
   | ((with_reducible show OpW 2); refine wpList_box _ rfl 26 (.tmp 0) rfl (spC s R r e) rfl ?_; intro w1 y1 y2 y3; have HB1 := Lib.hid y2; have p0 := y1.get (j := 0) rfl; have p2 := y1.get (j := 2) rfl; have p4 := y1.get (j := 4) rfl; clear y1 y2 y3)
   | ((with_reducible show OpW 3); refine wpList_box _ rfl 48 (.tmp 1) rfl (peC p A n c B m d) rfl ?_; intro w2 y1 y2 y3; have HB2 := Lib.hid (below_then HB1.out y2); have p0 := cell_kept y2 p0; have p2 := cell_kept y2 p2; have p4 := cell_kept y2 p4; have HV2 := Lib.hid y1; have q0 := y1.get (j := 0) rfl; have q2 := y1.get (j := 2) rfl; have q3 := y1.get (j := 3) rfl; clear y1 y2 y3)
   | fail)
  go_ret
  exact ⟨ret_bool HF.out.symm, HB2.out⟩
 have e3 : ((n : Int) == s.b) = true := by rw [beq_iff_eq]; exact g3
 have HF : Hid (sfiB s p = verP p) := Lib.hid (by unfold sfiB; rw [HML.out, HNL.out, decide_eq_true g1, decide_eq_true g2, decide_eq_true g3]; rfl)
 clear g1 g2 g3
 go_enter Tryz.func73, Tryz.ntmps73
 go_wp2_with (first
  | ((with_reducible show OpW 2); refine wpList_box _ rfl 26 (.tmp 0) rfl (spC s R r e) rfl ?_; intro w1 y1 y2 y3; have HB1 := Lib.hid y2; have p0 := y1.get (j := 0) rfl; have p2 := y1.get (j := 2) rfl; have p4 := y1.get (j := 4) rfl; clear y1 y2 y3)
  | ((with_reducible show OpW 3); refine wpList_box _ rfl 48 (.tmp 1) rfl (peC p A n c B m d) rfl ?_; intro w2 y1 y2 y3; have HB2 := Lib.hid (below_then HB1.out y2); have p0 := cell_kept y2 p0; have p2 := cell_kept y2 p2; have p4 := cell_kept y2 p4; have HV2 := Lib.hid y1; have q0 := y1.get (j := 0) rfl; have q2 := y1.get (j := 2) rfl; have q3 := y1.get (j := 3) rfl; clear y1 y2 y3)
  | ((with_reducible show OpW 28); refine wpList_loadvg _ rfl 48 (.tmp 3) rfl 4 (by kernel_rfl) w1.heap.size 0 (peC p A n c B m d) rfl (BL.all HV2.out) rfl ?_)
  | (go_at_call 116; refine (sverify_any _ p w2 (stay_pe _ _ _ _ HP.out HB2.out) (HT.out.kept HB2.out)).mono ?_; rintro e9 w3 ⟨rfl, r2⟩; have HB3 := Lib.hid (below_then HB2.out r2); clear r2))
 go_ret
 exact ⟨ret_bool HF.out.symm, HB3.out⟩
end
end Go.Proofs.YtfcakjpljjnjnaaGreatDoor
/- Contracts of package gf256: double, Mul, Inv: the walks. -/
namespace Go.Proofs.YtfcakjpljjnjnaaGreatDoor
open Go.RowKit Gf

attribute [local go_sem] Gf.xor_bits Gf.and_bits Gf.or_bits Gf.and128 Gf.and1 Gf.xor29 Gf.shl1 Gf.shr1 Gf.ne_zero_iff Gf.eq_zero_iff Gf.eq_one_iff Gf.beq_bytes Gf.bne_bytes Gf.bv_toNat

theorem ret_u8 {a b : UInt8} (h : a = b) : Ending.returned (B a) = .returned (B b) := by rw [h]

set_option maxHeartbeats 400000 in
theorem double_any (a : UInt8) (w : World) :
  Calls Tryz.prog 160 #[B a] w fun e w' => e = .returned (B (dbl a)) ∧ w = w' := by
 by_cases h : (a &&& 128 != 0) = true
 ·
  go_enter Tryz.func160, Tryz.ntmps160
  go_wp2
  go_ret
  refine ⟨?_, rfl⟩
  show Ending.returned (B (a <<< 1 ^^^ 29)) = _
  rw [dbl, if_pos h]
 ·
  have h' : (a &&& 128 != 0) = false := by simpa using h
  go_enter Tryz.func160, Tryz.ntmps160
  go_wp2
  go_ret
  refine ⟨?_, rfl⟩
  show Ending.returned (.int .u8 (bv a * (2 : Int) % (256 : Int))) = _
  rw [shl1, dbl, if_neg h]

set_option maxHeartbeats 400000 in
theorem mul_any (a b : UInt8) (w : World) :
  Calls Tryz.prog 152 #[B a, B b] w fun e w' => e = .returned (B (mul a b)) ∧ w = w' := by
 go_enter Tryz.func152, Tryz.ntmps152
 go_wp2
 go_loop [0, 1, 5] (fun x y p => ∃ a' b' p' : UInt8, x = B a' ∧ y = B b' ∧ p = B p' ∧ Hid (mulAux 8 a' b' p' = mul a b)) (fun _ y _ => (intOf y).toNat)
 case atStart => exact ⟨a, b, 0, rfl, rfl, rfl, Lib.hid rfl⟩
 case round =>
  obtain ⟨a', b', p', rfl, rfl, rfl, hm⟩ := hrel
  by_cases hb : b' = 0
  ·
   have H : Hid (p' = mul a b) := by
    have := hm.out; subst hb; rw [mulAux_zero] at this; exact this
   clear hm
   have hb' : (b' != 0) = false := by simp [hb]
   have HB := Lib.hid hb
   clear hb
   go_wp2
   go_ret
   exact ⟨ret_u8 H.out, rfl⟩
  ·
   have hb' : (b' != 0) = true := by simp [hb]
   have hlt := shr1_lt b' hb
   have hs := mulAux_step a' b' p' hb
   have HB := Lib.hid hb
   clear hb
   by_cases h1 : b' &&& 1 = 1
   ·
    rw [if_pos h1] at hs
    have HS := Lib.hid (hs.symm.trans hm.out)
    have h1' : (b' &&& 1 == 1) = true := by simp [h1]
    clear hs h1 hm
    go_wp2_with (go_at_call 160; refine (double_any _ _).mono ?_; rintro e w' ⟨rfl, rfl⟩)
    go_round
    case rel => exact ⟨_, b' >>> 1, _, rfl, rfl, rfl, HS⟩
    case measure => simp only [intOf, Gf.bv_toNat]; omega
   ·
    rw [if_neg h1] at hs
    have HS := Lib.hid (hs.symm.trans hm.out)
    have h1' : (b' &&& 1 == 1) = false := by simp [h1]
    clear hs h1 hm
    go_wp2_with (go_at_call 160; refine (double_any _ _).mono ?_; rintro e w' ⟨rfl, rfl⟩)
    go_round
    case rel => exact ⟨_, b' >>> 1, _, rfl, rfl, rfl, HS⟩
    case measure => simp only [intOf, Gf.bv_toNat]; omega

set_option maxHeartbeats 400000 in
theorem inv_any (a : UInt8) (h : (a == 0) = false) (w : World) :
  Calls Tryz.prog 133 #[B a] w fun e w' => e = .returned (.tuple #[B (inv a), .int .i64 0]) ∧ w = w' := by
 go_enter Tryz.func133, Tryz.ntmps133
 go_wp2
 go_loop [0, 4, 7] (fun x i k => ∃ (a' i' : UInt8) (n : Nat), x = B a' ∧ i = B i' ∧ k = .int .i64 (n : Int) ∧ n ≤ 7 ∧ Hid (invAux (7 - n) a' i' = inv a)) (fun _ _ k => 7 - (intOf k).toNat)
 case atStart => exact ⟨a, 1, 0, rfl, rfl, rfl, by omega, Lib.hid rfl⟩
 case round =>
  obtain ⟨a', i', n, rfl, rfl, rfl, hn, hm⟩ := hrel
  by_cases hlt : n < 7
  ·
   have HS : Hid (invAux (7 - (n + 1)) (mul a' a') (mul i' (mul a' a')) = inv a) := by
    have e : 7 - n = (7 - (n + 1)) + 1 := by omega
    have := hm.out; rw [e, invAux] at this; exact this
   clear hm
   go_wp2_with (go_at_call 152; refine (mul_any _ _ _).mono ?_; rintro e w' ⟨rfl, rfl⟩)
   go_round
   case rel => exact ⟨_, _, n + 1, rfl, rfl, by go_num, by omega, HS⟩
   case measure => simp [intOf]; omega
  ·
   have HS : Hid (i' = inv a) := by
    have e : 7 - n = 0 := by omega
    have := hm.out; rw [e, invAux] at this; exact this
   clear hm
   go_wp2
   go_ret2
   exact ⟨by rw [← HS.out]; rfl, rfl⟩

end Go.Proofs.YtfcakjpljjnjnaaGreatDoor
