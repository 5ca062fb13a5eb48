/- The law ChallengeRefill: its walk. -/
import Derived.Test.YtfcakjpljjnjnaaGreatDoorBom
import Derived.Test.YtfcakjpljjnjnaaGreatDoorC21
namespace Go.Proofs.YtfcakjpljjnjnaaGreatDoor
open Go Go.RowKit Go.Shelf Gf Sha

set_option maxRecDepth 100000 in
set_option maxHeartbeats 8000000 in
theorem refill_walk (Kx : Ky) (cs : List Value) (s : Sp) (i : Int) (A : Option Addr) (n c : Nat) (ps : List Pe) (f k : Int) (w : World) (hT : Tabs w) (hs : rSp w cs s) (hp : LS rPe 4 72 w A n c ps) :
  Calls Tryz.prog 3 #[Kx.val, .agg cs.toArray, .int .i64 i, .slice A n c, .int .i64 f, .int .i64 k] w fun e w' => e = .returned (.bool true) ∧ Below w.heap.size w w' := by
 have HT := Lib.hid hT
 have HSP := Lib.hid hs
 have HP := Lib.hid hp
 obtain ⟨R, rn, e, rfl, _⟩ := hs
 clear hT hp
 have hb0 : ∀ w : World, (Instr.build 31 #[]).run Tryz.prog w = .ok (.agg #[.string (strB []), .int .i64 0]) w := fun w => by kernel_rfl
 by_cases h7 : (4 : Int) < k
 ·
  have d6 : decide ((4 : Int) < k) = true := decide_eq_true h7
  by_cases h8 : k ≤ 256
  ·
   have d7 : decide (k ≤ 256) = true := decide_eq_true h8
   clear h7 h8
   go_enter Tryz.func3, Tryz.ntmps3
   go_wp2_with (first
    | ((with_reducible show OpW 6); refine wpList_box _ rfl 23 (.tmp 0) rfl Kx.cells rfl ?_; intro wa a1 a2 a3; have HGa := Lib.hid a1; have HBa := Lib.hid a2; clear a1 a2 a3)
    | ((with_reducible show OpW 7); refine wpList_box _ rfl 26 (.tmp 1) rfl (spC s R rn e) rfl ?_; intro wb a1 a2 a3; have HPb := Lib.hid a1; have HGb := Lib.hid (HGa.out.kept a2); have HBb := Lib.hid (below_then HBa.out a2); clear a1 a2 a3)
    | (go_at_call 5; (with_reducible show Calls _ _ _ wb _); refine (awake_any wb (HT.out.kept HBb.out)).mono ?_; rintro e9 w1 ⟨rfl, b1⟩; have HB1 := Lib.hid (below_then HBb.out b1); have HG1 := Lib.hid (HGb.out.kept b1); have HP1 := Lib.hid (HPb.out.kept b1); clear b1)
    | ((with_reducible show OpW 20); refine wpList_loadvg _ rfl 23 (.tmp 6) rfl 5 (by kernel_rfl) w.heap.size 0 Kx.cells rfl (BL.all HG1.out) rfl ?_)
    | (go_at_call 6; refine (small_any Kx [] 0 none 0 0 w1).mono ?_; rintro e9 w2 ⟨b, rfl, b1⟩; have HB2 := Lib.hid (below_then HB1.out b1); have HG2 := Lib.hid (HG1.out.kept b1); have HP2 := Lib.hid (HP1.out.kept b1); clear b1; cases b)
    | ((with_reducible show OpW 26); refine wpList_loadvg _ rfl 26 (.tmp 7) rfl 6 (by kernel_rfl) wa.heap.size 0 (spC s R rn e) rfl (BL.all HP2.out) rfl ?_)
    | (go_at_call 7; refine (few44_any _ s A n c ps w2 (stay_sp _ _ _ _ HSP.out HB2.out) (HP.out.kept stay_pe HB2.out)).mono ?_; rintro e9 w3 ⟨b, rfl, hfew, b1⟩; have HB3 := Lib.hid (below_then HB2.out b1); have HG3 := Lib.hid (HG2.out.kept b1); have HP3 := Lib.hid (HP2.out.kept b1); have HFW := Lib.hid hfew; clear b1 hfew; cases b)
    | (go_at_call 5; (with_reducible show Calls _ _ _ w3 _); refine (awake_any w3 (HT.out.kept HB3.out)).mono ?_; rintro e9 w4 ⟨rfl, b1⟩; have HBz := Lib.hid (below_then HB3.out b1); clear b1)
    | (go_at_call 5; (with_reducible show Calls _ _ _ w2 _); refine (awake_any w2 (HT.out.kept HB2.out)).mono ?_; rintro e9 w4 ⟨rfl, b1⟩; have HBz := Lib.hid (below_then HB2.out b1); clear b1)
    | fail)
   all_goals (go_ret; exact ⟨rfl, HBz.out⟩)
  ·
   have d7 : decide (k ≤ 256) = false := decide_eq_false h8
   clear h7 h8
   obtain ⟨L, hL⟩ : ∃ a, a = (rfiV Kx s i ps f k).1 := ⟨_, rfl⟩
   obtain ⟨eL, heL⟩ : ∃ a, a = (rfiV Kx s i ps f k).2 := ⟨_, rfl⟩
   have HL := Lib.hid (And.intro hL heL)
   clear hL heL
   have ee : (eL == eL) = true := beq_self_eq_true _
   go_enter Tryz.func3, Tryz.ntmps3
   go_wp2_with (first
    | ((with_reducible show OpW 6); refine wpList_box _ rfl 23 (.tmp 0) rfl Kx.cells rfl ?_; intro wa a1 a2 a3; have HGa := Lib.hid a1; have HBa := Lib.hid a2; clear a1 a2 a3)
    | ((with_reducible show OpW 7); refine wpList_box _ rfl 26 (.tmp 1) rfl (spC s R rn e) rfl ?_; intro wb a1 a2 a3; have HPb := Lib.hid a1; have HGb := Lib.hid (HGa.out.kept a2); have HBb := Lib.hid (below_then HBa.out a2); clear a1 a2 a3)
    | (go_at_call 5; (with_reducible show Calls _ _ _ wb _); refine (awake_any wb (HT.out.kept HBb.out)).mono ?_; rintro e9 w1 ⟨rfl, b1⟩; have HB1 := Lib.hid (below_then HBb.out b1); have HG1 := Lib.hid (HGb.out.kept b1); have HP1 := Lib.hid (HPb.out.kept b1); clear b1)
    | ((with_reducible show OpW 20); refine wpList_loadvg _ rfl 23 (.tmp 6) rfl 5 (by kernel_rfl) w.heap.size 0 Kx.cells rfl (BL.all HG1.out) rfl ?_)
    | (go_at_call 6; refine (small_any Kx [] 0 none 0 0 w1).mono ?_; rintro e9 w2 ⟨b, rfl, b1⟩; have HB2 := Lib.hid (below_then HB1.out b1); have HG2 := Lib.hid (HG1.out.kept b1); have HP2 := Lib.hid (HP1.out.kept b1); clear b1; cases b)
    | ((with_reducible show OpW 26); refine wpList_loadvg _ rfl 26 (.tmp 7) rfl 6 (by kernel_rfl) wa.heap.size 0 (spC s R rn e) rfl (BL.all HP2.out) rfl ?_)
    | (go_at_call 7; refine (few44_any _ s A n c ps w2 (stay_sp _ _ _ _ HSP.out HB2.out) (HP.out.kept stay_pe HB2.out)).mono ?_; rintro e9 w3 ⟨b, rfl, hfew, b1⟩; have HB3 := Lib.hid (below_then HB2.out b1); have HG3 := Lib.hid (HG2.out.kept b1); have HP3 := Lib.hid (HP2.out.kept b1); have HFW := Lib.hid hfew; clear b1 hfew; cases b)
    | (go_at_call 5; (with_reducible show Calls _ _ _ w3 _); refine (awake_any w3 (HT.out.kept HB3.out)).mono ?_; rintro e9 w4 ⟨rfl, b1⟩; have HBz := Lib.hid (below_then HB3.out b1); clear b1)
    | (go_at_call 5; (with_reducible show Calls _ _ _ w2 _); refine (awake_any w2 (HT.out.kept HB2.out)).mono ?_; rintro e9 w4 ⟨rfl, b1⟩; have HBz := Lib.hid (below_then HB2.out b1); clear b1)
    | ((with_reducible show OpW 41); refine wpList_loadv _ rfl 23 (.tmp 6) rfl 5 (by kernel_rfl) w.heap.size 0 Kx.cells rfl (BL.all HG3.out) rfl ?_)
    | ((with_reducible show OpW 42); refine wpList_loadv _ rfl 26 (.tmp 7) rfl 6 (by kernel_rfl) wa.heap.size 0 (spC s R rn e) rfl (BL.all HP3.out) rfl ?_)
    | (go_at_call 8; refine (refill_any Kx _ s A n c ps i f k w3 (stay_sp _ _ _ _ HSP.out HB3.out) (HP.out.kept stay_pe HB3.out) (HT.out.kept HB3.out) (HFW.out (by trivial))).mono ?_; rintro e9 w8 ⟨v8, n8, rfl, l8, m8, r8, b1⟩; rw [← HL.out.1] at l8 r8; rw [← HL.out.2]; have HN8 := Lib.hid (And.intro l8 m8); have HR8 := Lib.hid r8; have HB8 := Lib.hid (below_then HB3.out b1); have HG8 := Lib.hid (HG3.out.kept b1); have HP8 := Lib.hid (HP3.out.kept b1); clear b1 l8 m8 r8)
    | ((with_reducible show OpW 51); refine wpList_loadv _ rfl 23 (.tmp 6) rfl 5 (by kernel_rfl) w.heap.size 0 Kx.cells rfl (BL.all HG8.out) rfl ?_)
    | ((with_reducible show OpW 52); refine wpList_loadv _ rfl 26 (.tmp 7) rfl 6 (by kernel_rfl) wa.heap.size 0 (spC s R rn e) rfl (BL.all HP8.out) rfl ?_)
    | (go_at_call 9; refine (rrefill_any Kx _ s A n c ps i f k w8 (stay_sp _ _ _ _ HSP.out HB8.out) (HP.out.kept stay_pe HB8.out) (HT.out.kept HB8.out) (HFW.out (by trivial))).mono ?_; rintro e9 w9 ⟨v9, n9, rfl, l9, m9, r9, b1⟩; rw [← HL.out.1] at l9 r9; rw [← HL.out.2]; obtain rfl := HN8.out.1.symm.trans l9; have HR9 := Lib.hid r9; have HQ9 := Lib.hid (HR8.out.kept b1); have HB9 := Lib.hid (below_then HB8.out b1); clear b1 m9 r9)
    | (go_at_call 10; refine (same_any v8 v9 n8 L w9 HN8.out.1 HN8.out.2 HQ9.out HR9.out).mono ?_; rintro e9 w10 ⟨rfl, b1⟩; have HBz := Lib.hid (below_then HB9.out b1); clear b1))
   all_goals (go_ret; exact ⟨rfl, HBz.out⟩)
 ·
  have d6 : decide ((4 : Int) < k) = false := decide_eq_false h7
  clear h7
  obtain ⟨L, hL⟩ : ∃ a, a = (rfiV Kx s i ps f k).1 := ⟨_, rfl⟩
  obtain ⟨eL, heL⟩ : ∃ a, a = (rfiV Kx s i ps f k).2 := ⟨_, rfl⟩
  have HL := Lib.hid (And.intro hL heL)
  clear hL heL
  have ee : (eL == eL) = true := beq_self_eq_true _
  go_enter Tryz.func3, Tryz.ntmps3
  go_wp2_with (first
   | ((with_reducible show OpW 6); refine wpList_box _ rfl 23 (.tmp 0) rfl Kx.cells rfl ?_; intro wa a1 a2 a3; have HGa := Lib.hid a1; have HBa := Lib.hid a2; clear a1 a2 a3)
   | ((with_reducible show OpW 7); refine wpList_box _ rfl 26 (.tmp 1) rfl (spC s R rn e) rfl ?_; intro wb a1 a2 a3; have HPb := Lib.hid a1; have HGb := Lib.hid (HGa.out.kept a2); have HBb := Lib.hid (below_then HBa.out a2); clear a1 a2 a3)
   | (go_at_call 5; (with_reducible show Calls _ _ _ wb _); refine (awake_any wb (HT.out.kept HBb.out)).mono ?_; rintro e9 w1 ⟨rfl, b1⟩; have HB1 := Lib.hid (below_then HBb.out b1); have HG1 := Lib.hid (HGb.out.kept b1); have HP1 := Lib.hid (HPb.out.kept b1); clear b1)
   | ((with_reducible show OpW 20); refine wpList_loadvg _ rfl 23 (.tmp 6) rfl 5 (by kernel_rfl) w.heap.size 0 Kx.cells rfl (BL.all HG1.out) rfl ?_)
   | (go_at_call 6; refine (small_any Kx [] 0 none 0 0 w1).mono ?_; rintro e9 w2 ⟨b, rfl, b1⟩; have HB2 := Lib.hid (below_then HB1.out b1); have HG2 := Lib.hid (HG1.out.kept b1); have HP2 := Lib.hid (HP1.out.kept b1); clear b1; cases b)
   | ((with_reducible show OpW 26); refine wpList_loadvg _ rfl 26 (.tmp 7) rfl 6 (by kernel_rfl) wa.heap.size 0 (spC s R rn e) rfl (BL.all HP2.out) rfl ?_)
   | (go_at_call 7; refine (few44_any _ s A n c ps w2 (stay_sp _ _ _ _ HSP.out HB2.out) (HP.out.kept stay_pe HB2.out)).mono ?_; rintro e9 w3 ⟨b, rfl, hfew, b1⟩; have HB3 := Lib.hid (below_then HB2.out b1); have HG3 := Lib.hid (HG2.out.kept b1); have HP3 := Lib.hid (HP2.out.kept b1); have HFW := Lib.hid hfew; clear b1 hfew; cases b)
   | (go_at_call 5; (with_reducible show Calls _ _ _ w3 _); refine (awake_any w3 (HT.out.kept HB3.out)).mono ?_; rintro e9 w4 ⟨rfl, b1⟩; have HBz := Lib.hid (below_then HB3.out b1); clear b1)
   | (go_at_call 5; (with_reducible show Calls _ _ _ w2 _); refine (awake_any w2 (HT.out.kept HB2.out)).mono ?_; rintro e9 w4 ⟨rfl, b1⟩; have HBz := Lib.hid (below_then HB2.out b1); clear b1)
   | ((with_reducible show OpW 41); refine wpList_loadv _ rfl 23 (.tmp 6) rfl 5 (by kernel_rfl) w.heap.size 0 Kx.cells rfl (BL.all HG3.out) rfl ?_)
   | ((with_reducible show OpW 42); refine wpList_loadv _ rfl 26 (.tmp 7) rfl 6 (by kernel_rfl) wa.heap.size 0 (spC s R rn e) rfl (BL.all HP3.out) rfl ?_)
   | (go_at_call 8; refine (refill_any Kx _ s A n c ps i f k w3 (stay_sp _ _ _ _ HSP.out HB3.out) (HP.out.kept stay_pe HB3.out) (HT.out.kept HB3.out) (HFW.out (by trivial))).mono ?_; rintro e9 w8 ⟨v8, n8, rfl, l8, m8, r8, b1⟩; rw [← HL.out.1] at l8 r8; rw [← HL.out.2]; have HN8 := Lib.hid (And.intro l8 m8); have HR8 := Lib.hid r8; have HB8 := Lib.hid (below_then HB3.out b1); have HG8 := Lib.hid (HG3.out.kept b1); have HP8 := Lib.hid (HP3.out.kept b1); clear b1 l8 m8 r8)
   | ((with_reducible show OpW 51); refine wpList_loadv _ rfl 23 (.tmp 6) rfl 5 (by kernel_rfl) w.heap.size 0 Kx.cells rfl (BL.all HG8.out) rfl ?_)
   | ((with_reducible show OpW 52); refine wpList_loadv _ rfl 26 (.tmp 7) rfl 6 (by kernel_rfl) wa.heap.size 0 (spC s R rn e) rfl (BL.all HP8.out) rfl ?_)
   | (go_at_call 9; refine (rrefill_any Kx _ s A n c ps i f k w8 (stay_sp _ _ _ _ HSP.out HB8.out) (HP.out.kept stay_pe HB8.out) (HT.out.kept HB8.out) (HFW.out (by trivial))).mono ?_; rintro e9 w9 ⟨v9, n9, rfl, l9, m9, r9, b1⟩; rw [← HL.out.1] at l9 r9; rw [← HL.out.2]; obtain rfl := HN8.out.1.symm.trans l9; have HR9 := Lib.hid r9; have HQ9 := Lib.hid (HR8.out.kept b1); have HB9 := Lib.hid (below_then HB8.out b1); clear b1 m9 r9)
   | (go_at_call 10; refine (same_any v8 v9 n8 L w9 HN8.out.1 HN8.out.2 HQ9.out HR9.out).mono ?_; rintro e9 w10 ⟨rfl, b1⟩; have HBz := Lib.hid (below_then HB9.out b1); clear b1))
  all_goals (go_ret; exact ⟨rfl, HBz.out⟩)
end Go.Proofs.YtfcakjpljjnjnaaGreatDoor
