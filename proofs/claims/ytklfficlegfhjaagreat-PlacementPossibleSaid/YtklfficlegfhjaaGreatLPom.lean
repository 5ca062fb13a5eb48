/- PlacementPossible: the walk. -/
import Derived.Test.YtklfficlegfhjaaGreatKkm
import Derived.Test.YtklfficlegfhjaaGreatLfm
import Derived.Test.YtklfficlegfhjaaGreatMpm
namespace Go.Proofs.YtklfficlegfhjaaGreat
open Go Go.RowKit Go.Shelf Gf Sha

theorem budB_iff {b : Int} : budB b = true ↔ 1 ≤ b ∧ b ≤ 1048576 := by
 unfold budB
 rw [Bool.and_eq_true, decide_eq_true_eq, decide_eq_true_eq]
set_option maxRecDepth 100000 in
set_option maxHeartbeats 4000000 in
theorem possible_walk (A : Option Addr) (n c : Nat) (ws : List Wt) (B : Option Addr) (m d : Nat) (hs : List Hd) (ex bu : Int) (w : World) (h : LS rWt 4 40 w A n c ws) (hh : LS rHd 3 24 w B m d hs) :
  Calls Tryz.prog 5 #[.slice A n c, .slice B m d, .int .i64 ex, .int .i64 bu] w fun e w' => e = .returned (.bool true) ∧ Below w.heap.size w w' := by
 have H := Lib.hid h
 have HH := Lib.hid hh
 have HLM := Lib.hid hh.1
 clear h hh
 by_cases a1 : n ≤ 4
 ·
  have x1 : decide ((n : Int) > 4) = false := decide_eq_false (by omega)
  have x2 : decide (n > 4) = false := decide_eq_false (by omega)
  clear a1
  by_cases a2 : m ≤ 6
  ·
   have x3 : decide ((m : Int) > 6) = false := decide_eq_false (by omega)
   have x4 : decide (m > 6) = false := decide_eq_false (by omega)
   clear a2
   cases f1 : fewB n m 0 with
   | false =>
    go_enter Tryz.func5, Tryz.ntmps5
    go_wp2_with (first
     | (go_at_call 9; refine (few_any A n c B m d none 0 0 w).mono ?_; rintro e w1 ⟨rfl, hw⟩; rw [hw, f1]; clear hw w1)
     | (go_at_call 10; refine (awake_any w).mono ?_; rintro e w1 ⟨rfl, b1⟩; have HB1 := Lib.hid b1; clear b1))
    go_ret
    exact ⟨rfl, HB1.out⟩
   | true =>
    obtain ⟨bn, hbn⟩ : ∃ b, b = limI bu := ⟨_, rfl⟩
    have HBN := Lib.hid hbn
    have g3 : ((1 : Int) == 1) = true := rfl
    cases f2 : wantsB ws with
    | false =>
     have HO : Hid (possV ws hs ex bn = (false, 1)) := Lib.hid (if_neg (fun h => by rw [f2] at h; cases h.1))
     clear hbn
     go_enter Tryz.func5, Tryz.ntmps5
     go_wp2_with (first
      | (go_at_call 9; refine (few_any A n c B m d none 0 0 w).mono ?_; rintro e w1 ⟨rfl, hw⟩; rw [hw, f1]; clear hw w1)
      | (go_at_call 23; refine (limit_any bu w).mono ?_; rintro e w1 ⟨rfl, hw⟩; rw [hw, ← HBN.out]; clear hw w1)
      | (go_at_call 24; refine (possible_any A n c ws B m d hs _ _ w H.out HH.out).mono ?_; rintro e w1 ⟨rfl, r2⟩; rw [HO.out]; have HB1 := Lib.hid r2; clear r2)
      | (go_at_call 13; refine (of_rwt A n c ws w1 (H.out.kept stay_wt HB1.out)).mono ?_; rintro e w2 ⟨A2, c2, rfl, r1, r2⟩; have HW2 := Lib.hid r1; have HB2 := Lib.hid (below_then HB1.out r2); clear r1 r2)
      | (go_at_call 14; refine (of_rhd B m d hs w2 (HH.out.kept stay_hd HB2.out)).mono ?_; rintro e w3 ⟨A3, c3, rfl, r1, r2⟩; have HH3 := Lib.hid r1; have HW3 := Lib.hid (HW2.out.kept stay_wt r2); have HB3 := Lib.hid (below_then HB2.out r2); clear r1 r2)
      | (go_at_call 25; refine (rwants_any A2 n c2 ws w3 HW3.out).mono ?_; rintro e w4 ⟨rfl, r2⟩; rw [f2]; have HW4 := Lib.hid (HW3.out.kept stay_wt r2); have HH4 := Lib.hid (HH3.out.kept stay_hd r2); have HB4 := Lib.hid (below_then HB3.out r2); clear r2)
      | (go_at_call 26; refine (rholders_any A3 m c3 hs w4 HH4.out).mono ?_; rintro e w5 ⟨rfl, r2⟩; rw [f3]; have HW5 := Lib.hid (HW4.out.kept stay_wt r2); have HH5 := Lib.hid (HH4.out.kept stay_hd r2); have HB5 := Lib.hid (below_then HB4.out r2); clear r2)
      
      | (go_at_call 10; refine (awake_any w4).mono ?_; rintro e w8 ⟨rfl, r2⟩; have HB8 := Lib.hid (below_then HB4.out r2); clear r2))
     go_ret
     exact ⟨rfl, HB8.out⟩
    | true =>
     cases f3 : holdersB hs with
     | false =>
      have HO : Hid (possV ws hs ex bn = (false, 1)) := Lib.hid (if_neg (fun h => by rw [f3] at h; cases h.2.1))
      clear hbn
      go_enter Tryz.func5, Tryz.ntmps5
      go_wp2_with (first
       | (go_at_call 9; refine (few_any A n c B m d none 0 0 w).mono ?_; rintro e w1 ⟨rfl, hw⟩; rw [hw, f1]; clear hw w1)
       | (go_at_call 23; refine (limit_any bu w).mono ?_; rintro e w1 ⟨rfl, hw⟩; rw [hw, ← HBN.out]; clear hw w1)
       | (go_at_call 24; refine (possible_any A n c ws B m d hs _ _ w H.out HH.out).mono ?_; rintro e w1 ⟨rfl, r2⟩; rw [HO.out]; have HB1 := Lib.hid r2; clear r2)
       | (go_at_call 13; refine (of_rwt A n c ws w1 (H.out.kept stay_wt HB1.out)).mono ?_; rintro e w2 ⟨A2, c2, rfl, r1, r2⟩; have HW2 := Lib.hid r1; have HB2 := Lib.hid (below_then HB1.out r2); clear r1 r2)
       | (go_at_call 14; refine (of_rhd B m d hs w2 (HH.out.kept stay_hd HB2.out)).mono ?_; rintro e w3 ⟨A3, c3, rfl, r1, r2⟩; have HH3 := Lib.hid r1; have HW3 := Lib.hid (HW2.out.kept stay_wt r2); have HB3 := Lib.hid (below_then HB2.out r2); clear r1 r2)
       | (go_at_call 25; refine (rwants_any A2 n c2 ws w3 HW3.out).mono ?_; rintro e w4 ⟨rfl, r2⟩; rw [f2]; have HW4 := Lib.hid (HW3.out.kept stay_wt r2); have HH4 := Lib.hid (HH3.out.kept stay_hd r2); have HB4 := Lib.hid (below_then HB3.out r2); clear r2)
       | (go_at_call 26; refine (rholders_any A3 m c3 hs w4 HH4.out).mono ?_; rintro e w5 ⟨rfl, r2⟩; rw [f3]; have HW5 := Lib.hid (HW4.out.kept stay_wt r2); have HH5 := Lib.hid (HH4.out.kept stay_hd r2); have HB5 := Lib.hid (below_then HB4.out r2); clear r2)
       
       | (go_at_call 10; refine (awake_any w5).mono ?_; rintro e w8 ⟨rfl, r2⟩; have HB8 := Lib.hid (below_then HB5.out r2); clear r2))
      go_ret
      exact ⟨rfl, HB8.out⟩
     | true =>
      cases e1 : decide (ex < 0) with
      | true =>
       have HO : Hid (possV ws hs ex bn = (false, 1)) := Lib.hid (if_neg (fun h => by have h8 := of_decide_eq_true e1; have h9 := h.2.2.1; omega))
       clear hbn
       go_enter Tryz.func5, Tryz.ntmps5
       go_wp2_with (first
        | (go_at_call 9; refine (few_any A n c B m d none 0 0 w).mono ?_; rintro e w1 ⟨rfl, hw⟩; rw [hw, f1]; clear hw w1)
        | (go_at_call 23; refine (limit_any bu w).mono ?_; rintro e w1 ⟨rfl, hw⟩; rw [hw, ← HBN.out]; clear hw w1)
        | (go_at_call 24; refine (possible_any A n c ws B m d hs _ _ w H.out HH.out).mono ?_; rintro e w1 ⟨rfl, r2⟩; rw [HO.out]; have HB1 := Lib.hid r2; clear r2)
        | (go_at_call 13; refine (of_rwt A n c ws w1 (H.out.kept stay_wt HB1.out)).mono ?_; rintro e w2 ⟨A2, c2, rfl, r1, r2⟩; have HW2 := Lib.hid r1; have HB2 := Lib.hid (below_then HB1.out r2); clear r1 r2)
        | (go_at_call 14; refine (of_rhd B m d hs w2 (HH.out.kept stay_hd HB2.out)).mono ?_; rintro e w3 ⟨A3, c3, rfl, r1, r2⟩; have HH3 := Lib.hid r1; have HW3 := Lib.hid (HW2.out.kept stay_wt r2); have HB3 := Lib.hid (below_then HB2.out r2); clear r1 r2)
        | (go_at_call 25; refine (rwants_any A2 n c2 ws w3 HW3.out).mono ?_; rintro e w4 ⟨rfl, r2⟩; rw [f2]; have HW4 := Lib.hid (HW3.out.kept stay_wt r2); have HH4 := Lib.hid (HH3.out.kept stay_hd r2); have HB4 := Lib.hid (below_then HB3.out r2); clear r2)
        | (go_at_call 26; refine (rholders_any A3 m c3 hs w4 HH4.out).mono ?_; rintro e w5 ⟨rfl, r2⟩; rw [f3]; have HW5 := Lib.hid (HW4.out.kept stay_wt r2); have HH5 := Lib.hid (HH4.out.kept stay_hd r2); have HB5 := Lib.hid (below_then HB4.out r2); clear r2)
        
        | (go_at_call 10; refine (awake_any w5).mono ?_; rintro e w8 ⟨rfl, r2⟩; have HB8 := Lib.hid (below_then HB5.out r2); clear r2))
       go_ret
       exact ⟨rfl, HB8.out⟩
      | false =>
       cases e2 : decide (ex > 16) with
       | true =>
        have HO : Hid (possV ws hs ex bn = (false, 1)) := Lib.hid (if_neg (fun h => by have h8 := of_decide_eq_true e2; have h9 := h.2.2.2.1; omega))
        clear hbn
        go_enter Tryz.func5, Tryz.ntmps5
        go_wp2_with (first
         | (go_at_call 9; refine (few_any A n c B m d none 0 0 w).mono ?_; rintro e w1 ⟨rfl, hw⟩; rw [hw, f1]; clear hw w1)
         | (go_at_call 23; refine (limit_any bu w).mono ?_; rintro e w1 ⟨rfl, hw⟩; rw [hw, ← HBN.out]; clear hw w1)
         | (go_at_call 24; refine (possible_any A n c ws B m d hs _ _ w H.out HH.out).mono ?_; rintro e w1 ⟨rfl, r2⟩; rw [HO.out]; have HB1 := Lib.hid r2; clear r2)
         | (go_at_call 13; refine (of_rwt A n c ws w1 (H.out.kept stay_wt HB1.out)).mono ?_; rintro e w2 ⟨A2, c2, rfl, r1, r2⟩; have HW2 := Lib.hid r1; have HB2 := Lib.hid (below_then HB1.out r2); clear r1 r2)
         | (go_at_call 14; refine (of_rhd B m d hs w2 (HH.out.kept stay_hd HB2.out)).mono ?_; rintro e w3 ⟨A3, c3, rfl, r1, r2⟩; have HH3 := Lib.hid r1; have HW3 := Lib.hid (HW2.out.kept stay_wt r2); have HB3 := Lib.hid (below_then HB2.out r2); clear r1 r2)
         | (go_at_call 25; refine (rwants_any A2 n c2 ws w3 HW3.out).mono ?_; rintro e w4 ⟨rfl, r2⟩; rw [f2]; have HW4 := Lib.hid (HW3.out.kept stay_wt r2); have HH4 := Lib.hid (HH3.out.kept stay_hd r2); have HB4 := Lib.hid (below_then HB3.out r2); clear r2)
         | (go_at_call 26; refine (rholders_any A3 m c3 hs w4 HH4.out).mono ?_; rintro e w5 ⟨rfl, r2⟩; rw [f3]; have HW5 := Lib.hid (HW4.out.kept stay_wt r2); have HH5 := Lib.hid (HH4.out.kept stay_hd r2); have HB5 := Lib.hid (below_then HB4.out r2); clear r2)
         
         | (go_at_call 10; refine (awake_any w5).mono ?_; rintro e w8 ⟨rfl, r2⟩; have HB8 := Lib.hid (below_then HB5.out r2); clear r2))
        go_ret
        exact ⟨rfl, HB8.out⟩
       | false =>
        cases b1 : decide (bn < 1) with
        | true =>
         have HO : Hid (possV ws hs ex bn = (false, 1)) := Lib.hid (if_neg (fun h => by have h8 := of_decide_eq_true b1; have h9 := (budB_iff.1 h.2.2.2.2).1; omega))
         clear hbn
         go_enter Tryz.func5, Tryz.ntmps5
         go_wp2_with (first
          | (go_at_call 9; refine (few_any A n c B m d none 0 0 w).mono ?_; rintro e w1 ⟨rfl, hw⟩; rw [hw, f1]; clear hw w1)
          | (go_at_call 23; refine (limit_any bu w).mono ?_; rintro e w1 ⟨rfl, hw⟩; rw [hw, ← HBN.out]; clear hw w1)
          | (go_at_call 24; refine (possible_any A n c ws B m d hs _ _ w H.out HH.out).mono ?_; rintro e w1 ⟨rfl, r2⟩; rw [HO.out]; have HB1 := Lib.hid r2; clear r2)
          | (go_at_call 13; refine (of_rwt A n c ws w1 (H.out.kept stay_wt HB1.out)).mono ?_; rintro e w2 ⟨A2, c2, rfl, r1, r2⟩; have HW2 := Lib.hid r1; have HB2 := Lib.hid (below_then HB1.out r2); clear r1 r2)
          | (go_at_call 14; refine (of_rhd B m d hs w2 (HH.out.kept stay_hd HB2.out)).mono ?_; rintro e w3 ⟨A3, c3, rfl, r1, r2⟩; have HH3 := Lib.hid r1; have HW3 := Lib.hid (HW2.out.kept stay_wt r2); have HB3 := Lib.hid (below_then HB2.out r2); clear r1 r2)
          | (go_at_call 25; refine (rwants_any A2 n c2 ws w3 HW3.out).mono ?_; rintro e w4 ⟨rfl, r2⟩; rw [f2]; have HW4 := Lib.hid (HW3.out.kept stay_wt r2); have HH4 := Lib.hid (HH3.out.kept stay_hd r2); have HB4 := Lib.hid (below_then HB3.out r2); clear r2)
          | (go_at_call 26; refine (rholders_any A3 m c3 hs w4 HH4.out).mono ?_; rintro e w5 ⟨rfl, r2⟩; rw [f3]; have HW5 := Lib.hid (HW4.out.kept stay_wt r2); have HH5 := Lib.hid (HH4.out.kept stay_hd r2); have HB5 := Lib.hid (below_then HB4.out r2); clear r2)
          
          | (go_at_call 10; refine (awake_any w5).mono ?_; rintro e w8 ⟨rfl, r2⟩; have HB8 := Lib.hid (below_then HB5.out r2); clear r2))
         go_ret
         exact ⟨rfl, HB8.out⟩
        | false =>
         cases b2 : decide (bn > 1048576) with
         | true =>
          have HO : Hid (possV ws hs ex bn = (false, 1)) := Lib.hid (if_neg (fun h => by have h8 := of_decide_eq_true b2; have h9 := (budB_iff.1 h.2.2.2.2).2; omega))
          clear hbn
          go_enter Tryz.func5, Tryz.ntmps5
          go_wp2_with (first
           | (go_at_call 9; refine (few_any A n c B m d none 0 0 w).mono ?_; rintro e w1 ⟨rfl, hw⟩; rw [hw, f1]; clear hw w1)
           | (go_at_call 23; refine (limit_any bu w).mono ?_; rintro e w1 ⟨rfl, hw⟩; rw [hw, ← HBN.out]; clear hw w1)
           | (go_at_call 24; refine (possible_any A n c ws B m d hs _ _ w H.out HH.out).mono ?_; rintro e w1 ⟨rfl, r2⟩; rw [HO.out]; have HB1 := Lib.hid r2; clear r2)
           | (go_at_call 13; refine (of_rwt A n c ws w1 (H.out.kept stay_wt HB1.out)).mono ?_; rintro e w2 ⟨A2, c2, rfl, r1, r2⟩; have HW2 := Lib.hid r1; have HB2 := Lib.hid (below_then HB1.out r2); clear r1 r2)
           | (go_at_call 14; refine (of_rhd B m d hs w2 (HH.out.kept stay_hd HB2.out)).mono ?_; rintro e w3 ⟨A3, c3, rfl, r1, r2⟩; have HH3 := Lib.hid r1; have HW3 := Lib.hid (HW2.out.kept stay_wt r2); have HB3 := Lib.hid (below_then HB2.out r2); clear r1 r2)
           | (go_at_call 25; refine (rwants_any A2 n c2 ws w3 HW3.out).mono ?_; rintro e w4 ⟨rfl, r2⟩; rw [f2]; have HW4 := Lib.hid (HW3.out.kept stay_wt r2); have HH4 := Lib.hid (HH3.out.kept stay_hd r2); have HB4 := Lib.hid (below_then HB3.out r2); clear r2)
           | (go_at_call 26; refine (rholders_any A3 m c3 hs w4 HH4.out).mono ?_; rintro e w5 ⟨rfl, r2⟩; rw [f3]; have HW5 := Lib.hid (HW4.out.kept stay_wt r2); have HH5 := Lib.hid (HH4.out.kept stay_hd r2); have HB5 := Lib.hid (below_then HB4.out r2); clear r2)
           
           | (go_at_call 10; refine (awake_any w5).mono ?_; rintro e w8 ⟨rfl, r2⟩; have HB8 := Lib.hid (below_then HB5.out r2); clear r2))
          go_ret
          exact ⟨rfl, HB8.out⟩
         | false =>
          have x0 := of_decide_eq_false e1
          have x16 := of_decide_eq_false e2
          have y1 := of_decide_eq_false b1
          have y2 := of_decide_eq_false b2
          obtain ⟨bk, hbk⟩ : ∃ k : Nat, bn = (k : Int) := ⟨bn.toNat, by omega⟩
          obtain ⟨xk, hxk⟩ : ∃ k : Nat, ex = (k : Int) := ⟨ex.toNat, by omega⟩
          obtain ⟨XV, hXV⟩ : ∃ z, z = possR ws hs ex bk := ⟨_, rfl⟩
          have HO : Hid (possV ws hs ex bn = XV) := Lib.hid (by
           rw [hXV, poss_eq f2 f3 (by omega)]
           unfold possV
           rw [if_pos ⟨f2, f3, by omega, by omega, budB_iff.2 ⟨by omega, by omega⟩⟩, hbk, Int.toNat_natCast])
          have HAQ := Lib.hid hXV.symm
          obtain ⟨XB, XE⟩ := XV
          have g4 : (XE == XE) = true := beq_self_eq_true XE
          have g5 : (XB == XB) = true := beq_self_eq_true XB
          have HWS := Lib.hid f2
          have HM12 : Hid (m ≤ 12) := Lib.hid (by rw [← HLM.out]; exact holders_12 f3)
          have HBK : Hid ((bk : Int) ≤ 1048576) := Lib.hid (by omega)
          have HXK : Hid (xk ≤ 16) := Lib.hid (by omega)
          clear hXV hbn x0 x16 y1 y2
          subst hbk hxk
          go_enter Tryz.func5, Tryz.ntmps5
          go_wp2_with (first
           | (go_at_call 9; refine (few_any A n c B m d none 0 0 w).mono ?_; rintro e w1 ⟨rfl, hw⟩; rw [hw, f1]; clear hw w1)
           | (go_at_call 23; refine (limit_any bu w).mono ?_; rintro e w1 ⟨rfl, hw⟩; rw [hw, ← HBN.out]; clear hw w1)
           | (go_at_call 24; refine (possible_any A n c ws B m d hs _ _ w H.out HH.out).mono ?_; rintro e w1 ⟨rfl, r2⟩; rw [HO.out]; have HB1 := Lib.hid r2; clear r2)
           | (go_at_call 13; refine (of_rwt A n c ws w1 (H.out.kept stay_wt HB1.out)).mono ?_; rintro e w2 ⟨A2, c2, rfl, r1, r2⟩; have HW2 := Lib.hid r1; have HB2 := Lib.hid (below_then HB1.out r2); clear r1 r2)
           | (go_at_call 14; refine (of_rhd B m d hs w2 (HH.out.kept stay_hd HB2.out)).mono ?_; rintro e w3 ⟨A3, c3, rfl, r1, r2⟩; have HH3 := Lib.hid r1; have HW3 := Lib.hid (HW2.out.kept stay_wt r2); have HB3 := Lib.hid (below_then HB2.out r2); clear r1 r2)
           | (go_at_call 25; refine (rwants_any A2 n c2 ws w3 HW3.out).mono ?_; rintro e w4 ⟨rfl, r2⟩; rw [f2]; have HW4 := Lib.hid (HW3.out.kept stay_wt r2); have HH4 := Lib.hid (HH3.out.kept stay_hd r2); have HB4 := Lib.hid (below_then HB3.out r2); clear r2)
           | (go_at_call 26; refine (rholders_any A3 m c3 hs w4 HH4.out).mono ?_; rintro e w5 ⟨rfl, r2⟩; rw [f3]; have HW5 := Lib.hid (HW4.out.kept stay_wt r2); have HH5 := Lib.hid (HH4.out.kept stay_hd r2); have HB5 := Lib.hid (below_then HB4.out r2); clear r2)
           | (go_at_call 27; refine (rpossible_any A2 n c2 ws A3 m c3 hs bk xk w5 HW5.out HH5.out HWS.out HM12.out HBK.out HXK.out).mono ?_; rintro e w6 ⟨rfl, r2⟩; rw [HAQ.out]; have HB6 := Lib.hid (below_then HB5.out r2); clear r2)
           | (go_at_call 10; refine (awake_any w6).mono ?_; rintro e w8 ⟨rfl, r2⟩; have HB8 := Lib.hid (below_then HB6.out r2); clear r2))
          go_ret
          exact ⟨rfl, HB8.out⟩
  ·
   have x3 : decide ((m : Int) > 6) = true := decide_eq_true (by omega)
   have x4 : decide (m > 6) = true := decide_eq_true (by omega)
   by_cases a3 : m ≤ 12
   ·
    have x5 : decide ((m : Int) ≤ 12) = true := decide_eq_true (by omega)
    have x6 : decide (m ≤ 12) = true := decide_eq_true a3
    clear a2 a3
    go_enter Tryz.func5, Tryz.ntmps5
    go_wp2_with (first
     | (go_at_call 10; refine (awake_any w).mono ?_; rintro e w1 ⟨rfl, b1⟩; have HB1 := Lib.hid b1; clear b1))
    go_ret
    exact ⟨rfl, HB1.out⟩
   ·
    have x5 : decide ((m : Int) ≤ 12) = false := decide_eq_false (by omega)
    have x6 : decide (m ≤ 12) = false := decide_eq_false a3
    clear a2 a3
    cases f1 : fewB n m 0 with
    | false =>
     go_enter Tryz.func5, Tryz.ntmps5
     go_wp2_with (first
      | (go_at_call 9; refine (few_any A n c B m d none 0 0 w).mono ?_; rintro e w1 ⟨rfl, hw⟩; rw [hw, f1]; clear hw w1)
      | (go_at_call 10; refine (awake_any w).mono ?_; rintro e w1 ⟨rfl, b1⟩; have HB1 := Lib.hid b1; clear b1))
     go_ret
     exact ⟨rfl, HB1.out⟩
    | true =>
     obtain ⟨bn, hbn⟩ : ∃ b, b = limI bu := ⟨_, rfl⟩
     have HBN := Lib.hid hbn
     have g3 : ((1 : Int) == 1) = true := rfl
     cases f2 : wantsB ws with
     | false =>
      have HO : Hid (possV ws hs ex bn = (false, 1)) := Lib.hid (if_neg (fun h => by rw [f2] at h; cases h.1))
      clear hbn
      go_enter Tryz.func5, Tryz.ntmps5
      go_wp2_with (first
       | (go_at_call 9; refine (few_any A n c B m d none 0 0 w).mono ?_; rintro e w1 ⟨rfl, hw⟩; rw [hw, f1]; clear hw w1)
       | (go_at_call 23; refine (limit_any bu w).mono ?_; rintro e w1 ⟨rfl, hw⟩; rw [hw, ← HBN.out]; clear hw w1)
       | (go_at_call 24; refine (possible_any A n c ws B m d hs _ _ w H.out HH.out).mono ?_; rintro e w1 ⟨rfl, r2⟩; rw [HO.out]; have HB1 := Lib.hid r2; clear r2)
       | (go_at_call 13; refine (of_rwt A n c ws w1 (H.out.kept stay_wt HB1.out)).mono ?_; rintro e w2 ⟨A2, c2, rfl, r1, r2⟩; have HW2 := Lib.hid r1; have HB2 := Lib.hid (below_then HB1.out r2); clear r1 r2)
       | (go_at_call 14; refine (of_rhd B m d hs w2 (HH.out.kept stay_hd HB2.out)).mono ?_; rintro e w3 ⟨A3, c3, rfl, r1, r2⟩; have HH3 := Lib.hid r1; have HW3 := Lib.hid (HW2.out.kept stay_wt r2); have HB3 := Lib.hid (below_then HB2.out r2); clear r1 r2)
       | (go_at_call 25; refine (rwants_any A2 n c2 ws w3 HW3.out).mono ?_; rintro e w4 ⟨rfl, r2⟩; rw [f2]; have HW4 := Lib.hid (HW3.out.kept stay_wt r2); have HH4 := Lib.hid (HH3.out.kept stay_hd r2); have HB4 := Lib.hid (below_then HB3.out r2); clear r2)
       | (go_at_call 26; refine (rholders_any A3 m c3 hs w4 HH4.out).mono ?_; rintro e w5 ⟨rfl, r2⟩; rw [f3]; have HW5 := Lib.hid (HW4.out.kept stay_wt r2); have HH5 := Lib.hid (HH4.out.kept stay_hd r2); have HB5 := Lib.hid (below_then HB4.out r2); clear r2)
       
       | (go_at_call 10; refine (awake_any w4).mono ?_; rintro e w8 ⟨rfl, r2⟩; have HB8 := Lib.hid (below_then HB4.out r2); clear r2))
      go_ret
      exact ⟨rfl, HB8.out⟩
     | true =>
      cases f3 : holdersB hs with
      | false =>
       have HO : Hid (possV ws hs ex bn = (false, 1)) := Lib.hid (if_neg (fun h => by rw [f3] at h; cases h.2.1))
       clear hbn
       go_enter Tryz.func5, Tryz.ntmps5
       go_wp2_with (first
        | (go_at_call 9; refine (few_any A n c B m d none 0 0 w).mono ?_; rintro e w1 ⟨rfl, hw⟩; rw [hw, f1]; clear hw w1)
        | (go_at_call 23; refine (limit_any bu w).mono ?_; rintro e w1 ⟨rfl, hw⟩; rw [hw, ← HBN.out]; clear hw w1)
        | (go_at_call 24; refine (possible_any A n c ws B m d hs _ _ w H.out HH.out).mono ?_; rintro e w1 ⟨rfl, r2⟩; rw [HO.out]; have HB1 := Lib.hid r2; clear r2)
        | (go_at_call 13; refine (of_rwt A n c ws w1 (H.out.kept stay_wt HB1.out)).mono ?_; rintro e w2 ⟨A2, c2, rfl, r1, r2⟩; have HW2 := Lib.hid r1; have HB2 := Lib.hid (below_then HB1.out r2); clear r1 r2)
        | (go_at_call 14; refine (of_rhd B m d hs w2 (HH.out.kept stay_hd HB2.out)).mono ?_; rintro e w3 ⟨A3, c3, rfl, r1, r2⟩; have HH3 := Lib.hid r1; have HW3 := Lib.hid (HW2.out.kept stay_wt r2); have HB3 := Lib.hid (below_then HB2.out r2); clear r1 r2)
        | (go_at_call 25; refine (rwants_any A2 n c2 ws w3 HW3.out).mono ?_; rintro e w4 ⟨rfl, r2⟩; rw [f2]; have HW4 := Lib.hid (HW3.out.kept stay_wt r2); have HH4 := Lib.hid (HH3.out.kept stay_hd r2); have HB4 := Lib.hid (below_then HB3.out r2); clear r2)
        | (go_at_call 26; refine (rholders_any A3 m c3 hs w4 HH4.out).mono ?_; rintro e w5 ⟨rfl, r2⟩; rw [f3]; have HW5 := Lib.hid (HW4.out.kept stay_wt r2); have HH5 := Lib.hid (HH4.out.kept stay_hd r2); have HB5 := Lib.hid (below_then HB4.out r2); clear r2)
        
        | (go_at_call 10; refine (awake_any w5).mono ?_; rintro e w8 ⟨rfl, r2⟩; have HB8 := Lib.hid (below_then HB5.out r2); clear r2))
       go_ret
       exact ⟨rfl, HB8.out⟩
      | true =>
       cases e1 : decide (ex < 0) with
       | true =>
        have HO : Hid (possV ws hs ex bn = (false, 1)) := Lib.hid (if_neg (fun h => by have h8 := of_decide_eq_true e1; have h9 := h.2.2.1; omega))
        clear hbn
        go_enter Tryz.func5, Tryz.ntmps5
        go_wp2_with (first
         | (go_at_call 9; refine (few_any A n c B m d none 0 0 w).mono ?_; rintro e w1 ⟨rfl, hw⟩; rw [hw, f1]; clear hw w1)
         | (go_at_call 23; refine (limit_any bu w).mono ?_; rintro e w1 ⟨rfl, hw⟩; rw [hw, ← HBN.out]; clear hw w1)
         | (go_at_call 24; refine (possible_any A n c ws B m d hs _ _ w H.out HH.out).mono ?_; rintro e w1 ⟨rfl, r2⟩; rw [HO.out]; have HB1 := Lib.hid r2; clear r2)
         | (go_at_call 13; refine (of_rwt A n c ws w1 (H.out.kept stay_wt HB1.out)).mono ?_; rintro e w2 ⟨A2, c2, rfl, r1, r2⟩; have HW2 := Lib.hid r1; have HB2 := Lib.hid (below_then HB1.out r2); clear r1 r2)
         | (go_at_call 14; refine (of_rhd B m d hs w2 (HH.out.kept stay_hd HB2.out)).mono ?_; rintro e w3 ⟨A3, c3, rfl, r1, r2⟩; have HH3 := Lib.hid r1; have HW3 := Lib.hid (HW2.out.kept stay_wt r2); have HB3 := Lib.hid (below_then HB2.out r2); clear r1 r2)
         | (go_at_call 25; refine (rwants_any A2 n c2 ws w3 HW3.out).mono ?_; rintro e w4 ⟨rfl, r2⟩; rw [f2]; have HW4 := Lib.hid (HW3.out.kept stay_wt r2); have HH4 := Lib.hid (HH3.out.kept stay_hd r2); have HB4 := Lib.hid (below_then HB3.out r2); clear r2)
         | (go_at_call 26; refine (rholders_any A3 m c3 hs w4 HH4.out).mono ?_; rintro e w5 ⟨rfl, r2⟩; rw [f3]; have HW5 := Lib.hid (HW4.out.kept stay_wt r2); have HH5 := Lib.hid (HH4.out.kept stay_hd r2); have HB5 := Lib.hid (below_then HB4.out r2); clear r2)
         
         | (go_at_call 10; refine (awake_any w5).mono ?_; rintro e w8 ⟨rfl, r2⟩; have HB8 := Lib.hid (below_then HB5.out r2); clear r2))
        go_ret
        exact ⟨rfl, HB8.out⟩
       | false =>
        cases e2 : decide (ex > 16) with
        | true =>
         have HO : Hid (possV ws hs ex bn = (false, 1)) := Lib.hid (if_neg (fun h => by have h8 := of_decide_eq_true e2; have h9 := h.2.2.2.1; omega))
         clear hbn
         go_enter Tryz.func5, Tryz.ntmps5
         go_wp2_with (first
          | (go_at_call 9; refine (few_any A n c B m d none 0 0 w).mono ?_; rintro e w1 ⟨rfl, hw⟩; rw [hw, f1]; clear hw w1)
          | (go_at_call 23; refine (limit_any bu w).mono ?_; rintro e w1 ⟨rfl, hw⟩; rw [hw, ← HBN.out]; clear hw w1)
          | (go_at_call 24; refine (possible_any A n c ws B m d hs _ _ w H.out HH.out).mono ?_; rintro e w1 ⟨rfl, r2⟩; rw [HO.out]; have HB1 := Lib.hid r2; clear r2)
          | (go_at_call 13; refine (of_rwt A n c ws w1 (H.out.kept stay_wt HB1.out)).mono ?_; rintro e w2 ⟨A2, c2, rfl, r1, r2⟩; have HW2 := Lib.hid r1; have HB2 := Lib.hid (below_then HB1.out r2); clear r1 r2)
          | (go_at_call 14; refine (of_rhd B m d hs w2 (HH.out.kept stay_hd HB2.out)).mono ?_; rintro e w3 ⟨A3, c3, rfl, r1, r2⟩; have HH3 := Lib.hid r1; have HW3 := Lib.hid (HW2.out.kept stay_wt r2); have HB3 := Lib.hid (below_then HB2.out r2); clear r1 r2)
          | (go_at_call 25; refine (rwants_any A2 n c2 ws w3 HW3.out).mono ?_; rintro e w4 ⟨rfl, r2⟩; rw [f2]; have HW4 := Lib.hid (HW3.out.kept stay_wt r2); have HH4 := Lib.hid (HH3.out.kept stay_hd r2); have HB4 := Lib.hid (below_then HB3.out r2); clear r2)
          | (go_at_call 26; refine (rholders_any A3 m c3 hs w4 HH4.out).mono ?_; rintro e w5 ⟨rfl, r2⟩; rw [f3]; have HW5 := Lib.hid (HW4.out.kept stay_wt r2); have HH5 := Lib.hid (HH4.out.kept stay_hd r2); have HB5 := Lib.hid (below_then HB4.out r2); clear r2)
          
          | (go_at_call 10; refine (awake_any w5).mono ?_; rintro e w8 ⟨rfl, r2⟩; have HB8 := Lib.hid (below_then HB5.out r2); clear r2))
         go_ret
         exact ⟨rfl, HB8.out⟩
        | false =>
         cases b1 : decide (bn < 1) with
         | true =>
          have HO : Hid (possV ws hs ex bn = (false, 1)) := Lib.hid (if_neg (fun h => by have h8 := of_decide_eq_true b1; have h9 := (budB_iff.1 h.2.2.2.2).1; omega))
          clear hbn
          go_enter Tryz.func5, Tryz.ntmps5
          go_wp2_with (first
           | (go_at_call 9; refine (few_any A n c B m d none 0 0 w).mono ?_; rintro e w1 ⟨rfl, hw⟩; rw [hw, f1]; clear hw w1)
           | (go_at_call 23; refine (limit_any bu w).mono ?_; rintro e w1 ⟨rfl, hw⟩; rw [hw, ← HBN.out]; clear hw w1)
           | (go_at_call 24; refine (possible_any A n c ws B m d hs _ _ w H.out HH.out).mono ?_; rintro e w1 ⟨rfl, r2⟩; rw [HO.out]; have HB1 := Lib.hid r2; clear r2)
           | (go_at_call 13; refine (of_rwt A n c ws w1 (H.out.kept stay_wt HB1.out)).mono ?_; rintro e w2 ⟨A2, c2, rfl, r1, r2⟩; have HW2 := Lib.hid r1; have HB2 := Lib.hid (below_then HB1.out r2); clear r1 r2)
           | (go_at_call 14; refine (of_rhd B m d hs w2 (HH.out.kept stay_hd HB2.out)).mono ?_; rintro e w3 ⟨A3, c3, rfl, r1, r2⟩; have HH3 := Lib.hid r1; have HW3 := Lib.hid (HW2.out.kept stay_wt r2); have HB3 := Lib.hid (below_then HB2.out r2); clear r1 r2)
           | (go_at_call 25; refine (rwants_any A2 n c2 ws w3 HW3.out).mono ?_; rintro e w4 ⟨rfl, r2⟩; rw [f2]; have HW4 := Lib.hid (HW3.out.kept stay_wt r2); have HH4 := Lib.hid (HH3.out.kept stay_hd r2); have HB4 := Lib.hid (below_then HB3.out r2); clear r2)
           | (go_at_call 26; refine (rholders_any A3 m c3 hs w4 HH4.out).mono ?_; rintro e w5 ⟨rfl, r2⟩; rw [f3]; have HW5 := Lib.hid (HW4.out.kept stay_wt r2); have HH5 := Lib.hid (HH4.out.kept stay_hd r2); have HB5 := Lib.hid (below_then HB4.out r2); clear r2)
           
           | (go_at_call 10; refine (awake_any w5).mono ?_; rintro e w8 ⟨rfl, r2⟩; have HB8 := Lib.hid (below_then HB5.out r2); clear r2))
          go_ret
          exact ⟨rfl, HB8.out⟩
         | false =>
          cases b2 : decide (bn > 1048576) with
          | true =>
           have HO : Hid (possV ws hs ex bn = (false, 1)) := Lib.hid (if_neg (fun h => by have h8 := of_decide_eq_true b2; have h9 := (budB_iff.1 h.2.2.2.2).2; omega))
           clear hbn
           go_enter Tryz.func5, Tryz.ntmps5
           go_wp2_with (first
            | (go_at_call 9; refine (few_any A n c B m d none 0 0 w).mono ?_; rintro e w1 ⟨rfl, hw⟩; rw [hw, f1]; clear hw w1)
            | (go_at_call 23; refine (limit_any bu w).mono ?_; rintro e w1 ⟨rfl, hw⟩; rw [hw, ← HBN.out]; clear hw w1)
            | (go_at_call 24; refine (possible_any A n c ws B m d hs _ _ w H.out HH.out).mono ?_; rintro e w1 ⟨rfl, r2⟩; rw [HO.out]; have HB1 := Lib.hid r2; clear r2)
            | (go_at_call 13; refine (of_rwt A n c ws w1 (H.out.kept stay_wt HB1.out)).mono ?_; rintro e w2 ⟨A2, c2, rfl, r1, r2⟩; have HW2 := Lib.hid r1; have HB2 := Lib.hid (below_then HB1.out r2); clear r1 r2)
            | (go_at_call 14; refine (of_rhd B m d hs w2 (HH.out.kept stay_hd HB2.out)).mono ?_; rintro e w3 ⟨A3, c3, rfl, r1, r2⟩; have HH3 := Lib.hid r1; have HW3 := Lib.hid (HW2.out.kept stay_wt r2); have HB3 := Lib.hid (below_then HB2.out r2); clear r1 r2)
            | (go_at_call 25; refine (rwants_any A2 n c2 ws w3 HW3.out).mono ?_; rintro e w4 ⟨rfl, r2⟩; rw [f2]; have HW4 := Lib.hid (HW3.out.kept stay_wt r2); have HH4 := Lib.hid (HH3.out.kept stay_hd r2); have HB4 := Lib.hid (below_then HB3.out r2); clear r2)
            | (go_at_call 26; refine (rholders_any A3 m c3 hs w4 HH4.out).mono ?_; rintro e w5 ⟨rfl, r2⟩; rw [f3]; have HW5 := Lib.hid (HW4.out.kept stay_wt r2); have HH5 := Lib.hid (HH4.out.kept stay_hd r2); have HB5 := Lib.hid (below_then HB4.out r2); clear r2)
            
            | (go_at_call 10; refine (awake_any w5).mono ?_; rintro e w8 ⟨rfl, r2⟩; have HB8 := Lib.hid (below_then HB5.out r2); clear r2))
           go_ret
           exact ⟨rfl, HB8.out⟩
          | false =>
           have x0 := of_decide_eq_false e1
           have x16 := of_decide_eq_false e2
           have y1 := of_decide_eq_false b1
           have y2 := of_decide_eq_false b2
           obtain ⟨bk, hbk⟩ : ∃ k : Nat, bn = (k : Int) := ⟨bn.toNat, by omega⟩
           obtain ⟨xk, hxk⟩ : ∃ k : Nat, ex = (k : Int) := ⟨ex.toNat, by omega⟩
           obtain ⟨XV, hXV⟩ : ∃ z, z = possR ws hs ex bk := ⟨_, rfl⟩
           have HO : Hid (possV ws hs ex bn = XV) := Lib.hid (by
            rw [hXV, poss_eq f2 f3 (by omega)]
            unfold possV
            rw [if_pos ⟨f2, f3, by omega, by omega, budB_iff.2 ⟨by omega, by omega⟩⟩, hbk, Int.toNat_natCast])
           have HAQ := Lib.hid hXV.symm
           obtain ⟨XB, XE⟩ := XV
           have g4 : (XE == XE) = true := beq_self_eq_true XE
           have g5 : (XB == XB) = true := beq_self_eq_true XB
           have HWS := Lib.hid f2
           have HM12 : Hid (m ≤ 12) := Lib.hid (by rw [← HLM.out]; exact holders_12 f3)
           have HBK : Hid ((bk : Int) ≤ 1048576) := Lib.hid (by omega)
           have HXK : Hid (xk ≤ 16) := Lib.hid (by omega)
           clear hXV hbn x0 x16 y1 y2
           subst hbk hxk
           go_enter Tryz.func5, Tryz.ntmps5
           go_wp2_with (first
            | (go_at_call 9; refine (few_any A n c B m d none 0 0 w).mono ?_; rintro e w1 ⟨rfl, hw⟩; rw [hw, f1]; clear hw w1)
            | (go_at_call 23; refine (limit_any bu w).mono ?_; rintro e w1 ⟨rfl, hw⟩; rw [hw, ← HBN.out]; clear hw w1)
            | (go_at_call 24; refine (possible_any A n c ws B m d hs _ _ w H.out HH.out).mono ?_; rintro e w1 ⟨rfl, r2⟩; rw [HO.out]; have HB1 := Lib.hid r2; clear r2)
            | (go_at_call 13; refine (of_rwt A n c ws w1 (H.out.kept stay_wt HB1.out)).mono ?_; rintro e w2 ⟨A2, c2, rfl, r1, r2⟩; have HW2 := Lib.hid r1; have HB2 := Lib.hid (below_then HB1.out r2); clear r1 r2)
            | (go_at_call 14; refine (of_rhd B m d hs w2 (HH.out.kept stay_hd HB2.out)).mono ?_; rintro e w3 ⟨A3, c3, rfl, r1, r2⟩; have HH3 := Lib.hid r1; have HW3 := Lib.hid (HW2.out.kept stay_wt r2); have HB3 := Lib.hid (below_then HB2.out r2); clear r1 r2)
            | (go_at_call 25; refine (rwants_any A2 n c2 ws w3 HW3.out).mono ?_; rintro e w4 ⟨rfl, r2⟩; rw [f2]; have HW4 := Lib.hid (HW3.out.kept stay_wt r2); have HH4 := Lib.hid (HH3.out.kept stay_hd r2); have HB4 := Lib.hid (below_then HB3.out r2); clear r2)
            | (go_at_call 26; refine (rholders_any A3 m c3 hs w4 HH4.out).mono ?_; rintro e w5 ⟨rfl, r2⟩; rw [f3]; have HW5 := Lib.hid (HW4.out.kept stay_wt r2); have HH5 := Lib.hid (HH4.out.kept stay_hd r2); have HB5 := Lib.hid (below_then HB4.out r2); clear r2)
            | (go_at_call 27; refine (rpossible_any A2 n c2 ws A3 m c3 hs bk xk w5 HW5.out HH5.out HWS.out HM12.out HBK.out HXK.out).mono ?_; rintro e w6 ⟨rfl, r2⟩; rw [HAQ.out]; have HB6 := Lib.hid (below_then HB5.out r2); clear r2)
            | (go_at_call 10; refine (awake_any w6).mono ?_; rintro e w8 ⟨rfl, r2⟩; have HB8 := Lib.hid (below_then HB6.out r2); clear r2))
           go_ret
           exact ⟨rfl, HB8.out⟩
 ·
  have x1 : decide ((n : Int) > 4) = true := decide_eq_true (by omega)
  have x2 : decide (n > 4) = true := decide_eq_true (by omega)
  by_cases a4 : n ≤ 8
  ·
   have x7 : decide ((n : Int) ≤ 8) = true := decide_eq_true (by omega)
   have x8 : decide (n ≤ 8) = true := decide_eq_true a4
   clear a1 a4
   go_enter Tryz.func5, Tryz.ntmps5
   go_wp2_with (first
    | (go_at_call 10; refine (awake_any w).mono ?_; rintro e w1 ⟨rfl, b1⟩; have HB1 := Lib.hid b1; clear b1))
   go_ret
   exact ⟨rfl, HB1.out⟩
  ·
   have x7 : decide ((n : Int) ≤ 8) = false := decide_eq_false (by omega)
   have x8 : decide (n ≤ 8) = false := decide_eq_false a4
   clear a1 a4
   by_cases a2 : m ≤ 6
   ·
    have x3 : decide ((m : Int) > 6) = false := decide_eq_false (by omega)
    have x4 : decide (m > 6) = false := decide_eq_false (by omega)
    clear a2
    cases f1 : fewB n m 0 with
    | false =>
     go_enter Tryz.func5, Tryz.ntmps5
     go_wp2_with (first
      | (go_at_call 9; refine (few_any A n c B m d none 0 0 w).mono ?_; rintro e w1 ⟨rfl, hw⟩; rw [hw, f1]; clear hw w1)
      | (go_at_call 10; refine (awake_any w).mono ?_; rintro e w1 ⟨rfl, b1⟩; have HB1 := Lib.hid b1; clear b1))
     go_ret
     exact ⟨rfl, HB1.out⟩
    | true =>
     obtain ⟨bn, hbn⟩ : ∃ b, b = limI bu := ⟨_, rfl⟩
     have HBN := Lib.hid hbn
     have g3 : ((1 : Int) == 1) = true := rfl
     cases f2 : wantsB ws with
     | false =>
      have HO : Hid (possV ws hs ex bn = (false, 1)) := Lib.hid (if_neg (fun h => by rw [f2] at h; cases h.1))
      clear hbn
      go_enter Tryz.func5, Tryz.ntmps5
      go_wp2_with (first
       | (go_at_call 9; refine (few_any A n c B m d none 0 0 w).mono ?_; rintro e w1 ⟨rfl, hw⟩; rw [hw, f1]; clear hw w1)
       | (go_at_call 23; refine (limit_any bu w).mono ?_; rintro e w1 ⟨rfl, hw⟩; rw [hw, ← HBN.out]; clear hw w1)
       | (go_at_call 24; refine (possible_any A n c ws B m d hs _ _ w H.out HH.out).mono ?_; rintro e w1 ⟨rfl, r2⟩; rw [HO.out]; have HB1 := Lib.hid r2; clear r2)
       | (go_at_call 13; refine (of_rwt A n c ws w1 (H.out.kept stay_wt HB1.out)).mono ?_; rintro e w2 ⟨A2, c2, rfl, r1, r2⟩; have HW2 := Lib.hid r1; have HB2 := Lib.hid (below_then HB1.out r2); clear r1 r2)
       | (go_at_call 14; refine (of_rhd B m d hs w2 (HH.out.kept stay_hd HB2.out)).mono ?_; rintro e w3 ⟨A3, c3, rfl, r1, r2⟩; have HH3 := Lib.hid r1; have HW3 := Lib.hid (HW2.out.kept stay_wt r2); have HB3 := Lib.hid (below_then HB2.out r2); clear r1 r2)
       | (go_at_call 25; refine (rwants_any A2 n c2 ws w3 HW3.out).mono ?_; rintro e w4 ⟨rfl, r2⟩; rw [f2]; have HW4 := Lib.hid (HW3.out.kept stay_wt r2); have HH4 := Lib.hid (HH3.out.kept stay_hd r2); have HB4 := Lib.hid (below_then HB3.out r2); clear r2)
       | (go_at_call 26; refine (rholders_any A3 m c3 hs w4 HH4.out).mono ?_; rintro e w5 ⟨rfl, r2⟩; rw [f3]; have HW5 := Lib.hid (HW4.out.kept stay_wt r2); have HH5 := Lib.hid (HH4.out.kept stay_hd r2); have HB5 := Lib.hid (below_then HB4.out r2); clear r2)
       
       | (go_at_call 10; refine (awake_any w4).mono ?_; rintro e w8 ⟨rfl, r2⟩; have HB8 := Lib.hid (below_then HB4.out r2); clear r2))
      go_ret
      exact ⟨rfl, HB8.out⟩
     | true =>
      cases f3 : holdersB hs with
      | false =>
       have HO : Hid (possV ws hs ex bn = (false, 1)) := Lib.hid (if_neg (fun h => by rw [f3] at h; cases h.2.1))
       clear hbn
       go_enter Tryz.func5, Tryz.ntmps5
       go_wp2_with (first
        | (go_at_call 9; refine (few_any A n c B m d none 0 0 w).mono ?_; rintro e w1 ⟨rfl, hw⟩; rw [hw, f1]; clear hw w1)
        | (go_at_call 23; refine (limit_any bu w).mono ?_; rintro e w1 ⟨rfl, hw⟩; rw [hw, ← HBN.out]; clear hw w1)
        | (go_at_call 24; refine (possible_any A n c ws B m d hs _ _ w H.out HH.out).mono ?_; rintro e w1 ⟨rfl, r2⟩; rw [HO.out]; have HB1 := Lib.hid r2; clear r2)
        | (go_at_call 13; refine (of_rwt A n c ws w1 (H.out.kept stay_wt HB1.out)).mono ?_; rintro e w2 ⟨A2, c2, rfl, r1, r2⟩; have HW2 := Lib.hid r1; have HB2 := Lib.hid (below_then HB1.out r2); clear r1 r2)
        | (go_at_call 14; refine (of_rhd B m d hs w2 (HH.out.kept stay_hd HB2.out)).mono ?_; rintro e w3 ⟨A3, c3, rfl, r1, r2⟩; have HH3 := Lib.hid r1; have HW3 := Lib.hid (HW2.out.kept stay_wt r2); have HB3 := Lib.hid (below_then HB2.out r2); clear r1 r2)
        | (go_at_call 25; refine (rwants_any A2 n c2 ws w3 HW3.out).mono ?_; rintro e w4 ⟨rfl, r2⟩; rw [f2]; have HW4 := Lib.hid (HW3.out.kept stay_wt r2); have HH4 := Lib.hid (HH3.out.kept stay_hd r2); have HB4 := Lib.hid (below_then HB3.out r2); clear r2)
        | (go_at_call 26; refine (rholders_any A3 m c3 hs w4 HH4.out).mono ?_; rintro e w5 ⟨rfl, r2⟩; rw [f3]; have HW5 := Lib.hid (HW4.out.kept stay_wt r2); have HH5 := Lib.hid (HH4.out.kept stay_hd r2); have HB5 := Lib.hid (below_then HB4.out r2); clear r2)
        
        | (go_at_call 10; refine (awake_any w5).mono ?_; rintro e w8 ⟨rfl, r2⟩; have HB8 := Lib.hid (below_then HB5.out r2); clear r2))
       go_ret
       exact ⟨rfl, HB8.out⟩
      | true =>
       cases e1 : decide (ex < 0) with
       | true =>
        have HO : Hid (possV ws hs ex bn = (false, 1)) := Lib.hid (if_neg (fun h => by have h8 := of_decide_eq_true e1; have h9 := h.2.2.1; omega))
        clear hbn
        go_enter Tryz.func5, Tryz.ntmps5
        go_wp2_with (first
         | (go_at_call 9; refine (few_any A n c B m d none 0 0 w).mono ?_; rintro e w1 ⟨rfl, hw⟩; rw [hw, f1]; clear hw w1)
         | (go_at_call 23; refine (limit_any bu w).mono ?_; rintro e w1 ⟨rfl, hw⟩; rw [hw, ← HBN.out]; clear hw w1)
         | (go_at_call 24; refine (possible_any A n c ws B m d hs _ _ w H.out HH.out).mono ?_; rintro e w1 ⟨rfl, r2⟩; rw [HO.out]; have HB1 := Lib.hid r2; clear r2)
         | (go_at_call 13; refine (of_rwt A n c ws w1 (H.out.kept stay_wt HB1.out)).mono ?_; rintro e w2 ⟨A2, c2, rfl, r1, r2⟩; have HW2 := Lib.hid r1; have HB2 := Lib.hid (below_then HB1.out r2); clear r1 r2)
         | (go_at_call 14; refine (of_rhd B m d hs w2 (HH.out.kept stay_hd HB2.out)).mono ?_; rintro e w3 ⟨A3, c3, rfl, r1, r2⟩; have HH3 := Lib.hid r1; have HW3 := Lib.hid (HW2.out.kept stay_wt r2); have HB3 := Lib.hid (below_then HB2.out r2); clear r1 r2)
         | (go_at_call 25; refine (rwants_any A2 n c2 ws w3 HW3.out).mono ?_; rintro e w4 ⟨rfl, r2⟩; rw [f2]; have HW4 := Lib.hid (HW3.out.kept stay_wt r2); have HH4 := Lib.hid (HH3.out.kept stay_hd r2); have HB4 := Lib.hid (below_then HB3.out r2); clear r2)
         | (go_at_call 26; refine (rholders_any A3 m c3 hs w4 HH4.out).mono ?_; rintro e w5 ⟨rfl, r2⟩; rw [f3]; have HW5 := Lib.hid (HW4.out.kept stay_wt r2); have HH5 := Lib.hid (HH4.out.kept stay_hd r2); have HB5 := Lib.hid (below_then HB4.out r2); clear r2)
         
         | (go_at_call 10; refine (awake_any w5).mono ?_; rintro e w8 ⟨rfl, r2⟩; have HB8 := Lib.hid (below_then HB5.out r2); clear r2))
        go_ret
        exact ⟨rfl, HB8.out⟩
       | false =>
        cases e2 : decide (ex > 16) with
        | true =>
         have HO : Hid (possV ws hs ex bn = (false, 1)) := Lib.hid (if_neg (fun h => by have h8 := of_decide_eq_true e2; have h9 := h.2.2.2.1; omega))
         clear hbn
         go_enter Tryz.func5, Tryz.ntmps5
         go_wp2_with (first
          | (go_at_call 9; refine (few_any A n c B m d none 0 0 w).mono ?_; rintro e w1 ⟨rfl, hw⟩; rw [hw, f1]; clear hw w1)
          | (go_at_call 23; refine (limit_any bu w).mono ?_; rintro e w1 ⟨rfl, hw⟩; rw [hw, ← HBN.out]; clear hw w1)
          | (go_at_call 24; refine (possible_any A n c ws B m d hs _ _ w H.out HH.out).mono ?_; rintro e w1 ⟨rfl, r2⟩; rw [HO.out]; have HB1 := Lib.hid r2; clear r2)
          | (go_at_call 13; refine (of_rwt A n c ws w1 (H.out.kept stay_wt HB1.out)).mono ?_; rintro e w2 ⟨A2, c2, rfl, r1, r2⟩; have HW2 := Lib.hid r1; have HB2 := Lib.hid (below_then HB1.out r2); clear r1 r2)
          | (go_at_call 14; refine (of_rhd B m d hs w2 (HH.out.kept stay_hd HB2.out)).mono ?_; rintro e w3 ⟨A3, c3, rfl, r1, r2⟩; have HH3 := Lib.hid r1; have HW3 := Lib.hid (HW2.out.kept stay_wt r2); have HB3 := Lib.hid (below_then HB2.out r2); clear r1 r2)
          | (go_at_call 25; refine (rwants_any A2 n c2 ws w3 HW3.out).mono ?_; rintro e w4 ⟨rfl, r2⟩; rw [f2]; have HW4 := Lib.hid (HW3.out.kept stay_wt r2); have HH4 := Lib.hid (HH3.out.kept stay_hd r2); have HB4 := Lib.hid (below_then HB3.out r2); clear r2)
          | (go_at_call 26; refine (rholders_any A3 m c3 hs w4 HH4.out).mono ?_; rintro e w5 ⟨rfl, r2⟩; rw [f3]; have HW5 := Lib.hid (HW4.out.kept stay_wt r2); have HH5 := Lib.hid (HH4.out.kept stay_hd r2); have HB5 := Lib.hid (below_then HB4.out r2); clear r2)
          
          | (go_at_call 10; refine (awake_any w5).mono ?_; rintro e w8 ⟨rfl, r2⟩; have HB8 := Lib.hid (below_then HB5.out r2); clear r2))
         go_ret
         exact ⟨rfl, HB8.out⟩
        | false =>
         cases b1 : decide (bn < 1) with
         | true =>
          have HO : Hid (possV ws hs ex bn = (false, 1)) := Lib.hid (if_neg (fun h => by have h8 := of_decide_eq_true b1; have h9 := (budB_iff.1 h.2.2.2.2).1; omega))
          clear hbn
          go_enter Tryz.func5, Tryz.ntmps5
          go_wp2_with (first
           | (go_at_call 9; refine (few_any A n c B m d none 0 0 w).mono ?_; rintro e w1 ⟨rfl, hw⟩; rw [hw, f1]; clear hw w1)
           | (go_at_call 23; refine (limit_any bu w).mono ?_; rintro e w1 ⟨rfl, hw⟩; rw [hw, ← HBN.out]; clear hw w1)
           | (go_at_call 24; refine (possible_any A n c ws B m d hs _ _ w H.out HH.out).mono ?_; rintro e w1 ⟨rfl, r2⟩; rw [HO.out]; have HB1 := Lib.hid r2; clear r2)
           | (go_at_call 13; refine (of_rwt A n c ws w1 (H.out.kept stay_wt HB1.out)).mono ?_; rintro e w2 ⟨A2, c2, rfl, r1, r2⟩; have HW2 := Lib.hid r1; have HB2 := Lib.hid (below_then HB1.out r2); clear r1 r2)
           | (go_at_call 14; refine (of_rhd B m d hs w2 (HH.out.kept stay_hd HB2.out)).mono ?_; rintro e w3 ⟨A3, c3, rfl, r1, r2⟩; have HH3 := Lib.hid r1; have HW3 := Lib.hid (HW2.out.kept stay_wt r2); have HB3 := Lib.hid (below_then HB2.out r2); clear r1 r2)
           | (go_at_call 25; refine (rwants_any A2 n c2 ws w3 HW3.out).mono ?_; rintro e w4 ⟨rfl, r2⟩; rw [f2]; have HW4 := Lib.hid (HW3.out.kept stay_wt r2); have HH4 := Lib.hid (HH3.out.kept stay_hd r2); have HB4 := Lib.hid (below_then HB3.out r2); clear r2)
           | (go_at_call 26; refine (rholders_any A3 m c3 hs w4 HH4.out).mono ?_; rintro e w5 ⟨rfl, r2⟩; rw [f3]; have HW5 := Lib.hid (HW4.out.kept stay_wt r2); have HH5 := Lib.hid (HH4.out.kept stay_hd r2); have HB5 := Lib.hid (below_then HB4.out r2); clear r2)
           
           | (go_at_call 10; refine (awake_any w5).mono ?_; rintro e w8 ⟨rfl, r2⟩; have HB8 := Lib.hid (below_then HB5.out r2); clear r2))
          go_ret
          exact ⟨rfl, HB8.out⟩
         | false =>
          cases b2 : decide (bn > 1048576) with
          | true =>
           have HO : Hid (possV ws hs ex bn = (false, 1)) := Lib.hid (if_neg (fun h => by have h8 := of_decide_eq_true b2; have h9 := (budB_iff.1 h.2.2.2.2).2; omega))
           clear hbn
           go_enter Tryz.func5, Tryz.ntmps5
           go_wp2_with (first
            | (go_at_call 9; refine (few_any A n c B m d none 0 0 w).mono ?_; rintro e w1 ⟨rfl, hw⟩; rw [hw, f1]; clear hw w1)
            | (go_at_call 23; refine (limit_any bu w).mono ?_; rintro e w1 ⟨rfl, hw⟩; rw [hw, ← HBN.out]; clear hw w1)
            | (go_at_call 24; refine (possible_any A n c ws B m d hs _ _ w H.out HH.out).mono ?_; rintro e w1 ⟨rfl, r2⟩; rw [HO.out]; have HB1 := Lib.hid r2; clear r2)
            | (go_at_call 13; refine (of_rwt A n c ws w1 (H.out.kept stay_wt HB1.out)).mono ?_; rintro e w2 ⟨A2, c2, rfl, r1, r2⟩; have HW2 := Lib.hid r1; have HB2 := Lib.hid (below_then HB1.out r2); clear r1 r2)
            | (go_at_call 14; refine (of_rhd B m d hs w2 (HH.out.kept stay_hd HB2.out)).mono ?_; rintro e w3 ⟨A3, c3, rfl, r1, r2⟩; have HH3 := Lib.hid r1; have HW3 := Lib.hid (HW2.out.kept stay_wt r2); have HB3 := Lib.hid (below_then HB2.out r2); clear r1 r2)
            | (go_at_call 25; refine (rwants_any A2 n c2 ws w3 HW3.out).mono ?_; rintro e w4 ⟨rfl, r2⟩; rw [f2]; have HW4 := Lib.hid (HW3.out.kept stay_wt r2); have HH4 := Lib.hid (HH3.out.kept stay_hd r2); have HB4 := Lib.hid (below_then HB3.out r2); clear r2)
            | (go_at_call 26; refine (rholders_any A3 m c3 hs w4 HH4.out).mono ?_; rintro e w5 ⟨rfl, r2⟩; rw [f3]; have HW5 := Lib.hid (HW4.out.kept stay_wt r2); have HH5 := Lib.hid (HH4.out.kept stay_hd r2); have HB5 := Lib.hid (below_then HB4.out r2); clear r2)
            
            | (go_at_call 10; refine (awake_any w5).mono ?_; rintro e w8 ⟨rfl, r2⟩; have HB8 := Lib.hid (below_then HB5.out r2); clear r2))
           go_ret
           exact ⟨rfl, HB8.out⟩
          | false =>
           have x0 := of_decide_eq_false e1
           have x16 := of_decide_eq_false e2
           have y1 := of_decide_eq_false b1
           have y2 := of_decide_eq_false b2
           obtain ⟨bk, hbk⟩ : ∃ k : Nat, bn = (k : Int) := ⟨bn.toNat, by omega⟩
           obtain ⟨xk, hxk⟩ : ∃ k : Nat, ex = (k : Int) := ⟨ex.toNat, by omega⟩
           obtain ⟨XV, hXV⟩ : ∃ z, z = possR ws hs ex bk := ⟨_, rfl⟩
           have HO : Hid (possV ws hs ex bn = XV) := Lib.hid (by
            rw [hXV, poss_eq f2 f3 (by omega)]
            unfold possV
            rw [if_pos ⟨f2, f3, by omega, by omega, budB_iff.2 ⟨by omega, by omega⟩⟩, hbk, Int.toNat_natCast])
           have HAQ := Lib.hid hXV.symm
           obtain ⟨XB, XE⟩ := XV
           have g4 : (XE == XE) = true := beq_self_eq_true XE
           have g5 : (XB == XB) = true := beq_self_eq_true XB
           have HWS := Lib.hid f2
           have HM12 : Hid (m ≤ 12) := Lib.hid (by rw [← HLM.out]; exact holders_12 f3)
           have HBK : Hid ((bk : Int) ≤ 1048576) := Lib.hid (by omega)
           have HXK : Hid (xk ≤ 16) := Lib.hid (by omega)
           clear hXV hbn x0 x16 y1 y2
           subst hbk hxk
           go_enter Tryz.func5, Tryz.ntmps5
           go_wp2_with (first
            | (go_at_call 9; refine (few_any A n c B m d none 0 0 w).mono ?_; rintro e w1 ⟨rfl, hw⟩; rw [hw, f1]; clear hw w1)
            | (go_at_call 23; refine (limit_any bu w).mono ?_; rintro e w1 ⟨rfl, hw⟩; rw [hw, ← HBN.out]; clear hw w1)
            | (go_at_call 24; refine (possible_any A n c ws B m d hs _ _ w H.out HH.out).mono ?_; rintro e w1 ⟨rfl, r2⟩; rw [HO.out]; have HB1 := Lib.hid r2; clear r2)
            | (go_at_call 13; refine (of_rwt A n c ws w1 (H.out.kept stay_wt HB1.out)).mono ?_; rintro e w2 ⟨A2, c2, rfl, r1, r2⟩; have HW2 := Lib.hid r1; have HB2 := Lib.hid (below_then HB1.out r2); clear r1 r2)
            | (go_at_call 14; refine (of_rhd B m d hs w2 (HH.out.kept stay_hd HB2.out)).mono ?_; rintro e w3 ⟨A3, c3, rfl, r1, r2⟩; have HH3 := Lib.hid r1; have HW3 := Lib.hid (HW2.out.kept stay_wt r2); have HB3 := Lib.hid (below_then HB2.out r2); clear r1 r2)
            | (go_at_call 25; refine (rwants_any A2 n c2 ws w3 HW3.out).mono ?_; rintro e w4 ⟨rfl, r2⟩; rw [f2]; have HW4 := Lib.hid (HW3.out.kept stay_wt r2); have HH4 := Lib.hid (HH3.out.kept stay_hd r2); have HB4 := Lib.hid (below_then HB3.out r2); clear r2)
            | (go_at_call 26; refine (rholders_any A3 m c3 hs w4 HH4.out).mono ?_; rintro e w5 ⟨rfl, r2⟩; rw [f3]; have HW5 := Lib.hid (HW4.out.kept stay_wt r2); have HH5 := Lib.hid (HH4.out.kept stay_hd r2); have HB5 := Lib.hid (below_then HB4.out r2); clear r2)
            | (go_at_call 27; refine (rpossible_any A2 n c2 ws A3 m c3 hs bk xk w5 HW5.out HH5.out HWS.out HM12.out HBK.out HXK.out).mono ?_; rintro e w6 ⟨rfl, r2⟩; rw [HAQ.out]; have HB6 := Lib.hid (below_then HB5.out r2); clear r2)
            | (go_at_call 10; refine (awake_any w6).mono ?_; rintro e w8 ⟨rfl, r2⟩; have HB8 := Lib.hid (below_then HB6.out r2); clear r2))
           go_ret
           exact ⟨rfl, HB8.out⟩
   ·
    have x3 : decide ((m : Int) > 6) = true := decide_eq_true (by omega)
    have x4 : decide (m > 6) = true := decide_eq_true (by omega)
    by_cases a3 : m ≤ 12
    ·
     have x5 : decide ((m : Int) ≤ 12) = true := decide_eq_true (by omega)
     have x6 : decide (m ≤ 12) = true := decide_eq_true a3
     clear a2 a3
     go_enter Tryz.func5, Tryz.ntmps5
     go_wp2_with (first
      | (go_at_call 10; refine (awake_any w).mono ?_; rintro e w1 ⟨rfl, b1⟩; have HB1 := Lib.hid b1; clear b1))
     go_ret
     exact ⟨rfl, HB1.out⟩
    ·
     have x5 : decide ((m : Int) ≤ 12) = false := decide_eq_false (by omega)
     have x6 : decide (m ≤ 12) = false := decide_eq_false a3
     clear a2 a3
     cases f1 : fewB n m 0 with
     | false =>
      go_enter Tryz.func5, Tryz.ntmps5
      go_wp2_with (first
       | (go_at_call 9; refine (few_any A n c B m d none 0 0 w).mono ?_; rintro e w1 ⟨rfl, hw⟩; rw [hw, f1]; clear hw w1)
       | (go_at_call 10; refine (awake_any w).mono ?_; rintro e w1 ⟨rfl, b1⟩; have HB1 := Lib.hid b1; clear b1))
      go_ret
      exact ⟨rfl, HB1.out⟩
     | true =>
      obtain ⟨bn, hbn⟩ : ∃ b, b = limI bu := ⟨_, rfl⟩
      have HBN := Lib.hid hbn
      have g3 : ((1 : Int) == 1) = true := rfl
      cases f2 : wantsB ws with
      | false =>
       have HO : Hid (possV ws hs ex bn = (false, 1)) := Lib.hid (if_neg (fun h => by rw [f2] at h; cases h.1))
       clear hbn
       go_enter Tryz.func5, Tryz.ntmps5
       go_wp2_with (first
        | (go_at_call 9; refine (few_any A n c B m d none 0 0 w).mono ?_; rintro e w1 ⟨rfl, hw⟩; rw [hw, f1]; clear hw w1)
        | (go_at_call 23; refine (limit_any bu w).mono ?_; rintro e w1 ⟨rfl, hw⟩; rw [hw, ← HBN.out]; clear hw w1)
        | (go_at_call 24; refine (possible_any A n c ws B m d hs _ _ w H.out HH.out).mono ?_; rintro e w1 ⟨rfl, r2⟩; rw [HO.out]; have HB1 := Lib.hid r2; clear r2)
        | (go_at_call 13; refine (of_rwt A n c ws w1 (H.out.kept stay_wt HB1.out)).mono ?_; rintro e w2 ⟨A2, c2, rfl, r1, r2⟩; have HW2 := Lib.hid r1; have HB2 := Lib.hid (below_then HB1.out r2); clear r1 r2)
        | (go_at_call 14; refine (of_rhd B m d hs w2 (HH.out.kept stay_hd HB2.out)).mono ?_; rintro e w3 ⟨A3, c3, rfl, r1, r2⟩; have HH3 := Lib.hid r1; have HW3 := Lib.hid (HW2.out.kept stay_wt r2); have HB3 := Lib.hid (below_then HB2.out r2); clear r1 r2)
        | (go_at_call 25; refine (rwants_any A2 n c2 ws w3 HW3.out).mono ?_; rintro e w4 ⟨rfl, r2⟩; rw [f2]; have HW4 := Lib.hid (HW3.out.kept stay_wt r2); have HH4 := Lib.hid (HH3.out.kept stay_hd r2); have HB4 := Lib.hid (below_then HB3.out r2); clear r2)
        | (go_at_call 26; refine (rholders_any A3 m c3 hs w4 HH4.out).mono ?_; rintro e w5 ⟨rfl, r2⟩; rw [f3]; have HW5 := Lib.hid (HW4.out.kept stay_wt r2); have HH5 := Lib.hid (HH4.out.kept stay_hd r2); have HB5 := Lib.hid (below_then HB4.out r2); clear r2)
        
        | (go_at_call 10; refine (awake_any w4).mono ?_; rintro e w8 ⟨rfl, r2⟩; have HB8 := Lib.hid (below_then HB4.out r2); clear r2))
       go_ret
       exact ⟨rfl, HB8.out⟩
      | true =>
       cases f3 : holdersB hs with
       | false =>
        have HO : Hid (possV ws hs ex bn = (false, 1)) := Lib.hid (if_neg (fun h => by rw [f3] at h; cases h.2.1))
        clear hbn
        go_enter Tryz.func5, Tryz.ntmps5
        go_wp2_with (first
         | (go_at_call 9; refine (few_any A n c B m d none 0 0 w).mono ?_; rintro e w1 ⟨rfl, hw⟩; rw [hw, f1]; clear hw w1)
         | (go_at_call 23; refine (limit_any bu w).mono ?_; rintro e w1 ⟨rfl, hw⟩; rw [hw, ← HBN.out]; clear hw w1)
         | (go_at_call 24; refine (possible_any A n c ws B m d hs _ _ w H.out HH.out).mono ?_; rintro e w1 ⟨rfl, r2⟩; rw [HO.out]; have HB1 := Lib.hid r2; clear r2)
         | (go_at_call 13; refine (of_rwt A n c ws w1 (H.out.kept stay_wt HB1.out)).mono ?_; rintro e w2 ⟨A2, c2, rfl, r1, r2⟩; have HW2 := Lib.hid r1; have HB2 := Lib.hid (below_then HB1.out r2); clear r1 r2)
         | (go_at_call 14; refine (of_rhd B m d hs w2 (HH.out.kept stay_hd HB2.out)).mono ?_; rintro e w3 ⟨A3, c3, rfl, r1, r2⟩; have HH3 := Lib.hid r1; have HW3 := Lib.hid (HW2.out.kept stay_wt r2); have HB3 := Lib.hid (below_then HB2.out r2); clear r1 r2)
         | (go_at_call 25; refine (rwants_any A2 n c2 ws w3 HW3.out).mono ?_; rintro e w4 ⟨rfl, r2⟩; rw [f2]; have HW4 := Lib.hid (HW3.out.kept stay_wt r2); have HH4 := Lib.hid (HH3.out.kept stay_hd r2); have HB4 := Lib.hid (below_then HB3.out r2); clear r2)
         | (go_at_call 26; refine (rholders_any A3 m c3 hs w4 HH4.out).mono ?_; rintro e w5 ⟨rfl, r2⟩; rw [f3]; have HW5 := Lib.hid (HW4.out.kept stay_wt r2); have HH5 := Lib.hid (HH4.out.kept stay_hd r2); have HB5 := Lib.hid (below_then HB4.out r2); clear r2)
         
         | (go_at_call 10; refine (awake_any w5).mono ?_; rintro e w8 ⟨rfl, r2⟩; have HB8 := Lib.hid (below_then HB5.out r2); clear r2))
        go_ret
        exact ⟨rfl, HB8.out⟩
       | true =>
        cases e1 : decide (ex < 0) with
        | true =>
         have HO : Hid (possV ws hs ex bn = (false, 1)) := Lib.hid (if_neg (fun h => by have h8 := of_decide_eq_true e1; have h9 := h.2.2.1; omega))
         clear hbn
         go_enter Tryz.func5, Tryz.ntmps5
         go_wp2_with (first
          | (go_at_call 9; refine (few_any A n c B m d none 0 0 w).mono ?_; rintro e w1 ⟨rfl, hw⟩; rw [hw, f1]; clear hw w1)
          | (go_at_call 23; refine (limit_any bu w).mono ?_; rintro e w1 ⟨rfl, hw⟩; rw [hw, ← HBN.out]; clear hw w1)
          | (go_at_call 24; refine (possible_any A n c ws B m d hs _ _ w H.out HH.out).mono ?_; rintro e w1 ⟨rfl, r2⟩; rw [HO.out]; have HB1 := Lib.hid r2; clear r2)
          | (go_at_call 13; refine (of_rwt A n c ws w1 (H.out.kept stay_wt HB1.out)).mono ?_; rintro e w2 ⟨A2, c2, rfl, r1, r2⟩; have HW2 := Lib.hid r1; have HB2 := Lib.hid (below_then HB1.out r2); clear r1 r2)
          | (go_at_call 14; refine (of_rhd B m d hs w2 (HH.out.kept stay_hd HB2.out)).mono ?_; rintro e w3 ⟨A3, c3, rfl, r1, r2⟩; have HH3 := Lib.hid r1; have HW3 := Lib.hid (HW2.out.kept stay_wt r2); have HB3 := Lib.hid (below_then HB2.out r2); clear r1 r2)
          | (go_at_call 25; refine (rwants_any A2 n c2 ws w3 HW3.out).mono ?_; rintro e w4 ⟨rfl, r2⟩; rw [f2]; have HW4 := Lib.hid (HW3.out.kept stay_wt r2); have HH4 := Lib.hid (HH3.out.kept stay_hd r2); have HB4 := Lib.hid (below_then HB3.out r2); clear r2)
          | (go_at_call 26; refine (rholders_any A3 m c3 hs w4 HH4.out).mono ?_; rintro e w5 ⟨rfl, r2⟩; rw [f3]; have HW5 := Lib.hid (HW4.out.kept stay_wt r2); have HH5 := Lib.hid (HH4.out.kept stay_hd r2); have HB5 := Lib.hid (below_then HB4.out r2); clear r2)
          
          | (go_at_call 10; refine (awake_any w5).mono ?_; rintro e w8 ⟨rfl, r2⟩; have HB8 := Lib.hid (below_then HB5.out r2); clear r2))
         go_ret
         exact ⟨rfl, HB8.out⟩
        | false =>
         cases e2 : decide (ex > 16) with
         | true =>
          have HO : Hid (possV ws hs ex bn = (false, 1)) := Lib.hid (if_neg (fun h => by have h8 := of_decide_eq_true e2; have h9 := h.2.2.2.1; omega))
          clear hbn
          go_enter Tryz.func5, Tryz.ntmps5
          go_wp2_with (first
           | (go_at_call 9; refine (few_any A n c B m d none 0 0 w).mono ?_; rintro e w1 ⟨rfl, hw⟩; rw [hw, f1]; clear hw w1)
           | (go_at_call 23; refine (limit_any bu w).mono ?_; rintro e w1 ⟨rfl, hw⟩; rw [hw, ← HBN.out]; clear hw w1)
           | (go_at_call 24; refine (possible_any A n c ws B m d hs _ _ w H.out HH.out).mono ?_; rintro e w1 ⟨rfl, r2⟩; rw [HO.out]; have HB1 := Lib.hid r2; clear r2)
           | (go_at_call 13; refine (of_rwt A n c ws w1 (H.out.kept stay_wt HB1.out)).mono ?_; rintro e w2 ⟨A2, c2, rfl, r1, r2⟩; have HW2 := Lib.hid r1; have HB2 := Lib.hid (below_then HB1.out r2); clear r1 r2)
           | (go_at_call 14; refine (of_rhd B m d hs w2 (HH.out.kept stay_hd HB2.out)).mono ?_; rintro e w3 ⟨A3, c3, rfl, r1, r2⟩; have HH3 := Lib.hid r1; have HW3 := Lib.hid (HW2.out.kept stay_wt r2); have HB3 := Lib.hid (below_then HB2.out r2); clear r1 r2)
           | (go_at_call 25; refine (rwants_any A2 n c2 ws w3 HW3.out).mono ?_; rintro e w4 ⟨rfl, r2⟩; rw [f2]; have HW4 := Lib.hid (HW3.out.kept stay_wt r2); have HH4 := Lib.hid (HH3.out.kept stay_hd r2); have HB4 := Lib.hid (below_then HB3.out r2); clear r2)
           | (go_at_call 26; refine (rholders_any A3 m c3 hs w4 HH4.out).mono ?_; rintro e w5 ⟨rfl, r2⟩; rw [f3]; have HW5 := Lib.hid (HW4.out.kept stay_wt r2); have HH5 := Lib.hid (HH4.out.kept stay_hd r2); have HB5 := Lib.hid (below_then HB4.out r2); clear r2)
           
           | (go_at_call 10; refine (awake_any w5).mono ?_; rintro e w8 ⟨rfl, r2⟩; have HB8 := Lib.hid (below_then HB5.out r2); clear r2))
          go_ret
          exact ⟨rfl, HB8.out⟩
         | false =>
          cases b1 : decide (bn < 1) with
          | true =>
           have HO : Hid (possV ws hs ex bn = (false, 1)) := Lib.hid (if_neg (fun h => by have h8 := of_decide_eq_true b1; have h9 := (budB_iff.1 h.2.2.2.2).1; omega))
           clear hbn
           go_enter Tryz.func5, Tryz.ntmps5
           go_wp2_with (first
            | (go_at_call 9; refine (few_any A n c B m d none 0 0 w).mono ?_; rintro e w1 ⟨rfl, hw⟩; rw [hw, f1]; clear hw w1)
            | (go_at_call 23; refine (limit_any bu w).mono ?_; rintro e w1 ⟨rfl, hw⟩; rw [hw, ← HBN.out]; clear hw w1)
            | (go_at_call 24; refine (possible_any A n c ws B m d hs _ _ w H.out HH.out).mono ?_; rintro e w1 ⟨rfl, r2⟩; rw [HO.out]; have HB1 := Lib.hid r2; clear r2)
            | (go_at_call 13; refine (of_rwt A n c ws w1 (H.out.kept stay_wt HB1.out)).mono ?_; rintro e w2 ⟨A2, c2, rfl, r1, r2⟩; have HW2 := Lib.hid r1; have HB2 := Lib.hid (below_then HB1.out r2); clear r1 r2)
            | (go_at_call 14; refine (of_rhd B m d hs w2 (HH.out.kept stay_hd HB2.out)).mono ?_; rintro e w3 ⟨A3, c3, rfl, r1, r2⟩; have HH3 := Lib.hid r1; have HW3 := Lib.hid (HW2.out.kept stay_wt r2); have HB3 := Lib.hid (below_then HB2.out r2); clear r1 r2)
            | (go_at_call 25; refine (rwants_any A2 n c2 ws w3 HW3.out).mono ?_; rintro e w4 ⟨rfl, r2⟩; rw [f2]; have HW4 := Lib.hid (HW3.out.kept stay_wt r2); have HH4 := Lib.hid (HH3.out.kept stay_hd r2); have HB4 := Lib.hid (below_then HB3.out r2); clear r2)
            | (go_at_call 26; refine (rholders_any A3 m c3 hs w4 HH4.out).mono ?_; rintro e w5 ⟨rfl, r2⟩; rw [f3]; have HW5 := Lib.hid (HW4.out.kept stay_wt r2); have HH5 := Lib.hid (HH4.out.kept stay_hd r2); have HB5 := Lib.hid (below_then HB4.out r2); clear r2)
            
            | (go_at_call 10; refine (awake_any w5).mono ?_; rintro e w8 ⟨rfl, r2⟩; have HB8 := Lib.hid (below_then HB5.out r2); clear r2))
           go_ret
           exact ⟨rfl, HB8.out⟩
          | false =>
           cases b2 : decide (bn > 1048576) with
           | true =>
            have HO : Hid (possV ws hs ex bn = (false, 1)) := Lib.hid (if_neg (fun h => by have h8 := of_decide_eq_true b2; have h9 := (budB_iff.1 h.2.2.2.2).2; omega))
            clear hbn
            go_enter Tryz.func5, Tryz.ntmps5
            go_wp2_with (first
             | (go_at_call 9; refine (few_any A n c B m d none 0 0 w).mono ?_; rintro e w1 ⟨rfl, hw⟩; rw [hw, f1]; clear hw w1)
             | (go_at_call 23; refine (limit_any bu w).mono ?_; rintro e w1 ⟨rfl, hw⟩; rw [hw, ← HBN.out]; clear hw w1)
             | (go_at_call 24; refine (possible_any A n c ws B m d hs _ _ w H.out HH.out).mono ?_; rintro e w1 ⟨rfl, r2⟩; rw [HO.out]; have HB1 := Lib.hid r2; clear r2)
             | (go_at_call 13; refine (of_rwt A n c ws w1 (H.out.kept stay_wt HB1.out)).mono ?_; rintro e w2 ⟨A2, c2, rfl, r1, r2⟩; have HW2 := Lib.hid r1; have HB2 := Lib.hid (below_then HB1.out r2); clear r1 r2)
             | (go_at_call 14; refine (of_rhd B m d hs w2 (HH.out.kept stay_hd HB2.out)).mono ?_; rintro e w3 ⟨A3, c3, rfl, r1, r2⟩; have HH3 := Lib.hid r1; have HW3 := Lib.hid (HW2.out.kept stay_wt r2); have HB3 := Lib.hid (below_then HB2.out r2); clear r1 r2)
             | (go_at_call 25; refine (rwants_any A2 n c2 ws w3 HW3.out).mono ?_; rintro e w4 ⟨rfl, r2⟩; rw [f2]; have HW4 := Lib.hid (HW3.out.kept stay_wt r2); have HH4 := Lib.hid (HH3.out.kept stay_hd r2); have HB4 := Lib.hid (below_then HB3.out r2); clear r2)
             | (go_at_call 26; refine (rholders_any A3 m c3 hs w4 HH4.out).mono ?_; rintro e w5 ⟨rfl, r2⟩; rw [f3]; have HW5 := Lib.hid (HW4.out.kept stay_wt r2); have HH5 := Lib.hid (HH4.out.kept stay_hd r2); have HB5 := Lib.hid (below_then HB4.out r2); clear r2)
             
             | (go_at_call 10; refine (awake_any w5).mono ?_; rintro e w8 ⟨rfl, r2⟩; have HB8 := Lib.hid (below_then HB5.out r2); clear r2))
            go_ret
            exact ⟨rfl, HB8.out⟩
           | false =>
            have x0 := of_decide_eq_false e1
            have x16 := of_decide_eq_false e2
            have y1 := of_decide_eq_false b1
            have y2 := of_decide_eq_false b2
            obtain ⟨bk, hbk⟩ : ∃ k : Nat, bn = (k : Int) := ⟨bn.toNat, by omega⟩
            obtain ⟨xk, hxk⟩ : ∃ k : Nat, ex = (k : Int) := ⟨ex.toNat, by omega⟩
            obtain ⟨XV, hXV⟩ : ∃ z, z = possR ws hs ex bk := ⟨_, rfl⟩
            have HO : Hid (possV ws hs ex bn = XV) := Lib.hid (by
             rw [hXV, poss_eq f2 f3 (by omega)]
             unfold possV
             rw [if_pos ⟨f2, f3, by omega, by omega, budB_iff.2 ⟨by omega, by omega⟩⟩, hbk, Int.toNat_natCast])
            have HAQ := Lib.hid hXV.symm
            obtain ⟨XB, XE⟩ := XV
            have g4 : (XE == XE) = true := beq_self_eq_true XE
            have g5 : (XB == XB) = true := beq_self_eq_true XB
            have HWS := Lib.hid f2
            have HM12 : Hid (m ≤ 12) := Lib.hid (by rw [← HLM.out]; exact holders_12 f3)
            have HBK : Hid ((bk : Int) ≤ 1048576) := Lib.hid (by omega)
            have HXK : Hid (xk ≤ 16) := Lib.hid (by omega)
            clear hXV hbn x0 x16 y1 y2
            subst hbk hxk
            go_enter Tryz.func5, Tryz.ntmps5
            go_wp2_with (first
             | (go_at_call 9; refine (few_any A n c B m d none 0 0 w).mono ?_; rintro e w1 ⟨rfl, hw⟩; rw [hw, f1]; clear hw w1)
             | (go_at_call 23; refine (limit_any bu w).mono ?_; rintro e w1 ⟨rfl, hw⟩; rw [hw, ← HBN.out]; clear hw w1)
             | (go_at_call 24; refine (possible_any A n c ws B m d hs _ _ w H.out HH.out).mono ?_; rintro e w1 ⟨rfl, r2⟩; rw [HO.out]; have HB1 := Lib.hid r2; clear r2)
             | (go_at_call 13; refine (of_rwt A n c ws w1 (H.out.kept stay_wt HB1.out)).mono ?_; rintro e w2 ⟨A2, c2, rfl, r1, r2⟩; have HW2 := Lib.hid r1; have HB2 := Lib.hid (below_then HB1.out r2); clear r1 r2)
             | (go_at_call 14; refine (of_rhd B m d hs w2 (HH.out.kept stay_hd HB2.out)).mono ?_; rintro e w3 ⟨A3, c3, rfl, r1, r2⟩; have HH3 := Lib.hid r1; have HW3 := Lib.hid (HW2.out.kept stay_wt r2); have HB3 := Lib.hid (below_then HB2.out r2); clear r1 r2)
             | (go_at_call 25; refine (rwants_any A2 n c2 ws w3 HW3.out).mono ?_; rintro e w4 ⟨rfl, r2⟩; rw [f2]; have HW4 := Lib.hid (HW3.out.kept stay_wt r2); have HH4 := Lib.hid (HH3.out.kept stay_hd r2); have HB4 := Lib.hid (below_then HB3.out r2); clear r2)
             | (go_at_call 26; refine (rholders_any A3 m c3 hs w4 HH4.out).mono ?_; rintro e w5 ⟨rfl, r2⟩; rw [f3]; have HW5 := Lib.hid (HW4.out.kept stay_wt r2); have HH5 := Lib.hid (HH4.out.kept stay_hd r2); have HB5 := Lib.hid (below_then HB4.out r2); clear r2)
             | (go_at_call 27; refine (rpossible_any A2 n c2 ws A3 m c3 hs bk xk w5 HW5.out HH5.out HWS.out HM12.out HBK.out HXK.out).mono ?_; rintro e w6 ⟨rfl, r2⟩; rw [HAQ.out]; have HB6 := Lib.hid (below_then HB5.out r2); clear r2)
             | (go_at_call 10; refine (awake_any w6).mono ?_; rintro e w8 ⟨rfl, r2⟩; have HB8 := Lib.hid (below_then HB6.out r2); clear r2))
            go_ret
            exact ⟨rfl, HB8.out⟩
end Go.Proofs.YtklfficlegfhjaaGreat
