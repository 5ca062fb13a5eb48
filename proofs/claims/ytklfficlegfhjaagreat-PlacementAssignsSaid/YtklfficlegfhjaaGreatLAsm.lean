/- PlacementAssigns: the walk. -/
import Derived.Test.YtklfficlegfhjaaGreatKkm
import Derived.Test.YtklfficlegfhjaaGreatLfm
import Derived.Test.YtklfficlegfhjaaGreatMhm
namespace Go.Proofs.YtklfficlegfhjaaGreat
open Go Go.RowKit Go.Shelf Gf Sha

theorem asg_few {n m p : Nat} (h : fewB n m p = true) : n ≤ 10 ∧ m ≤ 14 ∧ p ≤ 40 := by
 unfold fewB at h
 simpa [and_assoc] using h
set_option maxRecDepth 100000 in
set_option maxHeartbeats 4000000 in
theorem assigns_walk (A : Option Addr) (n c : Nat) (ws : List Wt) (B : Option Addr) (m d : Nat) (hs : List Hd) (P : Option Addr) (p q : Nat) (ps : List Pl) (bu : Int) (w : World) (h : LS rWt 4 40 w A n c ws) (hh : LS rHd 3 24 w B m d hs) (hp : LS rPl 3 32 w P p q ps) :
  Calls Tryz.prog 6 #[.slice A n c, .slice B m d, .slice P p q, .int .i64 bu] w fun e w' => e = .returned (.bool true) ∧ Below w.heap.size w w' := by
 have H := Lib.hid h
 have HH := Lib.hid hh
 have HP := Lib.hid hp
 have HLM := Lib.hid hh.1
 clear h hh hp
 by_cases a1 : n ≤ 4
 ·
  have x1 : decide ((n : Int) > 4) = false := decide_eq_false (by omega)
  have x2 : decide (n > 4) = false := decide_eq_false (by omega)
  clear a1
  by_cases a2 : m ≤ 6
  ·
   have x3 : decide ((m : Int) > 6) = false := decide_eq_false (by omega)
   have x4 : decide (m > 6) = false := decide_eq_false (by omega)
   clear a2
   cases f1 : fewB n m p with
   | false =>
    go_enter Tryz.func6, Tryz.ntmps6
    go_wp2_with (first
     | (go_at_call 9; refine (few_any A n c B m d P p q w).mono ?_; rintro e w1 ⟨rfl, hw⟩; rw [hw, f1]; clear hw w1)
     | (go_at_call 10; refine (awake_any w).mono ?_; rintro e w1 ⟨rfl, b1⟩; have HB1 := Lib.hid b1; clear b1))
    go_ret
    exact ⟨rfl, HB1.out⟩
   | true =>
    have HPL := Lib.hid (asg_few f1)
    have HPM : Hid (p ≤ 100000) := Lib.hid (by have := HPL.out.2.2; omega)
    have HPK : Hid (p ≤ 1000) := Lib.hid (by have := HPL.out.2.2; omega)
    obtain ⟨E, hE⟩ : ∃ E, E = checkE ws hs ps := ⟨_, rfl⟩
    have HE := Lib.hid hE
    obtain ⟨bn, hbn⟩ : ∃ b, b = limI bu := ⟨_, rfl⟩
    have HBN := Lib.hid hbn
    have g1 : ((0 : Int) != 0) = false := rfl
    have g2 : ((0 : Int) == 0) = true := rfl
    have g3 : ((1 : Int) == 1) = true := rfl
    by_cases h0 : E = 0
    ·
     have hok := check_ok.1 (hE.symm.trans h0)
     by_cases hb : 1 ≤ bn ∧ bn ≤ 1048576
     ·
      have b1 : decide (bn < 1) = false := decide_eq_false (by omega)
      have b2 : decide (bn > 1048576) = false := decide_eq_false (by omega)
      have hbb : budB bn = true := by unfold budB; rw [decide_eq_true hb.1, decide_eq_true hb.2]; rfl
      obtain ⟨XV, hXV⟩ : ∃ z, z = assignR ws hs ps bn.toNat := ⟨_, rfl⟩
      have HAR := Lib.hid hXV
      have HO : Hid (assignV ws hs ps bn = XV) := Lib.hid (by
       unfold assignV
       rw [if_neg (by rw [← hE, h0]; exact fun h => h rfl), if_neg (by rw [hbb]; decide), ← assign_sim hok, hXV])
      obtain ⟨XL, XE⟩ := XV
      obtain ⟨bk, hbk⟩ : ∃ k : Nat, bn = (k : Int) := ⟨bn.toNat, by omega⟩
      have HWS := Lib.hid hok.w
      have HM12 : Hid (m ≤ 12) := Lib.hid (by rw [← HLM.out]; exact holders_12 hok.h)
      have HBK : Hid ((bk : Int) ≤ 1048576) := Lib.hid (by omega)
      have g4 : (XE == XE) = true := beq_self_eq_true XE
      rw [hbk, Int.toNat_natCast] at HAR
      have HAQ := Lib.hid HAR.out.symm
      clear hXV hE hbn hok hb hbb HAR
      subst hbk h0
      go_enter Tryz.func6, Tryz.ntmps6
      go_wp2_with (first
       | (go_at_call 9; refine (few_any A n c B m d P p q w).mono ?_; rintro e w1 ⟨rfl, hw⟩; rw [hw, f1]; clear hw w1)
       | (go_at_call 23; refine (limit_any bu w).mono ?_; rintro e w1 ⟨rfl, hw⟩; rw [hw, ← HBN.out]; clear hw w1)
       | (go_at_call 28; refine (assign_any A n c ws B m d hs P p q ps _ w H.out HH.out HP.out HPK.out).mono ?_; rintro e w1 ⟨A1, n1, c1, rfl, r1, r2⟩; rw [HO.out] at r1 ⊢; have HQ1 := Lib.hid r1; have HB1 := Lib.hid r2; have HC1 : Hid (Below w1.heap.size w1 w1) := Lib.hid (Below.refl _ _); clear r1 r2)
       | (go_at_call 13; refine (of_rwt A n c ws w1 (H.out.kept stay_wt HB1.out)).mono ?_; rintro e w2 ⟨A2, c2, rfl, r1, r2⟩; have HW2 := Lib.hid r1; have HB2 := Lib.hid (below_then HB1.out r2); have HC2 := Lib.hid (below_then HC1.out r2); clear r1 r2)
       | (go_at_call 14; refine (of_rhd B m d hs w2 (HH.out.kept stay_hd HB2.out)).mono ?_; rintro e w3 ⟨A3, c3, rfl, r1, r2⟩; have HH3 := Lib.hid r1; have HW3 := Lib.hid (HW2.out.kept stay_wt r2); have HB3 := Lib.hid (below_then HB2.out r2); have HC3 := Lib.hid (below_then HC2.out r2); clear r1 r2)
       | (go_at_call 15; (with_reducible show Calls _ _ #[.slice P p q] _ _); refine (of_rpl P p q ps w3 (HP.out.kept stay_pl HB3.out)).mono ?_; rintro e w4 ⟨A4, c4, rfl, r1, r2⟩; have HP4 := Lib.hid r1; have HW4 := Lib.hid (HW3.out.kept stay_wt r2); have HH4 := Lib.hid (HH3.out.kept stay_hd r2); have HB4 := Lib.hid (below_then HB3.out r2); have HC4 := Lib.hid (below_then HC3.out r2); clear r1 r2)
       | (go_at_call 12; refine (rcheck_any A2 n c2 ws A3 m c3 hs A4 p c4 ps w4 HW4.out HH4.out HP4.out HPM.out).mono ?_; rintro e w5 ⟨rfl, r2⟩; rw [← HE.out]; have HP5 := Lib.hid (HP4.out.kept stay_pl r2); have HW5 := Lib.hid (HW4.out.kept stay_wt r2); have HH5 := Lib.hid (HH4.out.kept stay_hd r2); have HB5 := Lib.hid (below_then HB4.out r2); have HC5 := Lib.hid (below_then HC4.out r2); clear r2)
       | (go_at_call 29; refine (rassign_any A2 n c2 ws A3 m c3 hs A4 p c4 ps bk w5 HW5.out HH5.out HP5.out HWS.out HM12.out (by have := HPL.out.2.2; omega) HBK.out).mono ?_; rintro e w6 ⟨A6, n6, c6, rfl, r1, r2⟩; rw [HAQ.out] at r1 ⊢; have HR6 := Lib.hid r1; have HB6 := Lib.hid (below_then HB5.out r2); have HC6 := Lib.hid (below_then HC5.out r2); clear r1 r2) | (go_at_call 15; (with_reducible show Calls _ _ #[.slice A1 n1 c1] _ _); refine (of_rpl A1 n1 c1 XL w8 HQ8.out).mono ?_; rintro e w9 ⟨A9, c9, rfl, r1, r2⟩; have HQ9 := Lib.hid r1; have HR9 := Lib.hid (HR8.out.kept stay_pl r2); have HB9 := Lib.hid (below_then HB8.out r2); clear r1 r2) | (go_at_call 21; refine (rsame_any _ _ _ XL _ _ _ XL w9 HQ9.out HR9.out).mono ?_; rintro e wb ⟨rfl, r2⟩; rw [decide_eq_true (rfl : XL = XL)]; have HBb := Lib.hid (below_then HB9.out r2); clear r2)
       | (go_at_call 10; refine (awake_any w6).mono ?_; rintro e w8 ⟨rfl, r2⟩; have HR8 := Lib.hid (HR6.out.kept stay_pl r2); have HQ8 := Lib.hid ((HQ1.out.kept stay_pl HC6.out).kept stay_pl r2); have HB8 := Lib.hid (below_then HB6.out r2); clear r2))
      go_ret
      exact ⟨rfl, HBb.out⟩
     ·
      have HO : Hid (assignV ws hs ps bn = ([], 1)) := Lib.hid (by
       unfold assignV
       rw [if_neg (by rw [← hE, h0]; exact fun h => h rfl), if_pos (by unfold budB; rw [Bool.and_eq_false_iff, decide_eq_false_iff_not, decide_eq_false_iff_not]; omega)])
      clear hE hbn hok
      subst h0
      cases b1 : decide (bn < 1) with
      | true =>
       go_enter Tryz.func6, Tryz.ntmps6
       go_wp2_with (first
        | (go_at_call 9; refine (few_any A n c B m d P p q w).mono ?_; rintro e w1 ⟨rfl, hw⟩; rw [hw, f1]; clear hw w1)
        | (go_at_call 23; refine (limit_any bu w).mono ?_; rintro e w1 ⟨rfl, hw⟩; rw [hw, ← HBN.out]; clear hw w1)
        | (go_at_call 28; refine (assign_any A n c ws B m d hs P p q ps _ w H.out HH.out HP.out HPK.out).mono ?_; rintro e w1 ⟨A1, n1, c1, rfl, r1, r2⟩; rw [HO.out] at r1 ⊢; have hz := r1.1; cases hz; have HB1 := Lib.hid r2; have HC1 : Hid (Below w1.heap.size w1 w1) := Lib.hid (Below.refl _ _); clear r1 r2)
        | (go_at_call 13; refine (of_rwt A n c ws w1 (H.out.kept stay_wt HB1.out)).mono ?_; rintro e w2 ⟨A2, c2, rfl, r1, r2⟩; have HW2 := Lib.hid r1; have HB2 := Lib.hid (below_then HB1.out r2); have HC2 := Lib.hid (below_then HC1.out r2); clear r1 r2)
        | (go_at_call 14; refine (of_rhd B m d hs w2 (HH.out.kept stay_hd HB2.out)).mono ?_; rintro e w3 ⟨A3, c3, rfl, r1, r2⟩; have HH3 := Lib.hid r1; have HW3 := Lib.hid (HW2.out.kept stay_wt r2); have HB3 := Lib.hid (below_then HB2.out r2); have HC3 := Lib.hid (below_then HC2.out r2); clear r1 r2)
        | (go_at_call 15; (with_reducible show Calls _ _ #[.slice P p q] _ _); refine (of_rpl P p q ps w3 (HP.out.kept stay_pl HB3.out)).mono ?_; rintro e w4 ⟨A4, c4, rfl, r1, r2⟩; have HP4 := Lib.hid r1; have HW4 := Lib.hid (HW3.out.kept stay_wt r2); have HH4 := Lib.hid (HH3.out.kept stay_hd r2); have HB4 := Lib.hid (below_then HB3.out r2); have HC4 := Lib.hid (below_then HC3.out r2); clear r1 r2)
        | (go_at_call 12; refine (rcheck_any A2 n c2 ws A3 m c3 hs A4 p c4 ps w4 HW4.out HH4.out HP4.out HPM.out).mono ?_; rintro e w5 ⟨rfl, r2⟩; rw [← HE.out]; have HP5 := Lib.hid (HP4.out.kept stay_pl r2); have HW5 := Lib.hid (HW4.out.kept stay_wt r2); have HH5 := Lib.hid (HH4.out.kept stay_hd r2); have HB5 := Lib.hid (below_then HB4.out r2); have HC5 := Lib.hid (below_then HC4.out r2); clear r2)
        
        | (go_at_call 10; refine (awake_any w5).mono ?_; rintro e w8 ⟨rfl, r2⟩;  have HB8 := Lib.hid (below_then HB5.out r2); clear r2))
       go_ret
       exact ⟨rfl, HB8.out⟩
      | false =>
       have b2 : decide (bn > 1048576) = true := decide_eq_true (by have := of_decide_eq_false b1; omega)
       go_enter Tryz.func6, Tryz.ntmps6
       go_wp2_with (first
        | (go_at_call 9; refine (few_any A n c B m d P p q w).mono ?_; rintro e w1 ⟨rfl, hw⟩; rw [hw, f1]; clear hw w1)
        | (go_at_call 23; refine (limit_any bu w).mono ?_; rintro e w1 ⟨rfl, hw⟩; rw [hw, ← HBN.out]; clear hw w1)
        | (go_at_call 28; refine (assign_any A n c ws B m d hs P p q ps _ w H.out HH.out HP.out HPK.out).mono ?_; rintro e w1 ⟨A1, n1, c1, rfl, r1, r2⟩; rw [HO.out] at r1 ⊢; have hz := r1.1; cases hz; have HB1 := Lib.hid r2; have HC1 : Hid (Below w1.heap.size w1 w1) := Lib.hid (Below.refl _ _); clear r1 r2)
        | (go_at_call 13; refine (of_rwt A n c ws w1 (H.out.kept stay_wt HB1.out)).mono ?_; rintro e w2 ⟨A2, c2, rfl, r1, r2⟩; have HW2 := Lib.hid r1; have HB2 := Lib.hid (below_then HB1.out r2); have HC2 := Lib.hid (below_then HC1.out r2); clear r1 r2)
        | (go_at_call 14; refine (of_rhd B m d hs w2 (HH.out.kept stay_hd HB2.out)).mono ?_; rintro e w3 ⟨A3, c3, rfl, r1, r2⟩; have HH3 := Lib.hid r1; have HW3 := Lib.hid (HW2.out.kept stay_wt r2); have HB3 := Lib.hid (below_then HB2.out r2); have HC3 := Lib.hid (below_then HC2.out r2); clear r1 r2)
        | (go_at_call 15; (with_reducible show Calls _ _ #[.slice P p q] _ _); refine (of_rpl P p q ps w3 (HP.out.kept stay_pl HB3.out)).mono ?_; rintro e w4 ⟨A4, c4, rfl, r1, r2⟩; have HP4 := Lib.hid r1; have HW4 := Lib.hid (HW3.out.kept stay_wt r2); have HH4 := Lib.hid (HH3.out.kept stay_hd r2); have HB4 := Lib.hid (below_then HB3.out r2); have HC4 := Lib.hid (below_then HC3.out r2); clear r1 r2)
        | (go_at_call 12; refine (rcheck_any A2 n c2 ws A3 m c3 hs A4 p c4 ps w4 HW4.out HH4.out HP4.out HPM.out).mono ?_; rintro e w5 ⟨rfl, r2⟩; rw [← HE.out]; have HP5 := Lib.hid (HP4.out.kept stay_pl r2); have HW5 := Lib.hid (HW4.out.kept stay_wt r2); have HH5 := Lib.hid (HH4.out.kept stay_hd r2); have HB5 := Lib.hid (below_then HB4.out r2); have HC5 := Lib.hid (below_then HC4.out r2); clear r2)
        
        | (go_at_call 10; refine (awake_any w5).mono ?_; rintro e w8 ⟨rfl, r2⟩;  have HB8 := Lib.hid (below_then HB5.out r2); clear r2))
       go_ret
       exact ⟨rfl, HB8.out⟩
    ·
     have HO : Hid (assignV ws hs ps bn = ([], E)) := Lib.hid (by unfold assignV; rw [if_pos (by rw [← hE]; exact h0), ← hE])
     have f2 : (E != 0) = true := by simpa using h0
     have f3 : (E == E) = true := beq_self_eq_true E
     clear hE hbn h0
     go_enter Tryz.func6, Tryz.ntmps6
     go_wp2_with (first
      | (go_at_call 9; refine (few_any A n c B m d P p q w).mono ?_; rintro e w1 ⟨rfl, hw⟩; rw [hw, f1]; clear hw w1)
      | (go_at_call 23; refine (limit_any bu w).mono ?_; rintro e w1 ⟨rfl, hw⟩; rw [hw, ← HBN.out]; clear hw w1)
      | (go_at_call 28; refine (assign_any A n c ws B m d hs P p q ps _ w H.out HH.out HP.out HPK.out).mono ?_; rintro e w1 ⟨A1, n1, c1, rfl, r1, r2⟩; rw [HO.out] at r1 ⊢; have hz := r1.1; cases hz; have HB1 := Lib.hid r2; have HC1 : Hid (Below w1.heap.size w1 w1) := Lib.hid (Below.refl _ _); clear r1 r2)
      | (go_at_call 13; refine (of_rwt A n c ws w1 (H.out.kept stay_wt HB1.out)).mono ?_; rintro e w2 ⟨A2, c2, rfl, r1, r2⟩; have HW2 := Lib.hid r1; have HB2 := Lib.hid (below_then HB1.out r2); have HC2 := Lib.hid (below_then HC1.out r2); clear r1 r2)
      | (go_at_call 14; refine (of_rhd B m d hs w2 (HH.out.kept stay_hd HB2.out)).mono ?_; rintro e w3 ⟨A3, c3, rfl, r1, r2⟩; have HH3 := Lib.hid r1; have HW3 := Lib.hid (HW2.out.kept stay_wt r2); have HB3 := Lib.hid (below_then HB2.out r2); have HC3 := Lib.hid (below_then HC2.out r2); clear r1 r2)
      | (go_at_call 15; (with_reducible show Calls _ _ #[.slice P p q] _ _); refine (of_rpl P p q ps w3 (HP.out.kept stay_pl HB3.out)).mono ?_; rintro e w4 ⟨A4, c4, rfl, r1, r2⟩; have HP4 := Lib.hid r1; have HW4 := Lib.hid (HW3.out.kept stay_wt r2); have HH4 := Lib.hid (HH3.out.kept stay_hd r2); have HB4 := Lib.hid (below_then HB3.out r2); have HC4 := Lib.hid (below_then HC3.out r2); clear r1 r2)
      | (go_at_call 12; refine (rcheck_any A2 n c2 ws A3 m c3 hs A4 p c4 ps w4 HW4.out HH4.out HP4.out HPM.out).mono ?_; rintro e w5 ⟨rfl, r2⟩; rw [← HE.out]; have HP5 := Lib.hid (HP4.out.kept stay_pl r2); have HW5 := Lib.hid (HW4.out.kept stay_wt r2); have HH5 := Lib.hid (HH4.out.kept stay_hd r2); have HB5 := Lib.hid (below_then HB4.out r2); have HC5 := Lib.hid (below_then HC4.out r2); clear r2)
      
      | (go_at_call 10; refine (awake_any w5).mono ?_; rintro e w8 ⟨rfl, r2⟩;  have HB8 := Lib.hid (below_then HB5.out r2); clear r2))
     go_ret
     exact ⟨rfl, HB8.out⟩
  ·
   have x3 : decide ((m : Int) > 6) = true := decide_eq_true (by omega)
   have x4 : decide (m > 6) = true := decide_eq_true (by omega)
   by_cases a3 : m ≤ 12
   ·
    have x5 : decide ((m : Int) ≤ 12) = true := decide_eq_true (by omega)
    have x6 : decide (m ≤ 12) = true := decide_eq_true a3
    clear a2 a3
    go_enter Tryz.func6, Tryz.ntmps6
    go_wp2_with (first
     | (go_at_call 10; refine (awake_any w).mono ?_; rintro e w1 ⟨rfl, b1⟩; have HB1 := Lib.hid b1; clear b1))
    go_ret
    exact ⟨rfl, HB1.out⟩
   ·
    have x5 : decide ((m : Int) ≤ 12) = false := decide_eq_false (by omega)
    have x6 : decide (m ≤ 12) = false := decide_eq_false a3
    clear a2 a3
    cases f1 : fewB n m p with
    | false =>
     go_enter Tryz.func6, Tryz.ntmps6
     go_wp2_with (first
      | (go_at_call 9; refine (few_any A n c B m d P p q w).mono ?_; rintro e w1 ⟨rfl, hw⟩; rw [hw, f1]; clear hw w1)
      | (go_at_call 10; refine (awake_any w).mono ?_; rintro e w1 ⟨rfl, b1⟩; have HB1 := Lib.hid b1; clear b1))
     go_ret
     exact ⟨rfl, HB1.out⟩
    | true =>
     have HPL := Lib.hid (asg_few f1)
     have HPM : Hid (p ≤ 100000) := Lib.hid (by have := HPL.out.2.2; omega)
     have HPK : Hid (p ≤ 1000) := Lib.hid (by have := HPL.out.2.2; omega)
     obtain ⟨E, hE⟩ : ∃ E, E = checkE ws hs ps := ⟨_, rfl⟩
     have HE := Lib.hid hE
     obtain ⟨bn, hbn⟩ : ∃ b, b = limI bu := ⟨_, rfl⟩
     have HBN := Lib.hid hbn
     have g1 : ((0 : Int) != 0) = false := rfl
     have g2 : ((0 : Int) == 0) = true := rfl
     have g3 : ((1 : Int) == 1) = true := rfl
     by_cases h0 : E = 0
     ·
      have hok := check_ok.1 (hE.symm.trans h0)
      by_cases hb : 1 ≤ bn ∧ bn ≤ 1048576
      ·
       have b1 : decide (bn < 1) = false := decide_eq_false (by omega)
       have b2 : decide (bn > 1048576) = false := decide_eq_false (by omega)
       have hbb : budB bn = true := by unfold budB; rw [decide_eq_true hb.1, decide_eq_true hb.2]; rfl
       obtain ⟨XV, hXV⟩ : ∃ z, z = assignR ws hs ps bn.toNat := ⟨_, rfl⟩
       have HAR := Lib.hid hXV
       have HO : Hid (assignV ws hs ps bn = XV) := Lib.hid (by
        unfold assignV
        rw [if_neg (by rw [← hE, h0]; exact fun h => h rfl), if_neg (by rw [hbb]; decide), ← assign_sim hok, hXV])
       obtain ⟨XL, XE⟩ := XV
       obtain ⟨bk, hbk⟩ : ∃ k : Nat, bn = (k : Int) := ⟨bn.toNat, by omega⟩
       have HWS := Lib.hid hok.w
       have HM12 : Hid (m ≤ 12) := Lib.hid (by rw [← HLM.out]; exact holders_12 hok.h)
       have HBK : Hid ((bk : Int) ≤ 1048576) := Lib.hid (by omega)
       have g4 : (XE == XE) = true := beq_self_eq_true XE
       rw [hbk, Int.toNat_natCast] at HAR
       have HAQ := Lib.hid HAR.out.symm
       clear hXV hE hbn hok hb hbb HAR
       subst hbk h0
       go_enter Tryz.func6, Tryz.ntmps6
       go_wp2_with (first
        | (go_at_call 9; refine (few_any A n c B m d P p q w).mono ?_; rintro e w1 ⟨rfl, hw⟩; rw [hw, f1]; clear hw w1)
        | (go_at_call 23; refine (limit_any bu w).mono ?_; rintro e w1 ⟨rfl, hw⟩; rw [hw, ← HBN.out]; clear hw w1)
        | (go_at_call 28; refine (assign_any A n c ws B m d hs P p q ps _ w H.out HH.out HP.out HPK.out).mono ?_; rintro e w1 ⟨A1, n1, c1, rfl, r1, r2⟩; rw [HO.out] at r1 ⊢; have HQ1 := Lib.hid r1; have HB1 := Lib.hid r2; have HC1 : Hid (Below w1.heap.size w1 w1) := Lib.hid (Below.refl _ _); clear r1 r2)
        | (go_at_call 13; refine (of_rwt A n c ws w1 (H.out.kept stay_wt HB1.out)).mono ?_; rintro e w2 ⟨A2, c2, rfl, r1, r2⟩; have HW2 := Lib.hid r1; have HB2 := Lib.hid (below_then HB1.out r2); have HC2 := Lib.hid (below_then HC1.out r2); clear r1 r2)
        | (go_at_call 14; refine (of_rhd B m d hs w2 (HH.out.kept stay_hd HB2.out)).mono ?_; rintro e w3 ⟨A3, c3, rfl, r1, r2⟩; have HH3 := Lib.hid r1; have HW3 := Lib.hid (HW2.out.kept stay_wt r2); have HB3 := Lib.hid (below_then HB2.out r2); have HC3 := Lib.hid (below_then HC2.out r2); clear r1 r2)
        | (go_at_call 15; (with_reducible show Calls _ _ #[.slice P p q] _ _); refine (of_rpl P p q ps w3 (HP.out.kept stay_pl HB3.out)).mono ?_; rintro e w4 ⟨A4, c4, rfl, r1, r2⟩; have HP4 := Lib.hid r1; have HW4 := Lib.hid (HW3.out.kept stay_wt r2); have HH4 := Lib.hid (HH3.out.kept stay_hd r2); have HB4 := Lib.hid (below_then HB3.out r2); have HC4 := Lib.hid (below_then HC3.out r2); clear r1 r2)
        | (go_at_call 12; refine (rcheck_any A2 n c2 ws A3 m c3 hs A4 p c4 ps w4 HW4.out HH4.out HP4.out HPM.out).mono ?_; rintro e w5 ⟨rfl, r2⟩; rw [← HE.out]; have HP5 := Lib.hid (HP4.out.kept stay_pl r2); have HW5 := Lib.hid (HW4.out.kept stay_wt r2); have HH5 := Lib.hid (HH4.out.kept stay_hd r2); have HB5 := Lib.hid (below_then HB4.out r2); have HC5 := Lib.hid (below_then HC4.out r2); clear r2)
        | (go_at_call 29; refine (rassign_any A2 n c2 ws A3 m c3 hs A4 p c4 ps bk w5 HW5.out HH5.out HP5.out HWS.out HM12.out (by have := HPL.out.2.2; omega) HBK.out).mono ?_; rintro e w6 ⟨A6, n6, c6, rfl, r1, r2⟩; rw [HAQ.out] at r1 ⊢; have HR6 := Lib.hid r1; have HB6 := Lib.hid (below_then HB5.out r2); have HC6 := Lib.hid (below_then HC5.out r2); clear r1 r2) | (go_at_call 15; (with_reducible show Calls _ _ #[.slice A1 n1 c1] _ _); refine (of_rpl A1 n1 c1 XL w8 HQ8.out).mono ?_; rintro e w9 ⟨A9, c9, rfl, r1, r2⟩; have HQ9 := Lib.hid r1; have HR9 := Lib.hid (HR8.out.kept stay_pl r2); have HB9 := Lib.hid (below_then HB8.out r2); clear r1 r2) | (go_at_call 21; refine (rsame_any _ _ _ XL _ _ _ XL w9 HQ9.out HR9.out).mono ?_; rintro e wb ⟨rfl, r2⟩; rw [decide_eq_true (rfl : XL = XL)]; have HBb := Lib.hid (below_then HB9.out r2); clear r2)
        | (go_at_call 10; refine (awake_any w6).mono ?_; rintro e w8 ⟨rfl, r2⟩; have HR8 := Lib.hid (HR6.out.kept stay_pl r2); have HQ8 := Lib.hid ((HQ1.out.kept stay_pl HC6.out).kept stay_pl r2); have HB8 := Lib.hid (below_then HB6.out r2); clear r2))
       go_ret
       exact ⟨rfl, HBb.out⟩
      ·
       have HO : Hid (assignV ws hs ps bn = ([], 1)) := Lib.hid (by
        unfold assignV
        rw [if_neg (by rw [← hE, h0]; exact fun h => h rfl), if_pos (by unfold budB; rw [Bool.and_eq_false_iff, decide_eq_false_iff_not, decide_eq_false_iff_not]; omega)])
       clear hE hbn hok
       subst h0
       cases b1 : decide (bn < 1) with
       | true =>
        go_enter Tryz.func6, Tryz.ntmps6
        go_wp2_with (first
         | (go_at_call 9; refine (few_any A n c B m d P p q w).mono ?_; rintro e w1 ⟨rfl, hw⟩; rw [hw, f1]; clear hw w1)
         | (go_at_call 23; refine (limit_any bu w).mono ?_; rintro e w1 ⟨rfl, hw⟩; rw [hw, ← HBN.out]; clear hw w1)
         | (go_at_call 28; refine (assign_any A n c ws B m d hs P p q ps _ w H.out HH.out HP.out HPK.out).mono ?_; rintro e w1 ⟨A1, n1, c1, rfl, r1, r2⟩; rw [HO.out] at r1 ⊢; have hz := r1.1; cases hz; have HB1 := Lib.hid r2; have HC1 : Hid (Below w1.heap.size w1 w1) := Lib.hid (Below.refl _ _); clear r1 r2)
         | (go_at_call 13; refine (of_rwt A n c ws w1 (H.out.kept stay_wt HB1.out)).mono ?_; rintro e w2 ⟨A2, c2, rfl, r1, r2⟩; have HW2 := Lib.hid r1; have HB2 := Lib.hid (below_then HB1.out r2); have HC2 := Lib.hid (below_then HC1.out r2); clear r1 r2)
         | (go_at_call 14; refine (of_rhd B m d hs w2 (HH.out.kept stay_hd HB2.out)).mono ?_; rintro e w3 ⟨A3, c3, rfl, r1, r2⟩; have HH3 := Lib.hid r1; have HW3 := Lib.hid (HW2.out.kept stay_wt r2); have HB3 := Lib.hid (below_then HB2.out r2); have HC3 := Lib.hid (below_then HC2.out r2); clear r1 r2)
         | (go_at_call 15; (with_reducible show Calls _ _ #[.slice P p q] _ _); refine (of_rpl P p q ps w3 (HP.out.kept stay_pl HB3.out)).mono ?_; rintro e w4 ⟨A4, c4, rfl, r1, r2⟩; have HP4 := Lib.hid r1; have HW4 := Lib.hid (HW3.out.kept stay_wt r2); have HH4 := Lib.hid (HH3.out.kept stay_hd r2); have HB4 := Lib.hid (below_then HB3.out r2); have HC4 := Lib.hid (below_then HC3.out r2); clear r1 r2)
         | (go_at_call 12; refine (rcheck_any A2 n c2 ws A3 m c3 hs A4 p c4 ps w4 HW4.out HH4.out HP4.out HPM.out).mono ?_; rintro e w5 ⟨rfl, r2⟩; rw [← HE.out]; have HP5 := Lib.hid (HP4.out.kept stay_pl r2); have HW5 := Lib.hid (HW4.out.kept stay_wt r2); have HH5 := Lib.hid (HH4.out.kept stay_hd r2); have HB5 := Lib.hid (below_then HB4.out r2); have HC5 := Lib.hid (below_then HC4.out r2); clear r2)
         
         | (go_at_call 10; refine (awake_any w5).mono ?_; rintro e w8 ⟨rfl, r2⟩;  have HB8 := Lib.hid (below_then HB5.out r2); clear r2))
        go_ret
        exact ⟨rfl, HB8.out⟩
       | false =>
        have b2 : decide (bn > 1048576) = true := decide_eq_true (by have := of_decide_eq_false b1; omega)
        go_enter Tryz.func6, Tryz.ntmps6
        go_wp2_with (first
         | (go_at_call 9; refine (few_any A n c B m d P p q w).mono ?_; rintro e w1 ⟨rfl, hw⟩; rw [hw, f1]; clear hw w1)
         | (go_at_call 23; refine (limit_any bu w).mono ?_; rintro e w1 ⟨rfl, hw⟩; rw [hw, ← HBN.out]; clear hw w1)
         | (go_at_call 28; refine (assign_any A n c ws B m d hs P p q ps _ w H.out HH.out HP.out HPK.out).mono ?_; rintro e w1 ⟨A1, n1, c1, rfl, r1, r2⟩; rw [HO.out] at r1 ⊢; have hz := r1.1; cases hz; have HB1 := Lib.hid r2; have HC1 : Hid (Below w1.heap.size w1 w1) := Lib.hid (Below.refl _ _); clear r1 r2)
         | (go_at_call 13; refine (of_rwt A n c ws w1 (H.out.kept stay_wt HB1.out)).mono ?_; rintro e w2 ⟨A2, c2, rfl, r1, r2⟩; have HW2 := Lib.hid r1; have HB2 := Lib.hid (below_then HB1.out r2); have HC2 := Lib.hid (below_then HC1.out r2); clear r1 r2)
         | (go_at_call 14; refine (of_rhd B m d hs w2 (HH.out.kept stay_hd HB2.out)).mono ?_; rintro e w3 ⟨A3, c3, rfl, r1, r2⟩; have HH3 := Lib.hid r1; have HW3 := Lib.hid (HW2.out.kept stay_wt r2); have HB3 := Lib.hid (below_then HB2.out r2); have HC3 := Lib.hid (below_then HC2.out r2); clear r1 r2)
         | (go_at_call 15; (with_reducible show Calls _ _ #[.slice P p q] _ _); refine (of_rpl P p q ps w3 (HP.out.kept stay_pl HB3.out)).mono ?_; rintro e w4 ⟨A4, c4, rfl, r1, r2⟩; have HP4 := Lib.hid r1; have HW4 := Lib.hid (HW3.out.kept stay_wt r2); have HH4 := Lib.hid (HH3.out.kept stay_hd r2); have HB4 := Lib.hid (below_then HB3.out r2); have HC4 := Lib.hid (below_then HC3.out r2); clear r1 r2)
         | (go_at_call 12; refine (rcheck_any A2 n c2 ws A3 m c3 hs A4 p c4 ps w4 HW4.out HH4.out HP4.out HPM.out).mono ?_; rintro e w5 ⟨rfl, r2⟩; rw [← HE.out]; have HP5 := Lib.hid (HP4.out.kept stay_pl r2); have HW5 := Lib.hid (HW4.out.kept stay_wt r2); have HH5 := Lib.hid (HH4.out.kept stay_hd r2); have HB5 := Lib.hid (below_then HB4.out r2); have HC5 := Lib.hid (below_then HC4.out r2); clear r2)
         
         | (go_at_call 10; refine (awake_any w5).mono ?_; rintro e w8 ⟨rfl, r2⟩;  have HB8 := Lib.hid (below_then HB5.out r2); clear r2))
        go_ret
        exact ⟨rfl, HB8.out⟩
     ·
      have HO : Hid (assignV ws hs ps bn = ([], E)) := Lib.hid (by unfold assignV; rw [if_pos (by rw [← hE]; exact h0), ← hE])
      have f2 : (E != 0) = true := by simpa using h0
      have f3 : (E == E) = true := beq_self_eq_true E
      clear hE hbn h0
      go_enter Tryz.func6, Tryz.ntmps6
      go_wp2_with (first
       | (go_at_call 9; refine (few_any A n c B m d P p q w).mono ?_; rintro e w1 ⟨rfl, hw⟩; rw [hw, f1]; clear hw w1)
       | (go_at_call 23; refine (limit_any bu w).mono ?_; rintro e w1 ⟨rfl, hw⟩; rw [hw, ← HBN.out]; clear hw w1)
       | (go_at_call 28; refine (assign_any A n c ws B m d hs P p q ps _ w H.out HH.out HP.out HPK.out).mono ?_; rintro e w1 ⟨A1, n1, c1, rfl, r1, r2⟩; rw [HO.out] at r1 ⊢; have hz := r1.1; cases hz; have HB1 := Lib.hid r2; have HC1 : Hid (Below w1.heap.size w1 w1) := Lib.hid (Below.refl _ _); clear r1 r2)
       | (go_at_call 13; refine (of_rwt A n c ws w1 (H.out.kept stay_wt HB1.out)).mono ?_; rintro e w2 ⟨A2, c2, rfl, r1, r2⟩; have HW2 := Lib.hid r1; have HB2 := Lib.hid (below_then HB1.out r2); have HC2 := Lib.hid (below_then HC1.out r2); clear r1 r2)
       | (go_at_call 14; refine (of_rhd B m d hs w2 (HH.out.kept stay_hd HB2.out)).mono ?_; rintro e w3 ⟨A3, c3, rfl, r1, r2⟩; have HH3 := Lib.hid r1; have HW3 := Lib.hid (HW2.out.kept stay_wt r2); have HB3 := Lib.hid (below_then HB2.out r2); have HC3 := Lib.hid (below_then HC2.out r2); clear r1 r2)
       | (go_at_call 15; (with_reducible show Calls _ _ #[.slice P p q] _ _); refine (of_rpl P p q ps w3 (HP.out.kept stay_pl HB3.out)).mono ?_; rintro e w4 ⟨A4, c4, rfl, r1, r2⟩; have HP4 := Lib.hid r1; have HW4 := Lib.hid (HW3.out.kept stay_wt r2); have HH4 := Lib.hid (HH3.out.kept stay_hd r2); have HB4 := Lib.hid (below_then HB3.out r2); have HC4 := Lib.hid (below_then HC3.out r2); clear r1 r2)
       | (go_at_call 12; refine (rcheck_any A2 n c2 ws A3 m c3 hs A4 p c4 ps w4 HW4.out HH4.out HP4.out HPM.out).mono ?_; rintro e w5 ⟨rfl, r2⟩; rw [← HE.out]; have HP5 := Lib.hid (HP4.out.kept stay_pl r2); have HW5 := Lib.hid (HW4.out.kept stay_wt r2); have HH5 := Lib.hid (HH4.out.kept stay_hd r2); have HB5 := Lib.hid (below_then HB4.out r2); have HC5 := Lib.hid (below_then HC4.out r2); clear r2)
       
       | (go_at_call 10; refine (awake_any w5).mono ?_; rintro e w8 ⟨rfl, r2⟩;  have HB8 := Lib.hid (below_then HB5.out r2); clear r2))
      go_ret
      exact ⟨rfl, HB8.out⟩
 ·
  have x1 : decide ((n : Int) > 4) = true := decide_eq_true (by omega)
  have x2 : decide (n > 4) = true := decide_eq_true (by omega)
  by_cases a4 : n ≤ 8
  ·
   have x7 : decide ((n : Int) ≤ 8) = true := decide_eq_true (by omega)
   have x8 : decide (n ≤ 8) = true := decide_eq_true a4
   clear a1 a4
   go_enter Tryz.func6, Tryz.ntmps6
   go_wp2_with (first
    | (go_at_call 10; refine (awake_any w).mono ?_; rintro e w1 ⟨rfl, b1⟩; have HB1 := Lib.hid b1; clear b1))
   go_ret
   exact ⟨rfl, HB1.out⟩
  ·
   have x7 : decide ((n : Int) ≤ 8) = false := decide_eq_false (by omega)
   have x8 : decide (n ≤ 8) = false := decide_eq_false a4
   clear a1 a4
   by_cases a2 : m ≤ 6
   ·
    have x3 : decide ((m : Int) > 6) = false := decide_eq_false (by omega)
    have x4 : decide (m > 6) = false := decide_eq_false (by omega)
    clear a2
    cases f1 : fewB n m p with
    | false =>
     go_enter Tryz.func6, Tryz.ntmps6
     go_wp2_with (first
      | (go_at_call 9; refine (few_any A n c B m d P p q w).mono ?_; rintro e w1 ⟨rfl, hw⟩; rw [hw, f1]; clear hw w1)
      | (go_at_call 10; refine (awake_any w).mono ?_; rintro e w1 ⟨rfl, b1⟩; have HB1 := Lib.hid b1; clear b1))
     go_ret
     exact ⟨rfl, HB1.out⟩
    | true =>
     have HPL := Lib.hid (asg_few f1)
     have HPM : Hid (p ≤ 100000) := Lib.hid (by have := HPL.out.2.2; omega)
     have HPK : Hid (p ≤ 1000) := Lib.hid (by have := HPL.out.2.2; omega)
     obtain ⟨E, hE⟩ : ∃ E, E = checkE ws hs ps := ⟨_, rfl⟩
     have HE := Lib.hid hE
     obtain ⟨bn, hbn⟩ : ∃ b, b = limI bu := ⟨_, rfl⟩
     have HBN := Lib.hid hbn
     have g1 : ((0 : Int) != 0) = false := rfl
     have g2 : ((0 : Int) == 0) = true := rfl
     have g3 : ((1 : Int) == 1) = true := rfl
     by_cases h0 : E = 0
     ·
      have hok := check_ok.1 (hE.symm.trans h0)
      by_cases hb : 1 ≤ bn ∧ bn ≤ 1048576
      ·
       have b1 : decide (bn < 1) = false := decide_eq_false (by omega)
       have b2 : decide (bn > 1048576) = false := decide_eq_false (by omega)
       have hbb : budB bn = true := by unfold budB; rw [decide_eq_true hb.1, decide_eq_true hb.2]; rfl
       obtain ⟨XV, hXV⟩ : ∃ z, z = assignR ws hs ps bn.toNat := ⟨_, rfl⟩
       have HAR := Lib.hid hXV
       have HO : Hid (assignV ws hs ps bn = XV) := Lib.hid (by
        unfold assignV
        rw [if_neg (by rw [← hE, h0]; exact fun h => h rfl), if_neg (by rw [hbb]; decide), ← assign_sim hok, hXV])
       obtain ⟨XL, XE⟩ := XV
       obtain ⟨bk, hbk⟩ : ∃ k : Nat, bn = (k : Int) := ⟨bn.toNat, by omega⟩
       have HWS := Lib.hid hok.w
       have HM12 : Hid (m ≤ 12) := Lib.hid (by rw [← HLM.out]; exact holders_12 hok.h)
       have HBK : Hid ((bk : Int) ≤ 1048576) := Lib.hid (by omega)
       have g4 : (XE == XE) = true := beq_self_eq_true XE
       rw [hbk, Int.toNat_natCast] at HAR
       have HAQ := Lib.hid HAR.out.symm
       clear hXV hE hbn hok hb hbb HAR
       subst hbk h0
       go_enter Tryz.func6, Tryz.ntmps6
       go_wp2_with (first
        | (go_at_call 9; refine (few_any A n c B m d P p q w).mono ?_; rintro e w1 ⟨rfl, hw⟩; rw [hw, f1]; clear hw w1)
        | (go_at_call 23; refine (limit_any bu w).mono ?_; rintro e w1 ⟨rfl, hw⟩; rw [hw, ← HBN.out]; clear hw w1)
        | (go_at_call 28; refine (assign_any A n c ws B m d hs P p q ps _ w H.out HH.out HP.out HPK.out).mono ?_; rintro e w1 ⟨A1, n1, c1, rfl, r1, r2⟩; rw [HO.out] at r1 ⊢; have HQ1 := Lib.hid r1; have HB1 := Lib.hid r2; have HC1 : Hid (Below w1.heap.size w1 w1) := Lib.hid (Below.refl _ _); clear r1 r2)
        | (go_at_call 13; refine (of_rwt A n c ws w1 (H.out.kept stay_wt HB1.out)).mono ?_; rintro e w2 ⟨A2, c2, rfl, r1, r2⟩; have HW2 := Lib.hid r1; have HB2 := Lib.hid (below_then HB1.out r2); have HC2 := Lib.hid (below_then HC1.out r2); clear r1 r2)
        | (go_at_call 14; refine (of_rhd B m d hs w2 (HH.out.kept stay_hd HB2.out)).mono ?_; rintro e w3 ⟨A3, c3, rfl, r1, r2⟩; have HH3 := Lib.hid r1; have HW3 := Lib.hid (HW2.out.kept stay_wt r2); have HB3 := Lib.hid (below_then HB2.out r2); have HC3 := Lib.hid (below_then HC2.out r2); clear r1 r2)
        | (go_at_call 15; (with_reducible show Calls _ _ #[.slice P p q] _ _); refine (of_rpl P p q ps w3 (HP.out.kept stay_pl HB3.out)).mono ?_; rintro e w4 ⟨A4, c4, rfl, r1, r2⟩; have HP4 := Lib.hid r1; have HW4 := Lib.hid (HW3.out.kept stay_wt r2); have HH4 := Lib.hid (HH3.out.kept stay_hd r2); have HB4 := Lib.hid (below_then HB3.out r2); have HC4 := Lib.hid (below_then HC3.out r2); clear r1 r2)
        | (go_at_call 12; refine (rcheck_any A2 n c2 ws A3 m c3 hs A4 p c4 ps w4 HW4.out HH4.out HP4.out HPM.out).mono ?_; rintro e w5 ⟨rfl, r2⟩; rw [← HE.out]; have HP5 := Lib.hid (HP4.out.kept stay_pl r2); have HW5 := Lib.hid (HW4.out.kept stay_wt r2); have HH5 := Lib.hid (HH4.out.kept stay_hd r2); have HB5 := Lib.hid (below_then HB4.out r2); have HC5 := Lib.hid (below_then HC4.out r2); clear r2)
        | (go_at_call 29; refine (rassign_any A2 n c2 ws A3 m c3 hs A4 p c4 ps bk w5 HW5.out HH5.out HP5.out HWS.out HM12.out (by have := HPL.out.2.2; omega) HBK.out).mono ?_; rintro e w6 ⟨A6, n6, c6, rfl, r1, r2⟩; rw [HAQ.out] at r1 ⊢; have HR6 := Lib.hid r1; have HB6 := Lib.hid (below_then HB5.out r2); have HC6 := Lib.hid (below_then HC5.out r2); clear r1 r2) | (go_at_call 15; (with_reducible show Calls _ _ #[.slice A1 n1 c1] _ _); refine (of_rpl A1 n1 c1 XL w8 HQ8.out).mono ?_; rintro e w9 ⟨A9, c9, rfl, r1, r2⟩; have HQ9 := Lib.hid r1; have HR9 := Lib.hid (HR8.out.kept stay_pl r2); have HB9 := Lib.hid (below_then HB8.out r2); clear r1 r2) | (go_at_call 21; refine (rsame_any _ _ _ XL _ _ _ XL w9 HQ9.out HR9.out).mono ?_; rintro e wb ⟨rfl, r2⟩; rw [decide_eq_true (rfl : XL = XL)]; have HBb := Lib.hid (below_then HB9.out r2); clear r2)
        | (go_at_call 10; refine (awake_any w6).mono ?_; rintro e w8 ⟨rfl, r2⟩; have HR8 := Lib.hid (HR6.out.kept stay_pl r2); have HQ8 := Lib.hid ((HQ1.out.kept stay_pl HC6.out).kept stay_pl r2); have HB8 := Lib.hid (below_then HB6.out r2); clear r2))
       go_ret
       exact ⟨rfl, HBb.out⟩
      ·
       have HO : Hid (assignV ws hs ps bn = ([], 1)) := Lib.hid (by
        unfold assignV
        rw [if_neg (by rw [← hE, h0]; exact fun h => h rfl), if_pos (by unfold budB; rw [Bool.and_eq_false_iff, decide_eq_false_iff_not, decide_eq_false_iff_not]; omega)])
       clear hE hbn hok
       subst h0
       cases b1 : decide (bn < 1) with
       | true =>
        go_enter Tryz.func6, Tryz.ntmps6
        go_wp2_with (first
         | (go_at_call 9; refine (few_any A n c B m d P p q w).mono ?_; rintro e w1 ⟨rfl, hw⟩; rw [hw, f1]; clear hw w1)
         | (go_at_call 23; refine (limit_any bu w).mono ?_; rintro e w1 ⟨rfl, hw⟩; rw [hw, ← HBN.out]; clear hw w1)
         | (go_at_call 28; refine (assign_any A n c ws B m d hs P p q ps _ w H.out HH.out HP.out HPK.out).mono ?_; rintro e w1 ⟨A1, n1, c1, rfl, r1, r2⟩; rw [HO.out] at r1 ⊢; have hz := r1.1; cases hz; have HB1 := Lib.hid r2; have HC1 : Hid (Below w1.heap.size w1 w1) := Lib.hid (Below.refl _ _); clear r1 r2)
         | (go_at_call 13; refine (of_rwt A n c ws w1 (H.out.kept stay_wt HB1.out)).mono ?_; rintro e w2 ⟨A2, c2, rfl, r1, r2⟩; have HW2 := Lib.hid r1; have HB2 := Lib.hid (below_then HB1.out r2); have HC2 := Lib.hid (below_then HC1.out r2); clear r1 r2)
         | (go_at_call 14; refine (of_rhd B m d hs w2 (HH.out.kept stay_hd HB2.out)).mono ?_; rintro e w3 ⟨A3, c3, rfl, r1, r2⟩; have HH3 := Lib.hid r1; have HW3 := Lib.hid (HW2.out.kept stay_wt r2); have HB3 := Lib.hid (below_then HB2.out r2); have HC3 := Lib.hid (below_then HC2.out r2); clear r1 r2)
         | (go_at_call 15; (with_reducible show Calls _ _ #[.slice P p q] _ _); refine (of_rpl P p q ps w3 (HP.out.kept stay_pl HB3.out)).mono ?_; rintro e w4 ⟨A4, c4, rfl, r1, r2⟩; have HP4 := Lib.hid r1; have HW4 := Lib.hid (HW3.out.kept stay_wt r2); have HH4 := Lib.hid (HH3.out.kept stay_hd r2); have HB4 := Lib.hid (below_then HB3.out r2); have HC4 := Lib.hid (below_then HC3.out r2); clear r1 r2)
         | (go_at_call 12; refine (rcheck_any A2 n c2 ws A3 m c3 hs A4 p c4 ps w4 HW4.out HH4.out HP4.out HPM.out).mono ?_; rintro e w5 ⟨rfl, r2⟩; rw [← HE.out]; have HP5 := Lib.hid (HP4.out.kept stay_pl r2); have HW5 := Lib.hid (HW4.out.kept stay_wt r2); have HH5 := Lib.hid (HH4.out.kept stay_hd r2); have HB5 := Lib.hid (below_then HB4.out r2); have HC5 := Lib.hid (below_then HC4.out r2); clear r2)
         
         | (go_at_call 10; refine (awake_any w5).mono ?_; rintro e w8 ⟨rfl, r2⟩;  have HB8 := Lib.hid (below_then HB5.out r2); clear r2))
        go_ret
        exact ⟨rfl, HB8.out⟩
       | false =>
        have b2 : decide (bn > 1048576) = true := decide_eq_true (by have := of_decide_eq_false b1; omega)
        go_enter Tryz.func6, Tryz.ntmps6
        go_wp2_with (first
         | (go_at_call 9; refine (few_any A n c B m d P p q w).mono ?_; rintro e w1 ⟨rfl, hw⟩; rw [hw, f1]; clear hw w1)
         | (go_at_call 23; refine (limit_any bu w).mono ?_; rintro e w1 ⟨rfl, hw⟩; rw [hw, ← HBN.out]; clear hw w1)
         | (go_at_call 28; refine (assign_any A n c ws B m d hs P p q ps _ w H.out HH.out HP.out HPK.out).mono ?_; rintro e w1 ⟨A1, n1, c1, rfl, r1, r2⟩; rw [HO.out] at r1 ⊢; have hz := r1.1; cases hz; have HB1 := Lib.hid r2; have HC1 : Hid (Below w1.heap.size w1 w1) := Lib.hid (Below.refl _ _); clear r1 r2)
         | (go_at_call 13; refine (of_rwt A n c ws w1 (H.out.kept stay_wt HB1.out)).mono ?_; rintro e w2 ⟨A2, c2, rfl, r1, r2⟩; have HW2 := Lib.hid r1; have HB2 := Lib.hid (below_then HB1.out r2); have HC2 := Lib.hid (below_then HC1.out r2); clear r1 r2)
         | (go_at_call 14; refine (of_rhd B m d hs w2 (HH.out.kept stay_hd HB2.out)).mono ?_; rintro e w3 ⟨A3, c3, rfl, r1, r2⟩; have HH3 := Lib.hid r1; have HW3 := Lib.hid (HW2.out.kept stay_wt r2); have HB3 := Lib.hid (below_then HB2.out r2); have HC3 := Lib.hid (below_then HC2.out r2); clear r1 r2)
         | (go_at_call 15; (with_reducible show Calls _ _ #[.slice P p q] _ _); refine (of_rpl P p q ps w3 (HP.out.kept stay_pl HB3.out)).mono ?_; rintro e w4 ⟨A4, c4, rfl, r1, r2⟩; have HP4 := Lib.hid r1; have HW4 := Lib.hid (HW3.out.kept stay_wt r2); have HH4 := Lib.hid (HH3.out.kept stay_hd r2); have HB4 := Lib.hid (below_then HB3.out r2); have HC4 := Lib.hid (below_then HC3.out r2); clear r1 r2)
         | (go_at_call 12; refine (rcheck_any A2 n c2 ws A3 m c3 hs A4 p c4 ps w4 HW4.out HH4.out HP4.out HPM.out).mono ?_; rintro e w5 ⟨rfl, r2⟩; rw [← HE.out]; have HP5 := Lib.hid (HP4.out.kept stay_pl r2); have HW5 := Lib.hid (HW4.out.kept stay_wt r2); have HH5 := Lib.hid (HH4.out.kept stay_hd r2); have HB5 := Lib.hid (below_then HB4.out r2); have HC5 := Lib.hid (below_then HC4.out r2); clear r2)
         
         | (go_at_call 10; refine (awake_any w5).mono ?_; rintro e w8 ⟨rfl, r2⟩;  have HB8 := Lib.hid (below_then HB5.out r2); clear r2))
        go_ret
        exact ⟨rfl, HB8.out⟩
     ·
      have HO : Hid (assignV ws hs ps bn = ([], E)) := Lib.hid (by unfold assignV; rw [if_pos (by rw [← hE]; exact h0), ← hE])
      have f2 : (E != 0) = true := by simpa using h0
      have f3 : (E == E) = true := beq_self_eq_true E
      clear hE hbn h0
      go_enter Tryz.func6, Tryz.ntmps6
      go_wp2_with (first
       | (go_at_call 9; refine (few_any A n c B m d P p q w).mono ?_; rintro e w1 ⟨rfl, hw⟩; rw [hw, f1]; clear hw w1)
       | (go_at_call 23; refine (limit_any bu w).mono ?_; rintro e w1 ⟨rfl, hw⟩; rw [hw, ← HBN.out]; clear hw w1)
       | (go_at_call 28; refine (assign_any A n c ws B m d hs P p q ps _ w H.out HH.out HP.out HPK.out).mono ?_; rintro e w1 ⟨A1, n1, c1, rfl, r1, r2⟩; rw [HO.out] at r1 ⊢; have hz := r1.1; cases hz; have HB1 := Lib.hid r2; have HC1 : Hid (Below w1.heap.size w1 w1) := Lib.hid (Below.refl _ _); clear r1 r2)
       | (go_at_call 13; refine (of_rwt A n c ws w1 (H.out.kept stay_wt HB1.out)).mono ?_; rintro e w2 ⟨A2, c2, rfl, r1, r2⟩; have HW2 := Lib.hid r1; have HB2 := Lib.hid (below_then HB1.out r2); have HC2 := Lib.hid (below_then HC1.out r2); clear r1 r2)
       | (go_at_call 14; refine (of_rhd B m d hs w2 (HH.out.kept stay_hd HB2.out)).mono ?_; rintro e w3 ⟨A3, c3, rfl, r1, r2⟩; have HH3 := Lib.hid r1; have HW3 := Lib.hid (HW2.out.kept stay_wt r2); have HB3 := Lib.hid (below_then HB2.out r2); have HC3 := Lib.hid (below_then HC2.out r2); clear r1 r2)
       | (go_at_call 15; (with_reducible show Calls _ _ #[.slice P p q] _ _); refine (of_rpl P p q ps w3 (HP.out.kept stay_pl HB3.out)).mono ?_; rintro e w4 ⟨A4, c4, rfl, r1, r2⟩; have HP4 := Lib.hid r1; have HW4 := Lib.hid (HW3.out.kept stay_wt r2); have HH4 := Lib.hid (HH3.out.kept stay_hd r2); have HB4 := Lib.hid (below_then HB3.out r2); have HC4 := Lib.hid (below_then HC3.out r2); clear r1 r2)
       | (go_at_call 12; refine (rcheck_any A2 n c2 ws A3 m c3 hs A4 p c4 ps w4 HW4.out HH4.out HP4.out HPM.out).mono ?_; rintro e w5 ⟨rfl, r2⟩; rw [← HE.out]; have HP5 := Lib.hid (HP4.out.kept stay_pl r2); have HW5 := Lib.hid (HW4.out.kept stay_wt r2); have HH5 := Lib.hid (HH4.out.kept stay_hd r2); have HB5 := Lib.hid (below_then HB4.out r2); have HC5 := Lib.hid (below_then HC4.out r2); clear r2)
       
       | (go_at_call 10; refine (awake_any w5).mono ?_; rintro e w8 ⟨rfl, r2⟩;  have HB8 := Lib.hid (below_then HB5.out r2); clear r2))
      go_ret
      exact ⟨rfl, HB8.out⟩
   ·
    have x3 : decide ((m : Int) > 6) = true := decide_eq_true (by omega)
    have x4 : decide (m > 6) = true := decide_eq_true (by omega)
    by_cases a3 : m ≤ 12
    ·
     have x5 : decide ((m : Int) ≤ 12) = true := decide_eq_true (by omega)
     have x6 : decide (m ≤ 12) = true := decide_eq_true a3
     clear a2 a3
     go_enter Tryz.func6, Tryz.ntmps6
     go_wp2_with (first
      | (go_at_call 10; refine (awake_any w).mono ?_; rintro e w1 ⟨rfl, b1⟩; have HB1 := Lib.hid b1; clear b1))
     go_ret
     exact ⟨rfl, HB1.out⟩
    ·
     have x5 : decide ((m : Int) ≤ 12) = false := decide_eq_false (by omega)
     have x6 : decide (m ≤ 12) = false := decide_eq_false a3
     clear a2 a3
     cases f1 : fewB n m p with
     | false =>
      go_enter Tryz.func6, Tryz.ntmps6
      go_wp2_with (first
       | (go_at_call 9; refine (few_any A n c B m d P p q w).mono ?_; rintro e w1 ⟨rfl, hw⟩; rw [hw, f1]; clear hw w1)
       | (go_at_call 10; refine (awake_any w).mono ?_; rintro e w1 ⟨rfl, b1⟩; have HB1 := Lib.hid b1; clear b1))
      go_ret
      exact ⟨rfl, HB1.out⟩
     | true =>
      have HPL := Lib.hid (asg_few f1)
      have HPM : Hid (p ≤ 100000) := Lib.hid (by have := HPL.out.2.2; omega)
      have HPK : Hid (p ≤ 1000) := Lib.hid (by have := HPL.out.2.2; omega)
      obtain ⟨E, hE⟩ : ∃ E, E = checkE ws hs ps := ⟨_, rfl⟩
      have HE := Lib.hid hE
      obtain ⟨bn, hbn⟩ : ∃ b, b = limI bu := ⟨_, rfl⟩
      have HBN := Lib.hid hbn
      have g1 : ((0 : Int) != 0) = false := rfl
      have g2 : ((0 : Int) == 0) = true := rfl
      have g3 : ((1 : Int) == 1) = true := rfl
      by_cases h0 : E = 0
      ·
       have hok := check_ok.1 (hE.symm.trans h0)
       by_cases hb : 1 ≤ bn ∧ bn ≤ 1048576
       ·
        have b1 : decide (bn < 1) = false := decide_eq_false (by omega)
        have b2 : decide (bn > 1048576) = false := decide_eq_false (by omega)
        have hbb : budB bn = true := by unfold budB; rw [decide_eq_true hb.1, decide_eq_true hb.2]; rfl
        obtain ⟨XV, hXV⟩ : ∃ z, z = assignR ws hs ps bn.toNat := ⟨_, rfl⟩
        have HAR := Lib.hid hXV
        have HO : Hid (assignV ws hs ps bn = XV) := Lib.hid (by
         unfold assignV
         rw [if_neg (by rw [← hE, h0]; exact fun h => h rfl), if_neg (by rw [hbb]; decide), ← assign_sim hok, hXV])
        obtain ⟨XL, XE⟩ := XV
        obtain ⟨bk, hbk⟩ : ∃ k : Nat, bn = (k : Int) := ⟨bn.toNat, by omega⟩
        have HWS := Lib.hid hok.w
        have HM12 : Hid (m ≤ 12) := Lib.hid (by rw [← HLM.out]; exact holders_12 hok.h)
        have HBK : Hid ((bk : Int) ≤ 1048576) := Lib.hid (by omega)
        have g4 : (XE == XE) = true := beq_self_eq_true XE
        rw [hbk, Int.toNat_natCast] at HAR
        have HAQ := Lib.hid HAR.out.symm
        clear hXV hE hbn hok hb hbb HAR
        subst hbk h0
        go_enter Tryz.func6, Tryz.ntmps6
        go_wp2_with (first
         | (go_at_call 9; refine (few_any A n c B m d P p q w).mono ?_; rintro e w1 ⟨rfl, hw⟩; rw [hw, f1]; clear hw w1)
         | (go_at_call 23; refine (limit_any bu w).mono ?_; rintro e w1 ⟨rfl, hw⟩; rw [hw, ← HBN.out]; clear hw w1)
         | (go_at_call 28; refine (assign_any A n c ws B m d hs P p q ps _ w H.out HH.out HP.out HPK.out).mono ?_; rintro e w1 ⟨A1, n1, c1, rfl, r1, r2⟩; rw [HO.out] at r1 ⊢; have HQ1 := Lib.hid r1; have HB1 := Lib.hid r2; have HC1 : Hid (Below w1.heap.size w1 w1) := Lib.hid (Below.refl _ _); clear r1 r2)
         | (go_at_call 13; refine (of_rwt A n c ws w1 (H.out.kept stay_wt HB1.out)).mono ?_; rintro e w2 ⟨A2, c2, rfl, r1, r2⟩; have HW2 := Lib.hid r1; have HB2 := Lib.hid (below_then HB1.out r2); have HC2 := Lib.hid (below_then HC1.out r2); clear r1 r2)
         | (go_at_call 14; refine (of_rhd B m d hs w2 (HH.out.kept stay_hd HB2.out)).mono ?_; rintro e w3 ⟨A3, c3, rfl, r1, r2⟩; have HH3 := Lib.hid r1; have HW3 := Lib.hid (HW2.out.kept stay_wt r2); have HB3 := Lib.hid (below_then HB2.out r2); have HC3 := Lib.hid (below_then HC2.out r2); clear r1 r2)
         | (go_at_call 15; (with_reducible show Calls _ _ #[.slice P p q] _ _); refine (of_rpl P p q ps w3 (HP.out.kept stay_pl HB3.out)).mono ?_; rintro e w4 ⟨A4, c4, rfl, r1, r2⟩; have HP4 := Lib.hid r1; have HW4 := Lib.hid (HW3.out.kept stay_wt r2); have HH4 := Lib.hid (HH3.out.kept stay_hd r2); have HB4 := Lib.hid (below_then HB3.out r2); have HC4 := Lib.hid (below_then HC3.out r2); clear r1 r2)
         | (go_at_call 12; refine (rcheck_any A2 n c2 ws A3 m c3 hs A4 p c4 ps w4 HW4.out HH4.out HP4.out HPM.out).mono ?_; rintro e w5 ⟨rfl, r2⟩; rw [← HE.out]; have HP5 := Lib.hid (HP4.out.kept stay_pl r2); have HW5 := Lib.hid (HW4.out.kept stay_wt r2); have HH5 := Lib.hid (HH4.out.kept stay_hd r2); have HB5 := Lib.hid (below_then HB4.out r2); have HC5 := Lib.hid (below_then HC4.out r2); clear r2)
         | (go_at_call 29; refine (rassign_any A2 n c2 ws A3 m c3 hs A4 p c4 ps bk w5 HW5.out HH5.out HP5.out HWS.out HM12.out (by have := HPL.out.2.2; omega) HBK.out).mono ?_; rintro e w6 ⟨A6, n6, c6, rfl, r1, r2⟩; rw [HAQ.out] at r1 ⊢; have HR6 := Lib.hid r1; have HB6 := Lib.hid (below_then HB5.out r2); have HC6 := Lib.hid (below_then HC5.out r2); clear r1 r2) | (go_at_call 15; (with_reducible show Calls _ _ #[.slice A1 n1 c1] _ _); refine (of_rpl A1 n1 c1 XL w8 HQ8.out).mono ?_; rintro e w9 ⟨A9, c9, rfl, r1, r2⟩; have HQ9 := Lib.hid r1; have HR9 := Lib.hid (HR8.out.kept stay_pl r2); have HB9 := Lib.hid (below_then HB8.out r2); clear r1 r2) | (go_at_call 21; refine (rsame_any _ _ _ XL _ _ _ XL w9 HQ9.out HR9.out).mono ?_; rintro e wb ⟨rfl, r2⟩; rw [decide_eq_true (rfl : XL = XL)]; have HBb := Lib.hid (below_then HB9.out r2); clear r2)
         | (go_at_call 10; refine (awake_any w6).mono ?_; rintro e w8 ⟨rfl, r2⟩; have HR8 := Lib.hid (HR6.out.kept stay_pl r2); have HQ8 := Lib.hid ((HQ1.out.kept stay_pl HC6.out).kept stay_pl r2); have HB8 := Lib.hid (below_then HB6.out r2); clear r2))
        go_ret
        exact ⟨rfl, HBb.out⟩
       ·
        have HO : Hid (assignV ws hs ps bn = ([], 1)) := Lib.hid (by
         unfold assignV
         rw [if_neg (by rw [← hE, h0]; exact fun h => h rfl), if_pos (by unfold budB; rw [Bool.and_eq_false_iff, decide_eq_false_iff_not, decide_eq_false_iff_not]; omega)])
        clear hE hbn hok
        subst h0
        cases b1 : decide (bn < 1) with
        | true =>
         go_enter Tryz.func6, Tryz.ntmps6
         go_wp2_with (first
          | (go_at_call 9; refine (few_any A n c B m d P p q w).mono ?_; rintro e w1 ⟨rfl, hw⟩; rw [hw, f1]; clear hw w1)
          | (go_at_call 23; refine (limit_any bu w).mono ?_; rintro e w1 ⟨rfl, hw⟩; rw [hw, ← HBN.out]; clear hw w1)
          | (go_at_call 28; refine (assign_any A n c ws B m d hs P p q ps _ w H.out HH.out HP.out HPK.out).mono ?_; rintro e w1 ⟨A1, n1, c1, rfl, r1, r2⟩; rw [HO.out] at r1 ⊢; have hz := r1.1; cases hz; have HB1 := Lib.hid r2; have HC1 : Hid (Below w1.heap.size w1 w1) := Lib.hid (Below.refl _ _); clear r1 r2)
          | (go_at_call 13; refine (of_rwt A n c ws w1 (H.out.kept stay_wt HB1.out)).mono ?_; rintro e w2 ⟨A2, c2, rfl, r1, r2⟩; have HW2 := Lib.hid r1; have HB2 := Lib.hid (below_then HB1.out r2); have HC2 := Lib.hid (below_then HC1.out r2); clear r1 r2)
          | (go_at_call 14; refine (of_rhd B m d hs w2 (HH.out.kept stay_hd HB2.out)).mono ?_; rintro e w3 ⟨A3, c3, rfl, r1, r2⟩; have HH3 := Lib.hid r1; have HW3 := Lib.hid (HW2.out.kept stay_wt r2); have HB3 := Lib.hid (below_then HB2.out r2); have HC3 := Lib.hid (below_then HC2.out r2); clear r1 r2)
          | (go_at_call 15; (with_reducible show Calls _ _ #[.slice P p q] _ _); refine (of_rpl P p q ps w3 (HP.out.kept stay_pl HB3.out)).mono ?_; rintro e w4 ⟨A4, c4, rfl, r1, r2⟩; have HP4 := Lib.hid r1; have HW4 := Lib.hid (HW3.out.kept stay_wt r2); have HH4 := Lib.hid (HH3.out.kept stay_hd r2); have HB4 := Lib.hid (below_then HB3.out r2); have HC4 := Lib.hid (below_then HC3.out r2); clear r1 r2)
          | (go_at_call 12; refine (rcheck_any A2 n c2 ws A3 m c3 hs A4 p c4 ps w4 HW4.out HH4.out HP4.out HPM.out).mono ?_; rintro e w5 ⟨rfl, r2⟩; rw [← HE.out]; have HP5 := Lib.hid (HP4.out.kept stay_pl r2); have HW5 := Lib.hid (HW4.out.kept stay_wt r2); have HH5 := Lib.hid (HH4.out.kept stay_hd r2); have HB5 := Lib.hid (below_then HB4.out r2); have HC5 := Lib.hid (below_then HC4.out r2); clear r2)
          
          | (go_at_call 10; refine (awake_any w5).mono ?_; rintro e w8 ⟨rfl, r2⟩;  have HB8 := Lib.hid (below_then HB5.out r2); clear r2))
         go_ret
         exact ⟨rfl, HB8.out⟩
        | false =>
         have b2 : decide (bn > 1048576) = true := decide_eq_true (by have := of_decide_eq_false b1; omega)
         go_enter Tryz.func6, Tryz.ntmps6
         go_wp2_with (first
          | (go_at_call 9; refine (few_any A n c B m d P p q w).mono ?_; rintro e w1 ⟨rfl, hw⟩; rw [hw, f1]; clear hw w1)
          | (go_at_call 23; refine (limit_any bu w).mono ?_; rintro e w1 ⟨rfl, hw⟩; rw [hw, ← HBN.out]; clear hw w1)
          | (go_at_call 28; refine (assign_any A n c ws B m d hs P p q ps _ w H.out HH.out HP.out HPK.out).mono ?_; rintro e w1 ⟨A1, n1, c1, rfl, r1, r2⟩; rw [HO.out] at r1 ⊢; have hz := r1.1; cases hz; have HB1 := Lib.hid r2; have HC1 : Hid (Below w1.heap.size w1 w1) := Lib.hid (Below.refl _ _); clear r1 r2)
          | (go_at_call 13; refine (of_rwt A n c ws w1 (H.out.kept stay_wt HB1.out)).mono ?_; rintro e w2 ⟨A2, c2, rfl, r1, r2⟩; have HW2 := Lib.hid r1; have HB2 := Lib.hid (below_then HB1.out r2); have HC2 := Lib.hid (below_then HC1.out r2); clear r1 r2)
          | (go_at_call 14; refine (of_rhd B m d hs w2 (HH.out.kept stay_hd HB2.out)).mono ?_; rintro e w3 ⟨A3, c3, rfl, r1, r2⟩; have HH3 := Lib.hid r1; have HW3 := Lib.hid (HW2.out.kept stay_wt r2); have HB3 := Lib.hid (below_then HB2.out r2); have HC3 := Lib.hid (below_then HC2.out r2); clear r1 r2)
          | (go_at_call 15; (with_reducible show Calls _ _ #[.slice P p q] _ _); refine (of_rpl P p q ps w3 (HP.out.kept stay_pl HB3.out)).mono ?_; rintro e w4 ⟨A4, c4, rfl, r1, r2⟩; have HP4 := Lib.hid r1; have HW4 := Lib.hid (HW3.out.kept stay_wt r2); have HH4 := Lib.hid (HH3.out.kept stay_hd r2); have HB4 := Lib.hid (below_then HB3.out r2); have HC4 := Lib.hid (below_then HC3.out r2); clear r1 r2)
          | (go_at_call 12; refine (rcheck_any A2 n c2 ws A3 m c3 hs A4 p c4 ps w4 HW4.out HH4.out HP4.out HPM.out).mono ?_; rintro e w5 ⟨rfl, r2⟩; rw [← HE.out]; have HP5 := Lib.hid (HP4.out.kept stay_pl r2); have HW5 := Lib.hid (HW4.out.kept stay_wt r2); have HH5 := Lib.hid (HH4.out.kept stay_hd r2); have HB5 := Lib.hid (below_then HB4.out r2); have HC5 := Lib.hid (below_then HC4.out r2); clear r2)
          
          | (go_at_call 10; refine (awake_any w5).mono ?_; rintro e w8 ⟨rfl, r2⟩;  have HB8 := Lib.hid (below_then HB5.out r2); clear r2))
         go_ret
         exact ⟨rfl, HB8.out⟩
      ·
       have HO : Hid (assignV ws hs ps bn = ([], E)) := Lib.hid (by unfold assignV; rw [if_pos (by rw [← hE]; exact h0), ← hE])
       have f2 : (E != 0) = true := by simpa using h0
       have f3 : (E == E) = true := beq_self_eq_true E
       clear hE hbn h0
       go_enter Tryz.func6, Tryz.ntmps6
       go_wp2_with (first
        | (go_at_call 9; refine (few_any A n c B m d P p q w).mono ?_; rintro e w1 ⟨rfl, hw⟩; rw [hw, f1]; clear hw w1)
        | (go_at_call 23; refine (limit_any bu w).mono ?_; rintro e w1 ⟨rfl, hw⟩; rw [hw, ← HBN.out]; clear hw w1)
        | (go_at_call 28; refine (assign_any A n c ws B m d hs P p q ps _ w H.out HH.out HP.out HPK.out).mono ?_; rintro e w1 ⟨A1, n1, c1, rfl, r1, r2⟩; rw [HO.out] at r1 ⊢; have hz := r1.1; cases hz; have HB1 := Lib.hid r2; have HC1 : Hid (Below w1.heap.size w1 w1) := Lib.hid (Below.refl _ _); clear r1 r2)
        | (go_at_call 13; refine (of_rwt A n c ws w1 (H.out.kept stay_wt HB1.out)).mono ?_; rintro e w2 ⟨A2, c2, rfl, r1, r2⟩; have HW2 := Lib.hid r1; have HB2 := Lib.hid (below_then HB1.out r2); have HC2 := Lib.hid (below_then HC1.out r2); clear r1 r2)
        | (go_at_call 14; refine (of_rhd B m d hs w2 (HH.out.kept stay_hd HB2.out)).mono ?_; rintro e w3 ⟨A3, c3, rfl, r1, r2⟩; have HH3 := Lib.hid r1; have HW3 := Lib.hid (HW2.out.kept stay_wt r2); have HB3 := Lib.hid (below_then HB2.out r2); have HC3 := Lib.hid (below_then HC2.out r2); clear r1 r2)
        | (go_at_call 15; (with_reducible show Calls _ _ #[.slice P p q] _ _); refine (of_rpl P p q ps w3 (HP.out.kept stay_pl HB3.out)).mono ?_; rintro e w4 ⟨A4, c4, rfl, r1, r2⟩; have HP4 := Lib.hid r1; have HW4 := Lib.hid (HW3.out.kept stay_wt r2); have HH4 := Lib.hid (HH3.out.kept stay_hd r2); have HB4 := Lib.hid (below_then HB3.out r2); have HC4 := Lib.hid (below_then HC3.out r2); clear r1 r2)
        | (go_at_call 12; refine (rcheck_any A2 n c2 ws A3 m c3 hs A4 p c4 ps w4 HW4.out HH4.out HP4.out HPM.out).mono ?_; rintro e w5 ⟨rfl, r2⟩; rw [← HE.out]; have HP5 := Lib.hid (HP4.out.kept stay_pl r2); have HW5 := Lib.hid (HW4.out.kept stay_wt r2); have HH5 := Lib.hid (HH4.out.kept stay_hd r2); have HB5 := Lib.hid (below_then HB4.out r2); have HC5 := Lib.hid (below_then HC4.out r2); clear r2)
        
        | (go_at_call 10; refine (awake_any w5).mono ?_; rintro e w8 ⟨rfl, r2⟩;  have HB8 := Lib.hid (below_then HB5.out r2); clear r2))
       go_ret
       exact ⟨rfl, HB8.out⟩
end Go.Proofs.YtklfficlegfhjaaGreat
