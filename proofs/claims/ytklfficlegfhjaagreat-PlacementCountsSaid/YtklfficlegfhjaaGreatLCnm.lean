/- PlacementCounts: the walk. -/
import Derived.Test.YtklfficlegfhjaaGreatKkm
import Derived.Test.YtklfficlegfhjaaGreatLgm
import Derived.Test.YtklfficlegfhjaaGreatC7
namespace Go.Proofs.YtklfficlegfhjaaGreat
open Go Go.RowKit Go.Shelf Gf Sha

set_option maxRecDepth 100000 in
set_option maxHeartbeats 4000000 in
theorem counts_walk (A : Option Addr) (n c : Nat) (ws : List Wt) (B : Option Addr) (m d : Nat) (ps : List Pl) (C : Option Addr) (k l : Nat) (old : List Pl) (s : List UInt8) (dv : Int) (w : World) (h : LS rWt 4 40 w A n c ws) (hp : LS rPl 3 32 w B m d ps) (ho : LS rPl 3 32 w C k l old) :
    Calls Tryz.prog 8 #[.slice A n c, .slice B m d, .slice C k l, .string (strB s), .int .i64 dv] w fun e w' => e = .returned (.bool true) ∧ Below w.heap.size w w' := by
  have H := Lib.hid h
  have HP := Lib.hid hp
  have HO := Lib.hid ho
  have HLN := Lib.hid h.1
  clear h hp ho
  cases f1 : fewB n 0 m with
  | false =>
    go_enter Tryz.func8, Tryz.ntmps8
    go_wp2_with (first
      | (go_at_call 9; refine (few_any A n c none 0 0 B m d w).mono ?_; rintro e w1 ⟨rfl, hw⟩; rw [hw, f1]; clear hw w1)
      | (go_at_call 10; refine (awake_any w).mono ?_; rintro e w1 ⟨rfl, b1⟩; have HB1 := Lib.hid b1; clear b1))
    go_ret
    exact ⟨rfl, HB1.out⟩
  | true =>
    have HPM : Hid (m ≤ 100000) := Lib.hid (by unfold fewB at f1; simp at f1; omega)
    cases f2 : decide ((k : Int) > 40) with
    | true =>
      have f3 : decide (k > 40) = true := decide_eq_true (by have := of_decide_eq_true f2; omega)
      go_enter Tryz.func8, Tryz.ntmps8
      go_wp2_with (first
        | (go_at_call 9; refine (few_any A n c none 0 0 B m d w).mono ?_; rintro e w1 ⟨rfl, hw⟩; rw [hw, f1]; clear hw w1)
        | (go_at_call 10; refine (awake_any w).mono ?_; rintro e w1 ⟨rfl, b1⟩; have HB1 := Lib.hid b1; clear b1))
      go_ret
      exact ⟨rfl, HB1.out⟩
    | false =>
      have f3 : decide (k > 40) = false := decide_eq_false (by have := of_decide_eq_false f2; omega)
      obtain ⟨S, hS⟩ : ∃ S, S = spreadI s ps := ⟨_, rfl⟩
      obtain ⟨V, hV⟩ : ∃ V, V = movesI old ps := ⟨_, rfl⟩
      have HS := Lib.hid hS
      have HV := Lib.hid hV
      have g1 : (S != S) = false := bne_self_eq_false S
      have g2 : (V != V) = false := bne_self_eq_false V
      have g3 : ((0 : Int) == 0) = true := rfl
      have g4 : ((1 : Int) == 1) = true := rfl
      have g5 : ((4 : Int) == 4) = true := rfl
      clear hS hV
      cases f4 : wantsB ws with
      | false =>
        have HLE : Hid (leastE ws ps = (0, 1)) := Lib.hid (by unfold leastE; rw [f4]; rfl)
        go_enter Tryz.func8, Tryz.ntmps8
        go_wp2_with (first
          | (go_at_call 9; refine (few_any A _ c none 0 0 B m d w).mono ?_; rintro e w1 ⟨rfl, hw⟩; rw [hw, f1]; clear hw w1)
          | (go_at_call 13; refine (of_rwt A _ c ws w H.out).mono ?_; rintro e w1 ⟨A1, c1, rfl, r1, r2⟩; have HW1 := Lib.hid r1; have HB1 := Lib.hid r2; clear r1 r2)
          | (go_at_call 15; (with_reducible show Calls _ _ #[.slice B m d] _ _); refine (of_rpl B m d ps w1 (HP.out.kept stay_pl HB1.out)).mono ?_; rintro e w2 ⟨A2, c2, rfl, r1, r2⟩; have HP2 := Lib.hid r1; have HW2 := Lib.hid (HW1.out.kept stay_wt r2); have HB2 := Lib.hid (below_then HB1.out r2); clear r1 r2)
          | (go_at_call 32; refine (spread_any s B m d ps w2 (HP.out.kept stay_pl HB2.out)).mono ?_; rintro e w3 ⟨rfl, r2⟩; rw [← HS.out]; have HP3 := Lib.hid (HP2.out.kept stay_pl r2); have HW3 := Lib.hid (HW2.out.kept stay_wt r2); have HB3 := Lib.hid (below_then HB2.out r2); clear r2)
          | (go_at_call 33; refine (rspread_any s A2 m c2 ps w3 HP3.out).mono ?_; rintro e w4 ⟨rfl, r2⟩; rw [← HS.out]; have HP4 := Lib.hid (HP3.out.kept stay_pl r2); have HW4 := Lib.hid (HW3.out.kept stay_wt r2); have HB4 := Lib.hid (below_then HB3.out r2); clear r2)
          | (go_at_call 34; refine (moves_any C k l old B m d ps w4 (HO.out.kept stay_pl HB4.out) (HP.out.kept stay_pl HB4.out)).mono ?_; rintro e w5 ⟨rfl, r2⟩; rw [← HV.out]; have HP5 := Lib.hid (HP4.out.kept stay_pl r2); have HW5 := Lib.hid (HW4.out.kept stay_wt r2); have HB5 := Lib.hid (below_then HB4.out r2); clear r2)
          | (go_at_call 15; (with_reducible show Calls _ _ #[.slice C k l] _ _); refine (of_rpl C k l old w5 (HO.out.kept stay_pl HB5.out)).mono ?_; rintro e w6 ⟨A6, c6, rfl, r1, r2⟩; have HO6 := Lib.hid r1; have HP6 := Lib.hid (HP5.out.kept stay_pl r2); have HW6 := Lib.hid (HW5.out.kept stay_wt r2); have HB6 := Lib.hid (below_then HB5.out r2); clear r1 r2)
          | (go_at_call 35; refine (rmoves_any A6 k c6 old A2 m c2 ps w6 HO6.out HP6.out).mono ?_; rintro e w7 ⟨rfl, r2⟩; rw [← HV.out]; have HP7 := Lib.hid (HP6.out.kept stay_pl r2); have HW7 := Lib.hid (HW6.out.kept stay_wt r2); have HB7 := Lib.hid (below_then HB6.out r2); clear r2)
          | (go_at_call 36; refine (least_any A _ c ws B m d ps w7 (H.out.kept stay_wt HB7.out) (HP.out.kept stay_pl HB7.out)).mono ?_; rintro e w8 ⟨rfl, r2⟩; rw [HLE.out]; have HP8 := Lib.hid (HP7.out.kept stay_pl r2); have HW8 := Lib.hid (HW7.out.kept stay_wt r2); have HB8 := Lib.hid (below_then HB7.out r2); clear r2)
          | (go_at_call 25; refine (rwants_any _ _ _ ws w8 HW8.out).mono ?_; rintro e w9 ⟨rfl, r2⟩; rw [f4]; have HP9 := Lib.hid (HP8.out.kept stay_pl r2); have HW9 := Lib.hid (HW8.out.kept stay_wt r2); have HB9 := Lib.hid (below_then HB8.out r2); clear r2)
          
          | (go_at_call 10; refine (awake_any w9).mono ?_; rintro e wb ⟨rfl, r2⟩;  have HBb := Lib.hid (below_then HB9.out r2); clear r2))
        go_ret
        exact ⟨rfl, HBb.out⟩
      | true =>
        cases f5 : namedB ws ps with
        | false =>
          have HLE : Hid (leastE ws ps = (0, 1)) := Lib.hid (by unfold leastE; rw [f4, f5]; rfl)
          go_enter Tryz.func8, Tryz.ntmps8
          go_wp2_with (first
            | (go_at_call 9; refine (few_any A _ c none 0 0 B m d w).mono ?_; rintro e w1 ⟨rfl, hw⟩; rw [hw, f1]; clear hw w1)
            | (go_at_call 13; refine (of_rwt A _ c ws w H.out).mono ?_; rintro e w1 ⟨A1, c1, rfl, r1, r2⟩; have HW1 := Lib.hid r1; have HB1 := Lib.hid r2; clear r1 r2)
            | (go_at_call 15; (with_reducible show Calls _ _ #[.slice B m d] _ _); refine (of_rpl B m d ps w1 (HP.out.kept stay_pl HB1.out)).mono ?_; rintro e w2 ⟨A2, c2, rfl, r1, r2⟩; have HP2 := Lib.hid r1; have HW2 := Lib.hid (HW1.out.kept stay_wt r2); have HB2 := Lib.hid (below_then HB1.out r2); clear r1 r2)
            | (go_at_call 32; refine (spread_any s B m d ps w2 (HP.out.kept stay_pl HB2.out)).mono ?_; rintro e w3 ⟨rfl, r2⟩; rw [← HS.out]; have HP3 := Lib.hid (HP2.out.kept stay_pl r2); have HW3 := Lib.hid (HW2.out.kept stay_wt r2); have HB3 := Lib.hid (below_then HB2.out r2); clear r2)
            | (go_at_call 33; refine (rspread_any s A2 m c2 ps w3 HP3.out).mono ?_; rintro e w4 ⟨rfl, r2⟩; rw [← HS.out]; have HP4 := Lib.hid (HP3.out.kept stay_pl r2); have HW4 := Lib.hid (HW3.out.kept stay_wt r2); have HB4 := Lib.hid (below_then HB3.out r2); clear r2)
            | (go_at_call 34; refine (moves_any C k l old B m d ps w4 (HO.out.kept stay_pl HB4.out) (HP.out.kept stay_pl HB4.out)).mono ?_; rintro e w5 ⟨rfl, r2⟩; rw [← HV.out]; have HP5 := Lib.hid (HP4.out.kept stay_pl r2); have HW5 := Lib.hid (HW4.out.kept stay_wt r2); have HB5 := Lib.hid (below_then HB4.out r2); clear r2)
            | (go_at_call 15; (with_reducible show Calls _ _ #[.slice C k l] _ _); refine (of_rpl C k l old w5 (HO.out.kept stay_pl HB5.out)).mono ?_; rintro e w6 ⟨A6, c6, rfl, r1, r2⟩; have HO6 := Lib.hid r1; have HP6 := Lib.hid (HP5.out.kept stay_pl r2); have HW6 := Lib.hid (HW5.out.kept stay_wt r2); have HB6 := Lib.hid (below_then HB5.out r2); clear r1 r2)
            | (go_at_call 35; refine (rmoves_any A6 k c6 old A2 m c2 ps w6 HO6.out HP6.out).mono ?_; rintro e w7 ⟨rfl, r2⟩; rw [← HV.out]; have HP7 := Lib.hid (HP6.out.kept stay_pl r2); have HW7 := Lib.hid (HW6.out.kept stay_wt r2); have HB7 := Lib.hid (below_then HB6.out r2); clear r2)
            | (go_at_call 36; refine (least_any A _ c ws B m d ps w7 (H.out.kept stay_wt HB7.out) (HP.out.kept stay_pl HB7.out)).mono ?_; rintro e w8 ⟨rfl, r2⟩; rw [HLE.out]; have HP8 := Lib.hid (HP7.out.kept stay_pl r2); have HW8 := Lib.hid (HW7.out.kept stay_wt r2); have HB8 := Lib.hid (below_then HB7.out r2); clear r2)
            | (go_at_call 25; refine (rwants_any _ _ _ ws w8 HW8.out).mono ?_; rintro e w9 ⟨rfl, r2⟩; rw [f4]; have HP9 := Lib.hid (HP8.out.kept stay_pl r2); have HW9 := Lib.hid (HW8.out.kept stay_wt r2); have HB9 := Lib.hid (below_then HB8.out r2); clear r2)
            | (go_at_call 37; refine (rnamed_any _ _ _ ws _ _ _ ps w9 HW9.out HP9.out).mono ?_; rintro e wa ⟨rfl, r2⟩; rw [f5]; have HBa := Lib.hid (below_then HB9.out r2); clear r2)
            | (go_at_call 10; refine (awake_any wa).mono ?_; rintro e wb ⟨rfl, r2⟩;  have HBb := Lib.hid (below_then HBa.out r2); clear r2))
          go_ret
          exact ⟨rfl, HBb.out⟩
        | true =>
          by_cases hz : n = 0
          · have hws : ws = [] := List.eq_nil_of_length_eq_zero (HLN.out.trans hz)
            have HLE : Hid (leastE ws ps = (0, 4)) := Lib.hid (by unfold leastE; rw [f4, f5, hws]; rfl)
            clear hws
            subst hz
            go_enter Tryz.func8, Tryz.ntmps8
            go_wp2_with (first
              | (go_at_call 9; refine (few_any A _ c none 0 0 B m d w).mono ?_; rintro e w1 ⟨rfl, hw⟩; rw [hw, f1]; clear hw w1)
              | (go_at_call 13; refine (of_rwt A _ c ws w H.out).mono ?_; rintro e w1 ⟨A1, c1, rfl, r1, r2⟩; have HW1 := Lib.hid r1; have HB1 := Lib.hid r2; clear r1 r2)
              | (go_at_call 15; (with_reducible show Calls _ _ #[.slice B m d] _ _); refine (of_rpl B m d ps w1 (HP.out.kept stay_pl HB1.out)).mono ?_; rintro e w2 ⟨A2, c2, rfl, r1, r2⟩; have HP2 := Lib.hid r1; have HW2 := Lib.hid (HW1.out.kept stay_wt r2); have HB2 := Lib.hid (below_then HB1.out r2); clear r1 r2)
              | (go_at_call 32; refine (spread_any s B m d ps w2 (HP.out.kept stay_pl HB2.out)).mono ?_; rintro e w3 ⟨rfl, r2⟩; rw [← HS.out]; have HP3 := Lib.hid (HP2.out.kept stay_pl r2); have HW3 := Lib.hid (HW2.out.kept stay_wt r2); have HB3 := Lib.hid (below_then HB2.out r2); clear r2)
              | (go_at_call 33; refine (rspread_any s A2 m c2 ps w3 HP3.out).mono ?_; rintro e w4 ⟨rfl, r2⟩; rw [← HS.out]; have HP4 := Lib.hid (HP3.out.kept stay_pl r2); have HW4 := Lib.hid (HW3.out.kept stay_wt r2); have HB4 := Lib.hid (below_then HB3.out r2); clear r2)
              | (go_at_call 34; refine (moves_any C k l old B m d ps w4 (HO.out.kept stay_pl HB4.out) (HP.out.kept stay_pl HB4.out)).mono ?_; rintro e w5 ⟨rfl, r2⟩; rw [← HV.out]; have HP5 := Lib.hid (HP4.out.kept stay_pl r2); have HW5 := Lib.hid (HW4.out.kept stay_wt r2); have HB5 := Lib.hid (below_then HB4.out r2); clear r2)
              | (go_at_call 15; (with_reducible show Calls _ _ #[.slice C k l] _ _); refine (of_rpl C k l old w5 (HO.out.kept stay_pl HB5.out)).mono ?_; rintro e w6 ⟨A6, c6, rfl, r1, r2⟩; have HO6 := Lib.hid r1; have HP6 := Lib.hid (HP5.out.kept stay_pl r2); have HW6 := Lib.hid (HW5.out.kept stay_wt r2); have HB6 := Lib.hid (below_then HB5.out r2); clear r1 r2)
              | (go_at_call 35; refine (rmoves_any A6 k c6 old A2 m c2 ps w6 HO6.out HP6.out).mono ?_; rintro e w7 ⟨rfl, r2⟩; rw [← HV.out]; have HP7 := Lib.hid (HP6.out.kept stay_pl r2); have HW7 := Lib.hid (HW6.out.kept stay_wt r2); have HB7 := Lib.hid (below_then HB6.out r2); clear r2)
              | (go_at_call 36; refine (least_any A _ c ws B m d ps w7 (H.out.kept stay_wt HB7.out) (HP.out.kept stay_pl HB7.out)).mono ?_; rintro e w8 ⟨rfl, r2⟩; rw [HLE.out]; have HP8 := Lib.hid (HP7.out.kept stay_pl r2); have HW8 := Lib.hid (HW7.out.kept stay_wt r2); have HB8 := Lib.hid (below_then HB7.out r2); clear r2)
              | (go_at_call 25; refine (rwants_any _ _ _ ws w8 HW8.out).mono ?_; rintro e w9 ⟨rfl, r2⟩; rw [f4]; have HP9 := Lib.hid (HP8.out.kept stay_pl r2); have HW9 := Lib.hid (HW8.out.kept stay_wt r2); have HB9 := Lib.hid (below_then HB8.out r2); clear r2)
              | (go_at_call 37; refine (rnamed_any _ _ _ ws _ _ _ ps w9 HW9.out HP9.out).mono ?_; rintro e wa ⟨rfl, r2⟩; rw [f5]; have HBa := Lib.hid (below_then HB9.out r2); clear r2)
              | (go_at_call 10; refine (awake_any wa).mono ?_; rintro e wb ⟨rfl, r2⟩;  have HBb := Lib.hid (below_then HBa.out r2); clear r2))
            go_ret
            exact ⟨rfl, HBb.out⟩
          · have hne : ws ≠ [] := fun e => hz (by rw [← HLN.out, e]; rfl)
            obtain ⟨L, hL⟩ : ∃ L, L = leastI ws ps := ⟨_, rfl⟩
            have HLE : Hid (leastE ws ps = (L, 0)) := Lib.hid (by
              unfold leastE
              rw [f4, f5, hL]
              cases ws with
              | nil => exact absurd rfl hne
              | cons w r => rfl)
            have HLG : Hid (gI (surplL ws ps) 0 = L) := Lib.hid (by rw [hL]; exact (least_eq f4 f5 hne).symm)
            have HW := Lib.hid f4
            obtain ⟨U, hU⟩ : ∃ U, U = usedI ws ps dv := ⟨_, rfl⟩
            have HU := Lib.hid hU
            have g6 : (L == L) = true := beq_self_eq_true L
            have g7 : (U == U) = true := beq_self_eq_true U
            have i1 : ((n : Int) == 0) = false := by simpa using hz
            have i2 : (n == 0) = false := by simpa using hz
            have i3 : decide ((n : Int) = 0) = false := by simpa using hz
            have hn0 : 0 < n := Nat.pos_of_ne_zero hz
            have hnI : (0 : Int) < (n : Int) := by omega
            clear hL hne hz hU
            go_enter Tryz.func8, Tryz.ntmps8
            go_wp2_with (first
              | (go_at_call 9; refine (few_any A _ c none 0 0 B m d w).mono ?_; rintro e w1 ⟨rfl, hw⟩; rw [hw, f1]; clear hw w1)
              | (go_at_call 13; refine (of_rwt A _ c ws w H.out).mono ?_; rintro e w1 ⟨A1, c1, rfl, r1, r2⟩; have HW1 := Lib.hid r1; have HB1 := Lib.hid r2; clear r1 r2)
              | (go_at_call 15; (with_reducible show Calls _ _ #[.slice B m d] _ _); refine (of_rpl B m d ps w1 (HP.out.kept stay_pl HB1.out)).mono ?_; rintro e w2 ⟨A2, c2, rfl, r1, r2⟩; have HP2 := Lib.hid r1; have HW2 := Lib.hid (HW1.out.kept stay_wt r2); have HB2 := Lib.hid (below_then HB1.out r2); clear r1 r2)
              | (go_at_call 32; refine (spread_any s B m d ps w2 (HP.out.kept stay_pl HB2.out)).mono ?_; rintro e w3 ⟨rfl, r2⟩; rw [← HS.out]; have HP3 := Lib.hid (HP2.out.kept stay_pl r2); have HW3 := Lib.hid (HW2.out.kept stay_wt r2); have HB3 := Lib.hid (below_then HB2.out r2); clear r2)
              | (go_at_call 33; refine (rspread_any s A2 m c2 ps w3 HP3.out).mono ?_; rintro e w4 ⟨rfl, r2⟩; rw [← HS.out]; have HP4 := Lib.hid (HP3.out.kept stay_pl r2); have HW4 := Lib.hid (HW3.out.kept stay_wt r2); have HB4 := Lib.hid (below_then HB3.out r2); clear r2)
              | (go_at_call 34; refine (moves_any C k l old B m d ps w4 (HO.out.kept stay_pl HB4.out) (HP.out.kept stay_pl HB4.out)).mono ?_; rintro e w5 ⟨rfl, r2⟩; rw [← HV.out]; have HP5 := Lib.hid (HP4.out.kept stay_pl r2); have HW5 := Lib.hid (HW4.out.kept stay_wt r2); have HB5 := Lib.hid (below_then HB4.out r2); clear r2)
              | (go_at_call 15; (with_reducible show Calls _ _ #[.slice C k l] _ _); refine (of_rpl C k l old w5 (HO.out.kept stay_pl HB5.out)).mono ?_; rintro e w6 ⟨A6, c6, rfl, r1, r2⟩; have HO6 := Lib.hid r1; have HP6 := Lib.hid (HP5.out.kept stay_pl r2); have HW6 := Lib.hid (HW5.out.kept stay_wt r2); have HB6 := Lib.hid (below_then HB5.out r2); clear r1 r2)
              | (go_at_call 35; refine (rmoves_any A6 k c6 old A2 m c2 ps w6 HO6.out HP6.out).mono ?_; rintro e w7 ⟨rfl, r2⟩; rw [← HV.out]; have HP7 := Lib.hid (HP6.out.kept stay_pl r2); have HW7 := Lib.hid (HW6.out.kept stay_wt r2); have HB7 := Lib.hid (below_then HB6.out r2); clear r2)
              | (go_at_call 36; refine (least_any A _ c ws B m d ps w7 (H.out.kept stay_wt HB7.out) (HP.out.kept stay_pl HB7.out)).mono ?_; rintro e w8 ⟨rfl, r2⟩; rw [HLE.out]; have HP8 := Lib.hid (HP7.out.kept stay_pl r2); have HW8 := Lib.hid (HW7.out.kept stay_wt r2); have HB8 := Lib.hid (below_then HB7.out r2); clear r2)
              | (go_at_call 25; refine (rwants_any _ _ _ ws w8 HW8.out).mono ?_; rintro e w9 ⟨rfl, r2⟩; rw [f4]; have HP9 := Lib.hid (HP8.out.kept stay_pl r2); have HW9 := Lib.hid (HW8.out.kept stay_wt r2); have HB9 := Lib.hid (below_then HB8.out r2); clear r2)
              | (go_at_call 37; refine (rnamed_any _ _ _ ws _ _ _ ps w9 HW9.out HP9.out).mono ?_; rintro e wa ⟨rfl, r2⟩; rw [f5]; have HPa := Lib.hid (HP9.out.kept stay_pl r2); have HWa := Lib.hid (HW9.out.kept stay_wt r2); have HBa := Lib.hid (below_then HB9.out r2); clear r2) | (go_at_call 38; refine (rsurpl_any A1 n c1 ws A2 m c2 ps wb HWb.out HPb.out HW.out HPM.out).mono ?_; rintro e wc ⟨Ac, cc, rfl, r1, r2⟩; obtain ⟨z, gc, oc, z1, z2, z3⟩ := LS.int_at r1 (Below.refl _ _) hn0; subst z2; have hzL : z = L := (show gI (surplL ws ps) 0 = z by unfold gI; rw [List.getD_eq_getElem?_getD, z1]; rfl).symm.trans HLG.out; rw [hzL] at z3; have z4 : wc.cell? ⟨gc, oc, none⟩ = some (.int .i64 L) := z3; clear z1 hzL; have HPc := Lib.hid (HPb.out.kept stay_pl r2); have HWc := Lib.hid (HWb.out.kept stay_wt r2); have HBc := Lib.hid (below_then HBb.out r2); clear r1 r2) | (go_at_call 39; refine (used_any A n c ws B m d ps dv wc (H.out.kept stay_wt HBc.out) (HP.out.kept stay_pl HBc.out) HW.out HPM.out).mono ?_; rintro e wd ⟨rfl, r2⟩; rw [← HU.out]; have HPd := Lib.hid (HPc.out.kept stay_pl r2); have HWd := Lib.hid (HWc.out.kept stay_wt r2); have HBd := Lib.hid (below_then HBc.out r2); clear r2) | (go_at_call 40; refine (rused_any A1 n c1 ws A2 m c2 ps dv wd HWd.out HPd.out HW.out HPM.out).mono ?_; rintro e we ⟨rfl, hw⟩; rw [hw, ← HU.out]; clear hw we)
              | (go_at_call 10; refine (awake_any wa).mono ?_; rintro e wb ⟨rfl, r2⟩; have HPb := Lib.hid (HPa.out.kept stay_pl r2); have HWb := Lib.hid (HWa.out.kept stay_wt r2); have HBb := Lib.hid (below_then HBa.out r2); clear r2))
            go_ret
            exact ⟨rfl, HBd.out⟩
end Go.Proofs.YtklfficlegfhjaaGreat
