/- PlacementRebalances: the walk. -/
import Derived.Test.YtklfficlegfhjaaGreatKlm
import Derived.Test.YtklfficlegfhjaaGreatC8
namespace Go.Proofs.YtklfficlegfhjaaGreat
open Go Go.RowKit Go.Shelf Gf Sha

theorem few_of {n m p : Nat} (h : fewB n m p = true) : n ≤ 10 ∧ m ≤ 14 ∧ p ≤ 40 := by
  unfold fewB at h
  simpa [and_assoc] using h
set_option maxRecDepth 100000 in
set_option maxHeartbeats 4000000 in
theorem rebal_walk (A : Option Addr) (n c : Nat) (ws : List Wt) (B : Option Addr) (m d : Nat) (hs : List Hd) (P : Option Addr) (p q : Nat) (ps : List Pl) (G : Option Addr) (gn gc : Nat) (gone : List Int) (bu : Int) (w : World) (h : LS rWt 4 40 w A n c ws) (hh : LS rHd 3 24 w B m d hs) (hp : LS rPl 3 32 w P p q ps) (hg : LS rInt 1 8 w G gn gc gone) :
    Calls Tryz.prog 7 #[.slice A n c, .slice B m d, .slice P p q, .slice G gn gc, .int .i64 bu] w fun e w' => e = .returned (.bool true) ∧ Below w.heap.size w w' := by
  have H := Lib.hid h
  have HH := Lib.hid hh
  have HP := Lib.hid hp
  have HG := Lib.hid hg
  clear h hh hp hg
  cases f1 : fewB n m p with
  | false =>
    go_enter Tryz.func7, Tryz.ntmps7
    go_wp2_with (first
      | (go_at_call 9; refine (few_any A n c B m d P p q w).mono ?_; rintro e w1 ⟨rfl, hw⟩; rw [hw, f1]; clear hw w1)
      | (go_at_call 10; refine (awake_any w).mono ?_; rintro e w1 ⟨rfl, b1⟩; have HB1 := Lib.hid b1; clear b1))
    go_ret
    exact ⟨rfl, HB1.out⟩
  | true =>
    have HFW := Lib.hid (few_of f1)
    cases f2 : decide ((gn : Int) > 20) with
    | true =>
      have f3 : decide (gn > 20) = true := decide_eq_true (by have := of_decide_eq_true f2; omega)
      go_enter Tryz.func7, Tryz.ntmps7
      go_wp2_with (first
        | (go_at_call 9; refine (few_any A n c B m d P p q w).mono ?_; rintro e w1 ⟨rfl, hw⟩; rw [hw, f1]; clear hw w1)
        | (go_at_call 10; refine (awake_any w).mono ?_; rintro e w1 ⟨rfl, b1⟩; have HB1 := Lib.hid b1; clear b1))
      go_ret
      exact ⟨rfl, HB1.out⟩
    | false =>
      have f3 : decide (gn > 20) = false := decide_eq_false (by have := of_decide_eq_false f2; omega)
      obtain ⟨bn, hbn⟩ : ∃ b, b = limI bu := ⟨_, rfl⟩
      have HBN := Lib.hid hbn
      clear hbn
      obtain ⟨V, hV⟩ : ∃ V, V = rebalV ws hs ps gone bn := ⟨_, rfl⟩
      have HV := Lib.hid hV
      by_cases hwh : wantsB ws = true ∧ holdersB hs = true
      · have HVA : Hid (assignV ws (stayH gone hs) (stayP gone ps) bn = V) := Lib.hid (by rw [hV]; exact (if_pos hwh).symm)
        obtain ⟨f4, f5⟩ := hwh
        obtain ⟨VL, VE⟩ := V
        have f6 : (VE == VE) = true := beq_self_eq_true _
        clear hV
        go_enter Tryz.func7, Tryz.ntmps7
        go_wp2_with (first
          | (go_at_call 9; refine (few_any A n c B m d P p q w).mono ?_; rintro e w1 ⟨rfl, hw⟩; rw [hw, f1]; clear hw w1)
          | (go_at_call 23; refine (limit_any bu w).mono ?_; rintro e w1 ⟨rfl, hw⟩; rw [hw, ← HBN.out]; clear hw w1)
          | (go_at_call 30; refine (rebal_any A n c ws B m d hs P p q ps G gn gc gone bn w H.out HH.out HP.out HG.out (by have := HFW.out; omega)).mono ?_; rintro e w1 ⟨A1, n1, c1, rfl, r1, r2⟩; rw [← HV.out] at r1 ⊢; have HR1 := Lib.hid r1; have HB1 := Lib.hid r2; clear r1 r2)
          | (go_at_call 13; refine (of_rwt A n c ws w1 (H.out.kept stay_wt HB1.out)).mono ?_; rintro e w2 ⟨A2, c2, rfl, r1, r2⟩; have HW2 := Lib.hid r1; have HB2 := Lib.hid (below_then HB1.out r2); have HR2 := Lib.hid (HR1.out.kept stay_pl r2); clear r1 r2)
          | (go_at_call 25; refine (rwants_any _ _ _ ws w2 HW2.out).mono ?_; rintro e w3 ⟨rfl, r2⟩; rw [f4]; have HB3 := Lib.hid (below_then HB2.out r2); have HR3 := Lib.hid (HR2.out.kept stay_pl r2); clear r2)
          | (go_at_call 14; refine (of_rhd B m d hs w3 (HH.out.kept stay_hd HB3.out)).mono ?_; rintro e w4 ⟨A4, c4, rfl, r1, r2⟩; have HW4 := Lib.hid r1; have HB4 := Lib.hid (below_then HB3.out r2); have HR4 := Lib.hid (HR3.out.kept stay_pl r2); clear r1 r2)
          | (go_at_call 26; refine (rholders_any _ _ _ hs w4 HW4.out).mono ?_; rintro e w5 ⟨rfl, r2⟩; rw [f5]; have HB5 := Lib.hid (below_then HB4.out r2); have HR5 := Lib.hid (HR4.out.kept stay_pl r2); clear r2)
          | (go_at_call 31; refine (without_any B m d hs P p q ps G gn gc gone w5 (HH.out.kept stay_hd HB5.out) (HP.out.kept stay_pl HB5.out) (HG.out.kept stay_int HB5.out)).mono ?_; rintro e w6 ⟨A6, n6, c6, B6, m6, d6, rfl, r1, r2, r3⟩; have HH6 := Lib.hid r1; have HP6 := Lib.hid r2; have HB6 := Lib.hid (below_then HB5.out r3); have HR6 := Lib.hid (HR5.out.kept stay_pl r3); have HM6 : Hid (m6 ≤ 1000) := Lib.hid (by rw [← r2.1]; have h9 := List.length_filter_le (fun h : Pl => decide (h.dv ∉ gone)) ps; have h8 := HP.out.1; have h7 := HFW.out; unfold stayP; omega); clear r1 r2 r3)
          | (go_at_call 28; refine (assign_any A n c ws A6 n6 c6 (stayH gone hs) B6 m6 d6 (stayP gone ps) bn w6 (H.out.kept stay_wt HB6.out) HH6.out HP6.out HM6.out).mono ?_; rintro e w7 ⟨A7, n7, c7, rfl, r1, r2⟩; rw [HVA.out] at r1 ⊢; have HQ7 := Lib.hid r1; have HB7 := Lib.hid (below_then HB6.out r2); have HR7 := Lib.hid (HR6.out.kept stay_pl r2); clear r1 r2)
          | (go_at_call 10; refine (awake_any w7).mono ?_; rintro e w8 ⟨rfl, r2⟩; have HB8 := Lib.hid (below_then HB7.out r2); have HR8 := Lib.hid (HR7.out.kept stay_pl r2); have HQ8 := Lib.hid (HQ7.out.kept stay_pl r2); clear r2)
          | (go_at_call 15; (with_reducible show Calls _ _ #[.slice A1 n1 c1] _ _); refine (of_rpl A1 n1 c1 VL w8 HR8.out).mono ?_; rintro e w9 ⟨A9, c9, rfl, r1, r2⟩; have HR9 := Lib.hid r1; have HB9 := Lib.hid (below_then HB8.out r2); have HQ9 := Lib.hid (HQ8.out.kept stay_pl r2); clear r1 r2)
          | (go_at_call 15; (with_reducible show Calls _ _ #[.slice A7 n7 c7] _ _); refine (of_rpl A7 n7 c7 VL w9 HQ9.out).mono ?_; rintro e wa ⟨Aa, ca, rfl, r1, r2⟩; have HQa := Lib.hid r1; have HBa := Lib.hid (below_then HB9.out r2); have HRa := Lib.hid (HR9.out.kept stay_pl r2); clear r1 r2)
          | (go_at_call 21; refine (rsame_any _ _ _ VL _ _ _ VL wa HRa.out HQa.out).mono ?_; rintro e wb ⟨rfl, r2⟩; rw [decide_eq_true (rfl : VL = VL)]; have HBb := Lib.hid (below_then HBa.out r2); clear r2))
        go_ret
        exact ⟨rfl, HBb.out⟩
      · have HVE : Hid (V = ([], 1)) := Lib.hid (by rw [hV]; exact if_neg hwh)
        cases f4 : wantsB ws with
        | false =>
          clear hwh hV
          go_enter Tryz.func7, Tryz.ntmps7
          go_wp2_with (first
            | (go_at_call 9; refine (few_any A n c B m d P p q w).mono ?_; rintro e w1 ⟨rfl, hw⟩; rw [hw, f1]; clear hw w1)
            | (go_at_call 23; refine (limit_any bu w).mono ?_; rintro e w1 ⟨rfl, hw⟩; rw [hw, ← HBN.out]; clear hw w1)
            | (go_at_call 30; refine (rebal_any A n c ws B m d hs P p q ps G gn gc gone bn w H.out HH.out HP.out HG.out (by have := HFW.out; omega)).mono ?_; rintro e w1 ⟨A1, n1, c1, rfl, r1, r2⟩; rw [← HV.out, HVE.out] at r1 ⊢; have hz := r1.1; cases hz; have HB1 := Lib.hid r2; clear r1 r2)
            | (go_at_call 13; refine (of_rwt A n c ws w1 (H.out.kept stay_wt HB1.out)).mono ?_; rintro e w2 ⟨A2, c2, rfl, r1, r2⟩; have HW2 := Lib.hid r1; have HB2 := Lib.hid (below_then HB1.out r2); clear r1 r2)
            | (go_at_call 25; refine (rwants_any _ _ _ ws w2 HW2.out).mono ?_; rintro e w3 ⟨rfl, r2⟩; rw [f4]; have HB3 := Lib.hid (below_then HB2.out r2); clear r2)
            | (go_at_call 10; refine (awake_any w3).mono ?_; rintro e w8 ⟨rfl, r2⟩; have HB8 := Lib.hid (below_then HB3.out r2); clear r2))
          go_ret
          exact ⟨rfl, HB8.out⟩
        | true =>
          have f5 : holdersB hs = false := by
            rw [← Bool.not_eq_true]
            exact fun h => hwh ⟨f4, h⟩
          clear hwh hV
          go_enter Tryz.func7, Tryz.ntmps7
          go_wp2_with (first
            | (go_at_call 9; refine (few_any A n c B m d P p q w).mono ?_; rintro e w1 ⟨rfl, hw⟩; rw [hw, f1]; clear hw w1)
            | (go_at_call 23; refine (limit_any bu w).mono ?_; rintro e w1 ⟨rfl, hw⟩; rw [hw, ← HBN.out]; clear hw w1)
            | (go_at_call 30; refine (rebal_any A n c ws B m d hs P p q ps G gn gc gone bn w H.out HH.out HP.out HG.out (by have := HFW.out; omega)).mono ?_; rintro e w1 ⟨A1, n1, c1, rfl, r1, r2⟩; rw [← HV.out, HVE.out] at r1 ⊢; have hz := r1.1; cases hz; have HB1 := Lib.hid r2; clear r1 r2)
            | (go_at_call 13; refine (of_rwt A n c ws w1 (H.out.kept stay_wt HB1.out)).mono ?_; rintro e w2 ⟨A2, c2, rfl, r1, r2⟩; have HW2 := Lib.hid r1; have HB2 := Lib.hid (below_then HB1.out r2); clear r1 r2)
            | (go_at_call 25; refine (rwants_any _ _ _ ws w2 HW2.out).mono ?_; rintro e w3 ⟨rfl, r2⟩; rw [f4]; have HB3 := Lib.hid (below_then HB2.out r2); clear r2)
            | (go_at_call 14; refine (of_rhd B m d hs w3 (HH.out.kept stay_hd HB3.out)).mono ?_; rintro e w4 ⟨A4, c4, rfl, r1, r2⟩; have HW4 := Lib.hid r1; have HB4 := Lib.hid (below_then HB3.out r2); clear r1 r2)
            | (go_at_call 26; refine (rholders_any _ _ _ hs w4 HW4.out).mono ?_; rintro e w5 ⟨rfl, r2⟩; rw [f5]; have HB5 := Lib.hid (below_then HB4.out r2); clear r2)
            | (go_at_call 10; refine (awake_any w5).mono ?_; rintro e w8 ⟨rfl, r2⟩; have HB8 := Lib.hid (below_then HB5.out r2); clear r2))
          go_ret
          exact ⟨rfl, HB8.out⟩
end Go.Proofs.YtklfficlegfhjaaGreat
