/- PlacementAgrees: the walk. -/
import Derived.Test.YtklfficlegfhjaaKkm
import Derived.Test.YtklfficlegfhjaaC7
namespace Go.Proofs.Ytklfficlegfhjaa
open Go Go.RowKit Go.Shelf Gf Sha

theorem agrees2 {ws : List Wt} {hs : List Hd} {ex b : Int} (hx : 0 ≤ ex) (hne : ws ≠ []) (h1 : (possV ws hs ex b).2 = 0) (h2 : (assignV ws hs [] b).2 = 0) :
    (possV ws hs ex b).1 = decide (ex ≤ leastI ws (assignV ws hs [] b).1) ∧ leastE ws (assignV ws hs [] b).1 = (leastI ws (assignV ws hs [] b).1, 0) := by
  unfold possV at h1 ⊢
  by_cases hc : wantsB ws = true ∧ holdersB hs = true ∧ 0 ≤ ex ∧ ex ≤ 16 ∧ budB b = true
  · rw [if_pos hc] at h1 ⊢
    obtain ⟨hw, hh, _, _, hb⟩ := hc
    have h0 := ok_nil hw hh
    unfold assignV at h2 ⊢
    rw [if_neg (by rw [check_ok.2 h0]; exact fun h => h rfl), if_neg (by rw [hb]; decide)] at h2 ⊢
    have h3 := find_none h0 b.toNat
    cases hf : findA ws hs [] b.toNat with
    | mk x y =>
      try rw [hf] at h2
      rw [hf] at h3
      try rw [hf]
      cases x with
      | false => cases h2
      | true =>
        obtain ⟨cs, h4, h5⟩ := h3 rfl
        have h4' : y = some cs := h4
        subst h4'
        have hp : possP ws hs ex b.toNat = ((possP ws hs ex b.toNat).1, 0) := Prod.ext rfl h1
        refine ⟨agrees hw hh hx hne hp h5, ?_⟩
        show leastE ws (sortedL ws (plcs (prefL hs) [] (ws.zip cs))) = (leastI ws (sortedL ws (plcs (prefL hs) [] (ws.zip cs))), 0)
        have hn := h5.ok.sorted.n
        unfold leastE
        rw [hw, hn]
        cases ws with
        | nil => exact absurd rfl hne
        | cons w r => rfl
  · rw [if_neg hc] at h1; cases h1
set_option maxRecDepth 100000 in
set_option maxHeartbeats 4000000 in
theorem agrees_walk (A : Option Addr) (n c : Nat) (ws : List Wt) (B : Option Addr) (m d : Nat) (hs : List Hd) (ex : Int) (w : World) (h : LS rWt 4 40 w A n c ws) (hh : LS rHd 3 24 w B m d hs) :
    Calls Try.prog 5 #[.slice A n c, .slice B m d, .int .i64 ex] w fun e w' => e = .returned (.bool true) ∧ Below w.heap.size w w' := by
  have H := Lib.hid h
  have HH := Lib.hid hh
  have HLN := Lib.hid h.1
  clear h hh
  cases f1 : decide ((n : Int) > 4) with
  | true =>
    have f2 : decide (n > 4) = true := decide_eq_true (by have := of_decide_eq_true f1; omega)
    go_enter Try.func5, Try.ntmps5
    go_wp2_with (first
      | (go_at_call 8; refine (awake_any w).mono ?_; rintro e w1 ⟨rfl, b1⟩; have HB1 := Lib.hid b1; clear b1))
    go_ret
    exact ⟨rfl, HB1.out⟩
  | false =>
    have f2 : decide (n > 4) = false := decide_eq_false (by have := of_decide_eq_false f1; omega)
    cases f3 : decide ((m : Int) > 6) with
    | true =>
      have f4 : decide (m > 6) = true := decide_eq_true (by have := of_decide_eq_true f3; omega)
      go_enter Try.func5, Try.ntmps5
      go_wp2_with (first
        | (go_at_call 8; refine (awake_any w).mono ?_; rintro e w1 ⟨rfl, b1⟩; have HB1 := Lib.hid b1; clear b1))
      go_ret
      exact ⟨rfl, HB1.out⟩
    | false =>
      have f4 : decide (m > 6) = false := decide_eq_false (by have := of_decide_eq_false f3; omega)
      by_cases h5 : n = 0
      · subst h5
        go_enter Try.func5, Try.ntmps5
        go_wp2_with (first
          | (go_at_call 8; refine (awake_any w).mono ?_; rintro e w1 ⟨rfl, b1⟩; have HB1 := Lib.hid b1; clear b1))
        go_ret
        exact ⟨rfl, HB1.out⟩
      · have f5 : ((n : Int) == 0) = false := by simpa using h5
        have f6 : (n == 0) = false := by simpa using h5
        have f7 : decide ((n : Int) = 0) = false := by simpa using h5
        have f8 : decide (n = 0) = false := by simpa using h5
        cases f9 : decide (ex < 0) with
        | true =>
          go_enter Try.func5, Try.ntmps5
          go_wp2_with (first
            | (go_at_call 8; refine (awake_any w).mono ?_; rintro e w1 ⟨rfl, b1⟩; have HB1 := Lib.hid b1; clear b1))
          go_ret
          exact ⟨rfl, HB1.out⟩
        | false =>
          have hne : ws ≠ [] := fun e => h5 (by rw [← HLN.out, e]; rfl)
          have hx0 : 0 ≤ ex := by have := of_decide_eq_false f9; omega
          have hag := agrees2 (b := 2000) (hs := hs) hx0 hne
          obtain ⟨V, hV⟩ : ∃ V, V = possV ws hs ex 2000 := ⟨_, rfl⟩
          have HV := Lib.hid hV
          obtain ⟨X, hX⟩ : ∃ X, X = assignV ws hs [] 2000 := ⟨_, rfl⟩
          have HX := Lib.hid hX
          rw [← hV, ← hX] at hag
          obtain ⟨ok, E1⟩ := V
          obtain ⟨XL, F1⟩ := X
          clear hV hX hne hx0 h5
          have g1 : ((0 : Int) != 0) = false := rfl
          have g2 : ((0 : Int) == 0) = true := rfl
          by_cases h1 : E1 = 0
          · subst h1
            by_cases h2 : F1 = 0
            · subst h2
              obtain ⟨k1, k2⟩ := hag rfl rfl
              simp only at k1 k2
              obtain ⟨L, hL⟩ : ∃ L, L = leastI ws XL := ⟨_, rfl⟩
              rw [← hL] at k1 k2
              have HLE := Lib.hid k2
              clear hag k2 hL
              have g3 : (true == true) = true := rfl
              have g4 : (false == false) = true := rfl
              cases f10 : decide (L ≥ ex) with
              | true =>
                have f11 : decide (ex ≤ L) = true := f10
                rw [f11] at k1
                subst k1
                go_enter Try.func5, Try.ntmps5
                go_wp2_with (first
                  | (go_at_call 15; refine (possible_any A n c ws B m d hs ex 2000 w H.out HH.out).mono ?_; rintro e w1 ⟨rfl, r2⟩; rw [← HV.out]; have HB1 := Lib.hid r2; clear r2)
                  | (go_at_call 12; refine (assign_any A n c ws B m d hs none 0 0 [] 2000 w1 (H.out.kept stay_wt HB1.out) (HH.out.kept stay_hd HB1.out) LS.nil (by decide)).mono ?_; rintro e w2 ⟨A2, n2, c2, rfl, r1, r2⟩; rw [← HX.out] at r1 ⊢; have HX2 := Lib.hid r1; have HB2 := Lib.hid (below_then HB1.out r2); clear r1 r2)
                  | (go_at_call 14; refine (least_any A n c ws A2 n2 c2 XL w2 (H.out.kept stay_wt HB2.out) HX2.out).mono ?_; rintro e w3 ⟨rfl, r2⟩; rw [HLE.out]; have HB3 := Lib.hid (below_then HB2.out r2); clear r2)
                  | (go_at_call 8; refine (awake_any w3).mono ?_; rintro e w4 ⟨rfl, r2⟩; have HB4 := Lib.hid (below_then HB3.out r2); clear r2))
                go_ret
                exact ⟨rfl, HB4.out⟩
              | false =>
                have f11 : decide (ex ≤ L) = false := f10
                rw [f11] at k1
                subst k1
                go_enter Try.func5, Try.ntmps5
                go_wp2_with (first
                  | (go_at_call 15; refine (possible_any A n c ws B m d hs ex 2000 w H.out HH.out).mono ?_; rintro e w1 ⟨rfl, r2⟩; rw [← HV.out]; have HB1 := Lib.hid r2; clear r2)
                  | (go_at_call 12; refine (assign_any A n c ws B m d hs none 0 0 [] 2000 w1 (H.out.kept stay_wt HB1.out) (HH.out.kept stay_hd HB1.out) LS.nil (by decide)).mono ?_; rintro e w2 ⟨A2, n2, c2, rfl, r1, r2⟩; rw [← HX.out] at r1 ⊢; have HX2 := Lib.hid r1; have HB2 := Lib.hid (below_then HB1.out r2); clear r1 r2)
                  | (go_at_call 14; refine (least_any A n c ws A2 n2 c2 XL w2 (H.out.kept stay_wt HB2.out) HX2.out).mono ?_; rintro e w3 ⟨rfl, r2⟩; rw [HLE.out]; have HB3 := Lib.hid (below_then HB2.out r2); clear r2)
                  | (go_at_call 8; refine (awake_any w3).mono ?_; rintro e w4 ⟨rfl, r2⟩; have HB4 := Lib.hid (below_then HB3.out r2); clear r2))
                go_ret
                exact ⟨rfl, HB4.out⟩
            · have f10 : (F1 != 0) = true := by simpa using h2
              clear hag h2
              go_enter Try.func5, Try.ntmps5
              go_wp2_with (first
                | (go_at_call 15; refine (possible_any A n c ws B m d hs ex 2000 w H.out HH.out).mono ?_; rintro e w1 ⟨rfl, r2⟩; rw [← HV.out]; have HB1 := Lib.hid r2; clear r2)
                | (go_at_call 12; refine (assign_any A n c ws B m d hs none 0 0 [] 2000 w1 (H.out.kept stay_wt HB1.out) (HH.out.kept stay_hd HB1.out) LS.nil (by decide)).mono ?_; rintro e w2 ⟨A2, n2, c2, rfl, r1, r2⟩; rw [← HX.out] at r1 ⊢; have HX2 := Lib.hid r1; have HB2 := Lib.hid (below_then HB1.out r2); clear r1 r2)
                | (go_at_call 14; refine (least_any A n c ws A2 n2 c2 XL w2 (H.out.kept stay_wt HB2.out) HX2.out).mono ?_; rintro e w3 ⟨rfl, r2⟩; rw [HLE.out]; have HB3 := Lib.hid (below_then HB2.out r2); clear r2)
                | (go_at_call 8; refine (awake_any w2).mono ?_; rintro e w4 ⟨rfl, r2⟩; have HB4 := Lib.hid (below_then HB2.out r2); clear r2))
              go_ret
              exact ⟨rfl, HB4.out⟩
          · have f10 : (E1 != 0) = true := by simpa using h1
            clear hag h1
            go_enter Try.func5, Try.ntmps5
            go_wp2_with (first
              | (go_at_call 15; refine (possible_any A n c ws B m d hs ex 2000 w H.out HH.out).mono ?_; rintro e w1 ⟨rfl, r2⟩; rw [← HV.out]; have HB1 := Lib.hid r2; clear r2)
              | (go_at_call 12; refine (assign_any A n c ws B m d hs none 0 0 [] 2000 w1 (H.out.kept stay_wt HB1.out) (HH.out.kept stay_hd HB1.out) LS.nil (by decide)).mono ?_; rintro e w2 ⟨A2, n2, c2, rfl, r1, r2⟩; rw [← HX.out] at r1 ⊢; have HX2 := Lib.hid r1; have HB2 := Lib.hid (below_then HB1.out r2); clear r1 r2)
              | (go_at_call 14; refine (least_any A n c ws A2 n2 c2 XL w2 (H.out.kept stay_wt HB2.out) HX2.out).mono ?_; rintro e w3 ⟨rfl, r2⟩; rw [HLE.out]; have HB3 := Lib.hid (below_then HB2.out r2); clear r2)
              | (go_at_call 8; refine (awake_any w2).mono ?_; rintro e w4 ⟨rfl, r2⟩; have HB4 := Lib.hid (below_then HB2.out r2); clear r2))
            go_ret
            exact ⟨rfl, HB4.out⟩
end Go.Proofs.Ytklfficlegfhjaa
