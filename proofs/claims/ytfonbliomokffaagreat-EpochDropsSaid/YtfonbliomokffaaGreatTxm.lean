/- The reference's Condemned and Dropped. -/
import Derived.Test.YtfonbliomokffaaGreatTwm
import Derived.Test.YtfonbliomokffaaGreatLAgm
namespace Go.Proofs.YtfonbliomokffaaGreat
open Go Go.RowKit Gf Sha

section
set_option maxRecDepth 100000
set_option maxHeartbeats 4000000
theorem rcondemned_any (A : Option Addr) (n c : Nat) (es : List En) (V : Int) (u : Int) (w : World) (h : LS rEn 6 72 w A n c es) (hn30 : n ≤ 10000) (hpl : (ppL (dd es)).length ≤ 30)  :
    Calls Tryz.prog 13 #[.slice A n c, .int .i64 V, .int .i64 u] w fun e w' => ∃ A' c', e = .returned (.slice A' (condL (dd es) V u).length c') ∧ LS rStr 1 16 w' A' (condL (dd es) V u).length c' (condL (dd es) V u) ∧ Below w.heap.size w w' := by
  have H := Lib.hid h
  have HN30 := Lib.hid hn30
  have HPL := Lib.hid hpl
  skip
  obtain ⟨N, hN⟩ : ∃ N, N = (ofL (dd es) V).length := ⟨_, rfl⟩
  have hN9 : N ≤ 30 := by rw [hN]; exact Nat.le_trans (List.length_filter_le _ _) hpl
  have HN := Lib.hid hN
  clear h hn30 hpl hN
  go_enter Tryz.func13, Tryz.ntmps13
  go_wp2_with (first
    | (go_at_call 44; refine (rproposals_any A n c es V w H.out HN30.out).mono ?_; rw [← HN.out]; rintro e w4 ⟨A4, c4, rfl, x1, x3⟩; have HL4 := Lib.hid x1; have HLN := Lib.hid x1.1; have HB4 := Lib.hid x3; clear x1 x3))
  go_loopw [7, 14] (fun uv iv wr => ∃ (k : Nat) (v : Value), k ≤ N ∧ iv = .int .i64 (k : Int) ∧ v = uv ∧ Hid (∃ A' c', v = .slice A' (uniqS (stL (((ofL (dd es) V).take k).filter (condN (dd es) u)))).length c' ∧ LS rStr 1 16 wr A' (uniqS (stL (((ofL (dd es) V).take k).filter (condN (dd es) u)))).length c' (uniqS (stL (((ofL (dd es) V).take k).filter (condN (dd es) u))))) ∧ Hid (Below w4.heap.size w4 wr)) (fun _ iv _ => N - (intOf iv).toNat)
  case atStart => exact ⟨0, _, by omega, rfl, rfl, Lib.hid ⟨none, 0, rfl, LS.nil⟩, Lib.hid (Below.refl _ _)⟩
  case round =>
    obtain ⟨k, v, hk, rfl, rfl, hv, hb⟩ := hrel
    obtain ⟨wx, hwx⟩ : ∃ x, x = wr := ⟨_, rfl⟩
    rw [← hwx] at hv hb ⊢
    clear hwx
    obtain ⟨U, hU⟩ : ∃ U, U = uniqS (stL (((ofL (dd es) V).take k).filter (condN (dd es) u))) := ⟨_, rfl⟩
    have HUL : Hid (U.length ≤ 30720) := Lib.hid (by rw [hU]; exact un_len _ k HPL.out)
    have HUD := Lib.hid hU
    have hv1 := hv.out
    rw [← hU] at hv1
    obtain ⟨A', c', rfl, hls⟩ := hv1
    obtain ⟨r, hr⟩ : ∃ r, r = U.length := ⟨_, rfl⟩
    have HRL := Lib.hid hr
    rw [← hr] at hls HUL ⊢
    have HU := Lib.hid hls
    clear hv hU hls hr
    have HBx := Lib.hid (below_thenB HB4.out HB4.out.size hb.out)
    by_cases hlt : k < N
    · obtain ⟨x, g, o, cs, hs, ea, hat, hrd⟩ := HL4.out.at_ stay_ppt hb.out hlt
      have HR := Lib.hid hrd.1
      have HIN : Hid (x ∈ ofL (dd es) V) := Lib.hid (mem_of hs)
      have HXV : Hid (validB x = true) := Lib.hid (ofL_valid (mem_of hs))
      obtain ⟨⟨A1, n1, c1, A2, n2, c2, rfl, h1, h2, _⟩, _⟩ := hrd
      have HA := Lib.hid hat
      have HW1 := Lib.hid h1
      have HW2 := Lib.hid h2
      have HSS : Hid (n2 ≤ 1024) := Lib.hid (by have := (valid_ss HXV.out).1; have := h2.1; omega)
      have HSTEP := Lib.hid (un_step (dd es) V (condN (dd es) u) hs)
      subst ea
      clear hs hat h1 h2
      cases ez : (condN (dd es) u) x with
      | false =>
        try dsimp only at ez
        have HUK : Hid (uniqS (stL (((ofL (dd es) V).take (k + 1)).filter (condN (dd es) u))) = U) := Lib.hid (by rw [HSTEP.out, ez, ← HUD.out]; rfl)
        have ez' := ez
        unfold condN at ez'
        rw [Bool.or_eq_false_iff, Bool.or_eq_false_iff] at ez'
        obtain ⟨⟨f1, f2⟩, f3⟩ := ez'
        have f2' : x.ws.contains u = true := by rw [Bool.not_eq_false'] at f2; exact f2
        obtain ⟨z, hz⟩ : ∃ z, z = replyOf (dd es) x u := ⟨_, rfl⟩
        rw [← hz] at f3
        have HZ := Lib.hid hz
        clear hz f2 ez
        go_wp2_with (first
          | ((with_reducible show wpList _ _ _ (⟨some 17, _, _, _, _, _⟩ :: _) _ _); refine wpList_loadv _ rfl 40 (.tmp 16) rfl 5 (by kernel_rfl) g (o + k * 5) (ppC x A1 n1 c1 A2 n2 c2) (by go_simp) HA.out rfl ?_)
          | ((with_reducible show wpList _ _ _ (⟨some 9, _, _, _, _, _⟩ :: _) _ _); refine wpList_alloc _ rfl 40 rfl ppZ rpZero ?_; intro w5 a1 a2 a3; have HV5 := Lib.hid a1; have HX5 := Lib.hid a2; clear a1 a2 a3)
          | ((with_reducible show wpList _ _ _ (⟨none, _, _, _, _, _⟩ :: _) _ _); refine wpList_storev _ rfl 40 (.tmp 9) (.tmp 17) rfl 5 (by kernel_rfl) wx.heap.size 0 _ ppZ (ppC x A1 n1 c1 A2 n2 c2) rfl rfl HV5.out rfl (one_pp _ _ _ _ _ _ _) (by decide) ?_; intro w6 a1 a2 a3; have HV6 : Hid (BL w6 wx.heap.size 40 (ppC x A1 n1 c1 A2 n2 c2)) := Lib.hid a1; have HX6 : Hid (Below wx.heap.size wx w6) := Lib.hid (low_kp HX5.out a2 (fun i hi e => by omega)); have q0 := HV6.out.get (j := 0) rfl; have q3 := HV6.out.get (j := 3) rfl; have q4 := HV6.out.get (j := 4) rfl; clear a1 a2 a3)
          | (go_at_call 26; refine (member_any A1 n1 c1 x.ws u w6 (HW1.out.kept stay_int HX6.out)).mono ?_; rintro e w7 ⟨rfl, hw⟩; rw [hw, f2']; clear hw w7)
          | ((with_reducible show wpList _ _ _ (⟨some 31, _, _, _, _, _⟩ :: _) _ _); refine wpList_loadvg _ rfl 40 (.tmp 9) rfl 5 (by kernel_rfl) wx.heap.size 0 (ppC x A1 n1 c1 A2 n2 c2) rfl (BL.all HV6.out) rfl ?_)
          | (go_at_call 45; refine (ranswer_any A n c es _ x u w6 (H.out.kept stay_en (below_thenB HBx.out HBx.out.size HX6.out)) HN30.out (stay_pp _ _ _ _ HR.out HX6.out) HXV.out).mono ?_; rintro e w7 ⟨rfl, b4⟩; rw [← HZ.out]; have HX7 := Lib.hid (below_then HX6.out b4); clear b4))
        go_roundw
        case rel => exact ⟨k + 1, _, by omega, by go_num, rfl, Lib.hid (by rw [HUK.out, ← HRL.out]; exact ⟨_, _, rfl, HU.out.kept stay_str (HX7).out⟩), Lib.hid (below_thenB hb.out hb.out.size (HX7).out)⟩
        case measure => simp [intOf]; omega
      | true =>
        try dsimp only at ez
        have HUK : Hid (uniqS (stL (((ofL (dd es) V).take (k + 1)).filter (condN (dd es) u))) = x.ss.foldl addS U) := Lib.hid (by rw [HSTEP.out, ez, ← HUD.out]; rfl)
        obtain ⟨U2, hU2⟩ : ∃ U9, U9 = x.ss.foldl addS U := ⟨_, rfl⟩
        rw [← hU2] at HUK
        have HU2 : Hid (x.ss.foldl addS U = U2) := Lib.hid hU2.symm
        clear hU2
        cases f1 : (x.dev == u) with
        | true =>
          clear ez
          go_wp2_with (first
            | ((with_reducible show wpList _ _ _ (⟨some 17, _, _, _, _, _⟩ :: _) _ _); refine wpList_loadv _ rfl 40 (.tmp 16) rfl 5 (by kernel_rfl) g (o + k * 5) (ppC x A1 n1 c1 A2 n2 c2) (by go_simp) HA.out rfl ?_)
            | ((with_reducible show wpList _ _ _ (⟨some 9, _, _, _, _, _⟩ :: _) _ _); refine wpList_alloc _ rfl 40 rfl ppZ rpZero ?_; intro w5 a1 a2 a3; have HV5 := Lib.hid a1; have HX5 := Lib.hid a2; clear a1 a2 a3)
            | ((with_reducible show wpList _ _ _ (⟨none, _, _, _, _, _⟩ :: _) _ _); refine wpList_storev _ rfl 40 (.tmp 9) (.tmp 17) rfl 5 (by kernel_rfl) wx.heap.size 0 _ ppZ (ppC x A1 n1 c1 A2 n2 c2) rfl rfl HV5.out rfl (one_pp _ _ _ _ _ _ _) (by decide) ?_; intro w6 a1 a2 a3; have HV6 : Hid (BL w6 wx.heap.size 40 (ppC x A1 n1 c1 A2 n2 c2)) := Lib.hid a1; have HX6 : Hid (Below wx.heap.size wx w6) := Lib.hid (low_kp HX5.out a2 (fun i hi e => by omega)); have q0 := HV6.out.get (j := 0) rfl; have q3 := HV6.out.get (j := 3) rfl; have q4 := HV6.out.get (j := 4) rfl; clear a1 a2 a3)
            | (go_at_call 25; refine (add_any A' r c' U A2 n2 c2 x.ss w6 (HU.out.kept stay_str (HX6).out) (HW2.out.kept stay_str (HX6).out) (by have := HUL.out; have := HSS.out; omega)).mono ?_; rw [HU2.out]; rintro e w8 ⟨A8, c8, rfl, x1, x3⟩; have HU8 := Lib.hid x1; have HX8 := Lib.hid (below_then (HX6).out x3); clear x1 x3)
            | fail)
          go_roundw
          case rel => exact ⟨k + 1, _, by omega, by go_num, rfl, Lib.hid (by rw [HUK.out]; exact ⟨_, _, rfl, HU8.out⟩), Lib.hid (below_thenB hb.out hb.out.size HX8.out)⟩
          case measure => simp [intOf]; omega
        | false =>
          cases f2 : x.ws.contains u with
          | false =>
            clear ez
            go_wp2_with (first
              | ((with_reducible show wpList _ _ _ (⟨some 17, _, _, _, _, _⟩ :: _) _ _); refine wpList_loadv _ rfl 40 (.tmp 16) rfl 5 (by kernel_rfl) g (o + k * 5) (ppC x A1 n1 c1 A2 n2 c2) (by go_simp) HA.out rfl ?_)
              | ((with_reducible show wpList _ _ _ (⟨some 9, _, _, _, _, _⟩ :: _) _ _); refine wpList_alloc _ rfl 40 rfl ppZ rpZero ?_; intro w5 a1 a2 a3; have HV5 := Lib.hid a1; have HX5 := Lib.hid a2; clear a1 a2 a3)
              | ((with_reducible show wpList _ _ _ (⟨none, _, _, _, _, _⟩ :: _) _ _); refine wpList_storev _ rfl 40 (.tmp 9) (.tmp 17) rfl 5 (by kernel_rfl) wx.heap.size 0 _ ppZ (ppC x A1 n1 c1 A2 n2 c2) rfl rfl HV5.out rfl (one_pp _ _ _ _ _ _ _) (by decide) ?_; intro w6 a1 a2 a3; have HV6 : Hid (BL w6 wx.heap.size 40 (ppC x A1 n1 c1 A2 n2 c2)) := Lib.hid a1; have HX6 : Hid (Below wx.heap.size wx w6) := Lib.hid (low_kp HX5.out a2 (fun i hi e => by omega)); have q0 := HV6.out.get (j := 0) rfl; have q3 := HV6.out.get (j := 3) rfl; have q4 := HV6.out.get (j := 4) rfl; clear a1 a2 a3)
              | (go_at_call 26; refine (member_any A1 n1 c1 x.ws u w6 (HW1.out.kept stay_int HX6.out)).mono ?_; rintro e w7 ⟨rfl, hw⟩; rw [hw, f2]; clear hw w7)
              | (go_at_call 25; refine (add_any A' r c' U A2 n2 c2 x.ss w6 (HU.out.kept stay_str (HX6).out) (HW2.out.kept stay_str (HX6).out) (by have := HUL.out; have := HSS.out; omega)).mono ?_; rw [HU2.out]; rintro e w8 ⟨A8, c8, rfl, x1, x3⟩; have HU8 := Lib.hid x1; have HX8 := Lib.hid (below_then (HX6).out x3); clear x1 x3)
              | fail)
            go_roundw
            case rel => exact ⟨k + 1, _, by omega, by go_num, rfl, Lib.hid (by rw [HUK.out]; exact ⟨_, _, rfl, HU8.out⟩), Lib.hid (below_thenB hb.out hb.out.size HX8.out)⟩
            case measure => simp [intOf]; omega
          | true =>
            obtain ⟨z, hz⟩ : ∃ z, z = replyOf (dd es) x u := ⟨_, rfl⟩
            have f3 : (z == 4) = true := by
              rw [hz]
              have h9 := ez
              simp only [condN, f1, f2] at h9
              simpa using h9
            have HZ := Lib.hid hz
            clear hz ez
            go_wp2_with (first
              | ((with_reducible show wpList _ _ _ (⟨some 17, _, _, _, _, _⟩ :: _) _ _); refine wpList_loadv _ rfl 40 (.tmp 16) rfl 5 (by kernel_rfl) g (o + k * 5) (ppC x A1 n1 c1 A2 n2 c2) (by go_simp) HA.out rfl ?_)
              | ((with_reducible show wpList _ _ _ (⟨some 9, _, _, _, _, _⟩ :: _) _ _); refine wpList_alloc _ rfl 40 rfl ppZ rpZero ?_; intro w5 a1 a2 a3; have HV5 := Lib.hid a1; have HX5 := Lib.hid a2; clear a1 a2 a3)
              | ((with_reducible show wpList _ _ _ (⟨none, _, _, _, _, _⟩ :: _) _ _); refine wpList_storev _ rfl 40 (.tmp 9) (.tmp 17) rfl 5 (by kernel_rfl) wx.heap.size 0 _ ppZ (ppC x A1 n1 c1 A2 n2 c2) rfl rfl HV5.out rfl (one_pp _ _ _ _ _ _ _) (by decide) ?_; intro w6 a1 a2 a3; have HV6 : Hid (BL w6 wx.heap.size 40 (ppC x A1 n1 c1 A2 n2 c2)) := Lib.hid a1; have HX6 : Hid (Below wx.heap.size wx w6) := Lib.hid (low_kp HX5.out a2 (fun i hi e => by omega)); have q0 := HV6.out.get (j := 0) rfl; have q3 := HV6.out.get (j := 3) rfl; have q4 := HV6.out.get (j := 4) rfl; clear a1 a2 a3)
              | (go_at_call 26; refine (member_any A1 n1 c1 x.ws u w6 (HW1.out.kept stay_int HX6.out)).mono ?_; rintro e w7 ⟨rfl, hw⟩; rw [hw, f2]; clear hw w7)
              | ((with_reducible show wpList _ _ _ (⟨some 31, _, _, _, _, _⟩ :: _) _ _); refine wpList_loadvg _ rfl 40 (.tmp 9) rfl 5 (by kernel_rfl) wx.heap.size 0 (ppC x A1 n1 c1 A2 n2 c2) rfl (BL.all HV6.out) rfl ?_)
              | (go_at_call 45; refine (ranswer_any A n c es _ x u w6 (H.out.kept stay_en (below_thenB HBx.out HBx.out.size HX6.out)) HN30.out (stay_pp _ _ _ _ HR.out HX6.out) HXV.out).mono ?_; rintro e w7 ⟨rfl, b4⟩; rw [← HZ.out]; have HX7 := Lib.hid (below_then HX6.out b4); have q4 := (HV6.out.kept b4).get (j := 4) rfl; clear b4)
              | (go_at_call 25; refine (add_any A' r c' U A2 n2 c2 x.ss w7 (HU.out.kept stay_str (HX7).out) (HW2.out.kept stay_str (HX7).out) (by have := HUL.out; have := HSS.out; omega)).mono ?_; rw [HU2.out]; rintro e w8 ⟨A8, c8, rfl, x1, x3⟩; have HU8 := Lib.hid x1; have HX8 := Lib.hid (below_then (HX7).out x3); clear x1 x3)
              | fail)
            go_roundw
            case rel => exact ⟨k + 1, _, by omega, by go_num, rfl, Lib.hid (by rw [HUK.out]; exact ⟨_, _, rfl, HU8.out⟩), Lib.hid (below_thenB hb.out hb.out.size HX8.out)⟩
            case measure => simp [intOf]; omega
    · obtain rfl : k = N := by omega
      have HE : Hid (U = condL (dd es) V u) := Lib.hid (by rw [HUD.out, take_end HLN.out]; rfl)
      go_wp2_with fail
      go_ret
      rw [← HE.out]
      exact ⟨A', c', by rw [HRL.out]; rfl, by rw [← HRL.out]; exact HU.out, HBx.out⟩
theorem rdropped_any (A : Option Addr) (n c : Nat) (es : List En) (V : Int) (B : Option Addr) (m d : Nat) (ex : List Int) (w : World) (h : LS rEn 6 72 w A n c es) (hn30 : n ≤ 10000) (hpl : (ppL (dd es)).length ≤ 30) (hex : LS rInt 1 8 w B m d ex) :
    Calls Tryz.prog 15 #[.slice A n c, .int .i64 V, .slice B m d] w fun e w' => ∃ A' c', e = .returned (.slice A' (dropL (dd es) V ex).length c') ∧ LS rStr 1 16 w' A' (dropL (dd es) V ex).length c' (dropL (dd es) V ex) ∧ Below w.heap.size w w' := by
  have H := Lib.hid h
  have HN30 := Lib.hid hn30
  have HPL := Lib.hid hpl
  have HEX := Lib.hid hex; clear hex
  obtain ⟨N, hN⟩ : ∃ N, N = (ofL (dd es) V).length := ⟨_, rfl⟩
  have hN9 : N ≤ 30 := by rw [hN]; exact Nat.le_trans (List.length_filter_le _ _) hpl
  have HN := Lib.hid hN
  clear h hn30 hpl hN
  go_enter Tryz.func15, Tryz.ntmps15
  go_wp2_with (first
    | (go_at_call 44; refine (rproposals_any A n c es V w H.out HN30.out).mono ?_; rw [← HN.out]; rintro e w4 ⟨A4, c4, rfl, x1, x3⟩; have HL4 := Lib.hid x1; have HLN := Lib.hid x1.1; have HB4 := Lib.hid x3; clear x1 x3))
  go_loopw [7, 14] (fun uv iv wr => ∃ (k : Nat) (v : Value), k ≤ N ∧ iv = .int .i64 (k : Int) ∧ v = uv ∧ Hid (∃ A' c', v = .slice A' (uniqS (stL (((ofL (dd es) V).take k).filter (fun p => stateOf (dd es) p ex == 3)))).length c' ∧ LS rStr 1 16 wr A' (uniqS (stL (((ofL (dd es) V).take k).filter (fun p => stateOf (dd es) p ex == 3)))).length c' (uniqS (stL (((ofL (dd es) V).take k).filter (fun p => stateOf (dd es) p ex == 3))))) ∧ Hid (Below w4.heap.size w4 wr)) (fun _ iv _ => N - (intOf iv).toNat)
  case atStart => exact ⟨0, _, by omega, rfl, rfl, Lib.hid ⟨none, 0, rfl, LS.nil⟩, Lib.hid (Below.refl _ _)⟩
  case round =>
    obtain ⟨k, v, hk, rfl, rfl, hv, hb⟩ := hrel
    obtain ⟨wx, hwx⟩ : ∃ x, x = wr := ⟨_, rfl⟩
    rw [← hwx] at hv hb ⊢
    clear hwx
    obtain ⟨U, hU⟩ : ∃ U, U = uniqS (stL (((ofL (dd es) V).take k).filter (fun p => stateOf (dd es) p ex == 3))) := ⟨_, rfl⟩
    have HUL : Hid (U.length ≤ 30720) := Lib.hid (by rw [hU]; exact un_len _ k HPL.out)
    have HUD := Lib.hid hU
    have hv1 := hv.out
    rw [← hU] at hv1
    obtain ⟨A', c', rfl, hls⟩ := hv1
    obtain ⟨r, hr⟩ : ∃ r, r = U.length := ⟨_, rfl⟩
    have HRL := Lib.hid hr
    rw [← hr] at hls HUL ⊢
    have HU := Lib.hid hls
    clear hv hU hls hr
    have HBx := Lib.hid (below_thenB HB4.out HB4.out.size hb.out)
    by_cases hlt : k < N
    · obtain ⟨x, g, o, cs, hs, ea, hat, hrd⟩ := HL4.out.at_ stay_ppt hb.out hlt
      have HR := Lib.hid hrd.1
      have HIN : Hid (x ∈ ofL (dd es) V) := Lib.hid (mem_of hs)
      have HXV : Hid (validB x = true) := Lib.hid (ofL_valid (mem_of hs))
      obtain ⟨⟨A1, n1, c1, A2, n2, c2, rfl, h1, h2, _⟩, _⟩ := hrd
      have HA := Lib.hid hat
      have HW1 := Lib.hid h1
      have HW2 := Lib.hid h2
      have HSS : Hid (n2 ≤ 1024) := Lib.hid (by have := (valid_ss HXV.out).1; have := h2.1; omega)
      have HSTEP := Lib.hid (un_step (dd es) V (fun p => stateOf (dd es) p ex == 3) hs)
      subst ea
      clear hs hat h1 h2
      cases ez : (fun p => stateOf (dd es) p ex == 3) x with
      | false =>
        try dsimp only at ez
        have HUK : Hid (uniqS (stL (((ofL (dd es) V).take (k + 1)).filter (fun p => stateOf (dd es) p ex == 3))) = U) := Lib.hid (by rw [HSTEP.out, ez, ← HUD.out]; rfl)
        obtain ⟨z, hz⟩ : ∃ z, z = stateOf (dd es) x ex := ⟨_, rfl⟩
        have f3 : (z == 3) = false := by rw [hz]; exact ez
        have HZ := Lib.hid hz
        clear hz ez
        go_wp2_with (first
          | ((with_reducible show wpList _ _ _ (⟨some 17, _, _, _, _, _⟩ :: _) _ _); refine wpList_loadv _ rfl 40 (.tmp 16) rfl 5 (by kernel_rfl) g (o + k * 5) (ppC x A1 n1 c1 A2 n2 c2) (by go_simp) HA.out rfl ?_)
          | ((with_reducible show wpList _ _ _ (⟨some 9, _, _, _, _, _⟩ :: _) _ _); refine wpList_alloc _ rfl 40 rfl ppZ rpZero ?_; intro w5 a1 a2 a3; have HV5 := Lib.hid a1; have HX5 := Lib.hid a2; clear a1 a2 a3)
          | ((with_reducible show wpList _ _ _ (⟨none, _, _, _, _, _⟩ :: _) _ _); refine wpList_storev _ rfl 40 (.tmp 9) (.tmp 17) rfl 5 (by kernel_rfl) wx.heap.size 0 _ ppZ (ppC x A1 n1 c1 A2 n2 c2) rfl rfl HV5.out rfl (one_pp _ _ _ _ _ _ _) (by decide) ?_; intro w6 a1 a2 a3; have HV6 : Hid (BL w6 wx.heap.size 40 (ppC x A1 n1 c1 A2 n2 c2)) := Lib.hid a1; have HX6 : Hid (Below wx.heap.size wx w6) := Lib.hid (low_kp HX5.out a2 (fun i hi e => by omega)); have q0 := HV6.out.get (j := 0) rfl; have q3 := HV6.out.get (j := 3) rfl; have q4 := HV6.out.get (j := 4) rfl; clear a1 a2 a3)
          | ((with_reducible show wpList _ _ _ (⟨some 19, _, _, _, _, _⟩ :: _) _ _); refine wpList_loadv _ rfl 40 (.tmp 9) rfl 5 (by kernel_rfl) wx.heap.size 0 (ppC x A1 n1 c1 A2 n2 c2) rfl (BL.all HV6.out) rfl ?_)
          | (go_at_call 48; refine (rstate_any A n c es _ x B m d ex w6 (H.out.kept stay_en (below_thenB HBx.out HBx.out.size HX6.out)) HN30.out (stay_pp _ _ _ _ HR.out HX6.out) HXV.out (HEX.out.kept stay_int (below_thenB HBx.out HBx.out.size HX6.out))).mono ?_; rintro e w7 ⟨rfl, b4⟩; rw [← HZ.out]; have HX7 := Lib.hid (below_then HX6.out b4); clear b4))
        go_roundw
        case rel => exact ⟨k + 1, _, by omega, by go_num, rfl, Lib.hid (by rw [HUK.out, ← HRL.out]; exact ⟨_, _, rfl, HU.out.kept stay_str (HX7).out⟩), Lib.hid (below_thenB hb.out hb.out.size (HX7).out)⟩
        case measure => simp [intOf]; omega
      | true =>
        try dsimp only at ez
        have HUK : Hid (uniqS (stL (((ofL (dd es) V).take (k + 1)).filter (fun p => stateOf (dd es) p ex == 3))) = x.ss.foldl addS U) := Lib.hid (by rw [HSTEP.out, ez, ← HUD.out]; rfl)
        obtain ⟨U2, hU2⟩ : ∃ U9, U9 = x.ss.foldl addS U := ⟨_, rfl⟩
        rw [← hU2] at HUK
        have HU2 : Hid (x.ss.foldl addS U = U2) := Lib.hid hU2.symm
        clear hU2
        obtain ⟨z, hz⟩ : ∃ z, z = stateOf (dd es) x ex := ⟨_, rfl⟩
        have f3 : (z == 3) = true := by rw [hz]; exact ez
        have HZ := Lib.hid hz
        clear hz ez
        go_wp2_with (first
          | ((with_reducible show wpList _ _ _ (⟨some 17, _, _, _, _, _⟩ :: _) _ _); refine wpList_loadv _ rfl 40 (.tmp 16) rfl 5 (by kernel_rfl) g (o + k * 5) (ppC x A1 n1 c1 A2 n2 c2) (by go_simp) HA.out rfl ?_)
          | ((with_reducible show wpList _ _ _ (⟨some 9, _, _, _, _, _⟩ :: _) _ _); refine wpList_alloc _ rfl 40 rfl ppZ rpZero ?_; intro w5 a1 a2 a3; have HV5 := Lib.hid a1; have HX5 := Lib.hid a2; clear a1 a2 a3)
          | ((with_reducible show wpList _ _ _ (⟨none, _, _, _, _, _⟩ :: _) _ _); refine wpList_storev _ rfl 40 (.tmp 9) (.tmp 17) rfl 5 (by kernel_rfl) wx.heap.size 0 _ ppZ (ppC x A1 n1 c1 A2 n2 c2) rfl rfl HV5.out rfl (one_pp _ _ _ _ _ _ _) (by decide) ?_; intro w6 a1 a2 a3; have HV6 : Hid (BL w6 wx.heap.size 40 (ppC x A1 n1 c1 A2 n2 c2)) := Lib.hid a1; have HX6 : Hid (Below wx.heap.size wx w6) := Lib.hid (low_kp HX5.out a2 (fun i hi e => by omega)); have q0 := HV6.out.get (j := 0) rfl; have q3 := HV6.out.get (j := 3) rfl; have q4 := HV6.out.get (j := 4) rfl; clear a1 a2 a3)
          | ((with_reducible show wpList _ _ _ (⟨some 19, _, _, _, _, _⟩ :: _) _ _); refine wpList_loadv _ rfl 40 (.tmp 9) rfl 5 (by kernel_rfl) wx.heap.size 0 (ppC x A1 n1 c1 A2 n2 c2) rfl (BL.all HV6.out) rfl ?_)
          | (go_at_call 48; refine (rstate_any A n c es _ x B m d ex w6 (H.out.kept stay_en (below_thenB HBx.out HBx.out.size HX6.out)) HN30.out (stay_pp _ _ _ _ HR.out HX6.out) HXV.out (HEX.out.kept stay_int (below_thenB HBx.out HBx.out.size HX6.out))).mono ?_; rintro e w7 ⟨rfl, b4⟩; rw [← HZ.out]; have HX7 := Lib.hid (below_then HX6.out b4); have q4 := (HV6.out.kept b4).get (j := 4) rfl; clear b4)
          | (go_at_call 25; refine (add_any A' r c' U A2 n2 c2 x.ss w7 (HU.out.kept stay_str (HX7).out) (HW2.out.kept stay_str (HX7).out) (by have := HUL.out; have := HSS.out; omega)).mono ?_; rw [HU2.out]; rintro e w8 ⟨A8, c8, rfl, x1, x3⟩; have HU8 := Lib.hid x1; have HX8 := Lib.hid (below_then (HX7).out x3); clear x1 x3)
          | fail)
        go_roundw
        case rel => exact ⟨k + 1, _, by omega, by go_num, rfl, Lib.hid (by rw [HUK.out]; exact ⟨_, _, rfl, HU8.out⟩), Lib.hid (below_thenB hb.out hb.out.size HX8.out)⟩
        case measure => simp [intOf]; omega
    · obtain rfl : k = N := by omega
      have HE : Hid (U = dropL (dd es) V ex) := Lib.hid (by rw [HUD.out, take_end HLN.out]; rfl)
      go_wp2_with fail
      go_ret
      rw [← HE.out]
      exact ⟨A', c', by rw [HRL.out]; rfl, by rw [← HRL.out]; exact HU.out, HBx.out⟩
end
end Go.Proofs.YtfonbliomokffaaGreat
