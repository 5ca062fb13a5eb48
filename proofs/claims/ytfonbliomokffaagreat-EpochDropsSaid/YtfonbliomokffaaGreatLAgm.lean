/- The walk of EpochAgrees. -/
import Derived.Test.YtfonbliomokffaaGreatAdm
import Derived.Test.YtfonbliomokffaaGreatLUnm
namespace Go.Proofs.YtfonbliomokffaaGreat
open Go Go.RowKit Gf Sha

theorem ag_mem {D : List En} {V : Int} {ex : List Int} {p : Pp} {u : Int} {s : List UInt8} (hp : p ∈ ofL D V) (h3 : stateOf D p ex = 3) (hu : u ∈ p.ws) (he : ex.contains u = false) (hs : s ∈ p.ss) : s ∈ condL D V u := by
  refine strL_mem.2 ⟨p, hp, ?_, hs⟩
  unfold condN
  cases hd : (p.dev == u) with
  | true => rfl
  | false =>
    have ha : asks p ex u = true := by
      unfold asks
      rw [he, Bool.or_false, Bool.not_eq_true']
      rw [beq_eq_false_iff_ne] at hd ⊢
      exact fun e => hd e.symm
    rw [state_3.1 h3 u hu ha]
    simp
theorem un_step (D : List En) (V : Int) (q : Pp → Bool) {k : Nat} {x : Pp} (h : (ofL D V)[k]? = some x) : uniqS (stL (((ofL D V).take (k + 1)).filter q)) = (if q x then x.ss else []).foldl addS (uniqS (stL (((ofL D V).take k).filter q))) := by
  rw [stL_step h, uniqS, List.foldl_append]; rfl
theorem un_len {D : List En} {V : Int} (q : Pp → Bool) (k : Nat) (h : (ppL D).length ≤ 30) : (uniqS (stL (((ofL D V).take k).filter q))).length ≤ 30720 := by
  have h1 := uniq_len (stL (((ofL D V).take k).filter q))
  have h2 := stL_len (L := ((ofL D V).take k).filter q) (fun p hp => ofL_valid (List.mem_of_mem_take (List.mem_filter.1 hp).1))
  have h3 := List.length_filter_le q ((ofL D V).take k)
  have h4 : ((ofL D V).take k).length ≤ (ofL D V).length := by rw [List.length_take]; omega
  have h5 : (ofL D V).length ≤ (ppL D).length := List.length_filter_le _ _
  omega
theorem stR_of {D : List En} {V : Int} {p : Pp} {ex : List Int} (hp : p ∈ ofL D V) : stR D p ex = #[.int .i64 (stateOf D p ex), .int .i64 0] :=
  stR_yes (List.any_eq_true.2 ⟨p, (ofL_mem.1 hp).1, (ppEq_iff _ _).2 rfl⟩)
section
set_option maxRecDepth 100000
set_option maxHeartbeats 2000000
theorem agrees_walk (A : Option Addr) (n c : Nat) (es : List En) (B : Option Addr) (m d : Nat) (ex : List Int) (V : Int) (w : World) (h : LS rEn 6 72 w A n c es) (hex : LS rInt 1 8 w B m d ex) :
    Calls Tryz.prog 7 #[.slice A n c, .slice B m d, .int .i64 V] w fun e w' => e = .returned (.bool true) ∧ Below w.heap.size w w' := by
  have hn := h.len_le
  have hm := hex.len_le
  have H := Lib.hid h
  have HL := Lib.hid h.1
  have HEX := Lib.hid hex
  clear h hex
  cases hl : longB es with
  | true =>
    go_enter Tryz.func7, Tryz.ntmps7
    go_wp2_with (first
      | (go_at_call 9; refine (awake_any _).mono ?_; rintro e w1 ⟨rfl, b1⟩; have HB1 := Lib.hid b1; clear b1)
      | (go_at_call 10; refine (long_any A n c es w1 (H.out.kept stay_en HB1.out)).mono ?_; rintro e w2 ⟨rfl, b1⟩; rw [hl]; have HB2 := Lib.hid (below_then HB1.out b1); clear b1))
    go_ret
    exact ⟨rfl, HB2.out⟩
  | false =>
    have HN30 : Hid (n ≤ 30) := Lib.hid (by have := unB_len hl; have := HL.out; omega)
    cases hx : decide ((20 : Int) < (m : Int)) with
    | true =>
      go_enter Tryz.func7, Tryz.ntmps7
      go_wp2_with (first
        | (go_at_call 9; refine (awake_any _).mono ?_; rintro e w1 ⟨rfl, b1⟩; have HB1 := Lib.hid b1; clear b1)
        | (go_at_call 10; refine (long_any A n c es w1 (H.out.kept stay_en HB1.out)).mono ?_; rintro e w2 ⟨rfl, b1⟩; rw [hl]; have HB2 := Lib.hid (below_then HB1.out b1); clear b1))
      go_ret
      exact ⟨rfl, HB2.out⟩
    | false =>
      have HN1 : Hid (n ≤ 2000) := Lib.hid (by have := HN30.out; omega)
      have HPL : Hid ((ppL (dd es)).length ≤ 30) := Lib.hid (by have := ppl_len es; have := HL.out; have := HN30.out; omega)
      obtain ⟨S0, hS0⟩ : ∃ S, S = dropL (dd es) V ex := ⟨_, rfl⟩
      have HS0 : Hid (dropL (dd es) V ex = S0) := Lib.hid hS0.symm
      clear hS0
      go_enter Tryz.func7, Tryz.ntmps7
      go_wp2_with (first
        | (go_at_call 9; refine (awake_any _).mono ?_; rintro e w1 ⟨rfl, b1⟩; have HB1 := Lib.hid b1; clear b1)
        | (go_at_call 10; refine (long_any A n c es w1 (H.out.kept stay_en HB1.out)).mono ?_; rintro e w2 ⟨rfl, b1⟩; rw [hl]; have HB2 := Lib.hid (below_then HB1.out b1); clear b1)
        | (go_at_call 14; refine (dropped_any A n c es V B m d ex w2 (H.out.kept stay_en HB2.out) HN1.out (HEX.out.kept stay_int HB2.out)).mono ?_; unfold StrN; rw [HS0.out]; rintro e w3 ⟨A3, c3, rfl, x1, _, x3⟩; have HD3 := Lib.hid x1; have HB3 := Lib.hid (below_then HB2.out x3); clear x1 x3)
        | (go_at_call 23; refine (proposals_any A n c es V w3 (H.out.kept stay_en HB3.out) HN1.out).mono ?_; rintro e w4 ⟨A4, n4, c4, rfl, x1, _, x3⟩; have HL4 := Lib.hid (x1.valid (fun p hp => ofL_valid hp)).1; have HLN := Lib.hid x1.1.1; have hn4 := x1.1.len_le; have HD4 := Lib.hid (HD3.out.kept stay_str x3); have HB4 := Lib.hid (below_then HB3.out x3); clear x1 x3))
      clear hl hx
      go_loopw [8, 35] (fun uv iv wr => ∃ (k : Nat) (v : Value), k ≤ n4 ∧ iv = .int .i64 (k : Int) ∧ v = uv ∧ Hid (∃ A' c', v = .slice A' (uniqS (stL (((ofL (dd es) V).take k).filter fun p => stateOf (dd es) p ex == 3))).length c' ∧ LS rStr 1 16 wr A' (uniqS (stL (((ofL (dd es) V).take k).filter fun p => stateOf (dd es) p ex == 3))).length c' (uniqS (stL (((ofL (dd es) V).take k).filter fun p => stateOf (dd es) p ex == 3)))) ∧ Hid (Below w4.heap.size w4 wr)) (fun _ iv _ => n4 - (intOf iv).toNat)
      case atStart => exact ⟨0, _, by omega, rfl, rfl, Lib.hid ⟨none, 0, rfl, LS.nil⟩, Lib.hid (Below.refl _ _)⟩
      case round =>
        obtain ⟨k, v, hk, rfl, rfl, hv, hb⟩ := hrel
        obtain ⟨wx, hwx⟩ : ∃ x, x = wr := ⟨_, rfl⟩
        rw [← hwx] at hv hb ⊢
        clear hwx
        obtain ⟨U, hU⟩ : ∃ U, U = uniqS (stL (((ofL (dd es) V).take k).filter fun p => stateOf (dd es) p ex == 3)) := ⟨_, rfl⟩
        have HUL : Hid (U.length ≤ 30720) := Lib.hid (by rw [hU]; exact un_len _ k HPL.out)
        have HUD := Lib.hid hU
        have hv1 := hv.out
        rw [← hU] at hv1
        obtain ⟨A', c', rfl, hls⟩ := hv1
        obtain ⟨r, hr⟩ : ∃ r, r = U.length := ⟨_, rfl⟩
        have HRL := Lib.hid hr
        rw [← hr] at hls HUL ⊢
        have HU := Lib.hid hls
        clear hv hU hls hr
        have HBx := Lib.hid (below_thenB HB4.out HB4.out.size hb.out)
        by_cases hlt : k < n4
        · obtain ⟨x, g, o, cs, hs, ea, hat, hrd⟩ := HL4.out.at_ stay_ppv hb.out hlt
          have HR := Lib.hid hrd.1.1
          have HXV := Lib.hid hrd.2
          obtain ⟨⟨⟨A1, n1, c1, A2, n2, c2, rfl, h1, h2, _⟩, _⟩, _⟩ := hrd
          have HX := Lib.hid hs
          have HA := Lib.hid hat
          have HW1 := Lib.hid h1
          have HW2 := Lib.hid h2
          have hn1 := h1.len_le
          have hn2 := h2.len_le
          have HIN : Hid (x ∈ ofL (dd es) V) := Lib.hid (mem_of hs)
          have HSS : Hid (n2 ≤ 1024) := Lib.hid (by have := (valid_ss HXV.out).1; have := h2.1; omega)
          have HSTEP := Lib.hid (un_step (dd es) V (fun p => stateOf (dd es) p ex == 3) hs)
          obtain ⟨z, hz⟩ : ∃ z, z = stateOf (dd es) x ex := ⟨_, rfl⟩
          have HZ : Hid (stateOf (dd es) x ex = z) := Lib.hid hz.symm
          subst ea
          clear hs hat h1 h2 hz
          cases ez : (z == 3) with
          | false =>
            have HUK : Hid (uniqS (stL (((ofL (dd es) V).take (k + 1)).filter fun p => stateOf (dd es) p ex == 3)) = U) := Lib.hid (by rw [HSTEP.out, HZ.out, ez, ← HUD.out]; rfl)
            have ez' : (z != 3) = true := by rw [bne, ez]; rfl
            go_wp2_with (first
              | ((with_reducible show wpList _ _ _ (⟨some 38, _, _, _, _, _⟩ :: _) _ _); refine wpList_loadv _ rfl 42 (.tmp 37) rfl 5 (by kernel_rfl) g (o + k * 5) (ppC x A1 n1 c1 A2 n2 c2) (by go_simp) HA.out rfl ?_)
              | ((with_reducible show wpList _ _ _ (⟨some 10, _, _, _, _, _⟩ :: _) _ _); refine wpList_alloc _ rfl 42 rfl ppZ ppZero ?_; intro w5 a1 a2 a3; have HV5 := Lib.hid a1; have HX5 := Lib.hid a2; clear a1 a2 a3)
              | ((with_reducible show wpList _ _ _ (⟨none, _, _, _, _, _⟩ :: _) _ _); refine wpList_storev _ rfl 42 (.tmp 10) (.tmp 38) rfl 5 (by kernel_rfl) wx.heap.size 0 _ ppZ (ppC x A1 n1 c1 A2 n2 c2) rfl rfl HV5.out rfl (one_val _ rfl) (by decide) ?_; intro w6 a1 a2 a3; have HV6 : Hid (BL w6 wx.heap.size 42 (ppC x A1 n1 c1 A2 n2 c2)) := Lib.hid a1; have HX6 : Hid (Below wx.heap.size wx w6) := Lib.hid (low_kp HX5.out a2 (fun i hi e => by omega)); clear a1 a2 a3)
              | ((with_reducible show wpList _ _ _ (⟨some 41, _, _, _, _, _⟩ :: _) _ _); refine wpList_loadv _ rfl 42 (.tmp 10) rfl 5 (by kernel_rfl) wx.heap.size 0 (ppC x A1 n1 c1 A2 n2 c2) rfl (BL.all HV6.out) rfl ?_)
              | (go_at_call 24; refine (State_any A n c es _ x B m d ex w6 (H.out.kept stay_en (below_thenB HBx.out HBx.out.size HX6.out)) HN1.out (stay_pp _ _ _ _ HR.out HX6.out) (HEX.out.kept stay_int (below_thenB HBx.out HBx.out.size HX6.out))).mono ?_; rw [stR_of HIN.out, HZ.out]; rintro e w7 ⟨rfl, bl⟩; have q3 := (HV6.out.kept bl).get (j := 3) rfl; have q4 := (HV6.out.kept bl).get (j := 4) rfl; have HX7 := Lib.hid (below_then HX6.out bl); have HV7 := Lib.hid (HV6.out.kept bl); clear bl)
              | fail)
            go_roundw
            case rel => exact ⟨k + 1, _, by omega, by go_num, rfl, Lib.hid (by rw [HUK.out, ← HRL.out]; exact ⟨_, _, rfl, HU.out.kept stay_str HX7.out⟩), Lib.hid (below_thenB hb.out hb.out.size HX7.out)⟩
            case measure => simp [intOf]; omega
          | true =>
            have HUK : Hid (uniqS (stL (((ofL (dd es) V).take (k + 1)).filter fun p => stateOf (dd es) p ex == 3)) = x.ss.foldl addS U) := Lib.hid (by rw [HSTEP.out, HZ.out, ez, ← HUD.out]; rfl)
            have ez' : (z != 3) = false := by rw [bne, ez]; rfl
            have HZ3 : Hid (stateOf (dd es) x ex = 3) := Lib.hid (by rw [HZ.out]; exact beq_iff_eq.1 ez)
            obtain ⟨U2, hU2⟩ : ∃ U9, U9 = x.ss.foldl addS U := ⟨_, rfl⟩
            rw [← hU2] at HUK
            have HU2 : Hid (x.ss.foldl addS U = U2) := Lib.hid hU2.symm
            clear hU2
            go_wp2_with (first
              | ((with_reducible show wpList _ _ _ (⟨some 38, _, _, _, _, _⟩ :: _) _ _); refine wpList_loadv _ rfl 42 (.tmp 37) rfl 5 (by kernel_rfl) g (o + k * 5) (ppC x A1 n1 c1 A2 n2 c2) (by go_simp) HA.out rfl ?_)
              | ((with_reducible show wpList _ _ _ (⟨some 10, _, _, _, _, _⟩ :: _) _ _); refine wpList_alloc _ rfl 42 rfl ppZ ppZero ?_; intro w5 a1 a2 a3; have HV5 := Lib.hid a1; have HX5 := Lib.hid a2; clear a1 a2 a3)
              | ((with_reducible show wpList _ _ _ (⟨none, _, _, _, _, _⟩ :: _) _ _); refine wpList_storev _ rfl 42 (.tmp 10) (.tmp 38) rfl 5 (by kernel_rfl) wx.heap.size 0 _ ppZ (ppC x A1 n1 c1 A2 n2 c2) rfl rfl HV5.out rfl (one_val _ rfl) (by decide) ?_; intro w6 a1 a2 a3; have HV6 : Hid (BL w6 wx.heap.size 42 (ppC x A1 n1 c1 A2 n2 c2)) := Lib.hid a1; have HX6 : Hid (Below wx.heap.size wx w6) := Lib.hid (low_kp HX5.out a2 (fun i hi e => by omega)); clear a1 a2 a3)
              | ((with_reducible show wpList _ _ _ (⟨some 41, _, _, _, _, _⟩ :: _) _ _); refine wpList_loadv _ rfl 42 (.tmp 10) rfl 5 (by kernel_rfl) wx.heap.size 0 (ppC x A1 n1 c1 A2 n2 c2) rfl (BL.all HV6.out) rfl ?_)
              | (go_at_call 24; refine (State_any A n c es _ x B m d ex w6 (H.out.kept stay_en (below_thenB HBx.out HBx.out.size HX6.out)) HN1.out (stay_pp _ _ _ _ HR.out HX6.out) (HEX.out.kept stay_int (below_thenB HBx.out HBx.out.size HX6.out))).mono ?_; rw [stR_of HIN.out, HZ.out]; rintro e w7 ⟨rfl, bl⟩; have q3 := (HV6.out.kept bl).get (j := 3) rfl; have q4 := (HV6.out.kept bl).get (j := 4) rfl; have HX7 := Lib.hid (below_then HX6.out bl); have HV7 := Lib.hid (HV6.out.kept bl); clear bl)
              | (go_at_call 25; refine (add_any A' r c' U A2 n2 c2 x.ss w7 (HU.out.kept stay_str HX7.out) (HW2.out.kept stay_str HX7.out) (by have := HUL.out; have := HSS.out; omega)).mono ?_; rw [HU2.out]; rintro e w8 ⟨A8, c8, rfl, x1, x3⟩; have HU8 := Lib.hid x1; have HX8 := Lib.hid (below_then HX7.out x3); have HV8 := Lib.hid (HV7.out.kept x3); have q3 := (HV7.out.kept x3).get (j := 3) rfl; clear x1 x3))
            go_loopw [57] (fun iv wr => ∃ i : Nat, i ≤ n1 ∧ iv = .int .i64 (i : Int) ∧ Hid (Below w8.heap.size w8 wr)) (fun iv _ => n1 - (intOf iv).toNat)
            case atStart => exact ⟨0, by omega, rfl, Lib.hid (Below.refl _ _)⟩
            case round =>
              obtain ⟨i, hi, rfl, hb8⟩ := hrel
              obtain ⟨wy, hwy⟩ : ∃ x, x = wr := ⟨_, rfl⟩
              rw [← hwy] at hb8 ⊢
              clear hwy
              have HXy : Hid (Below wx.heap.size wx wy) := Lib.hid (below_then HX8.out hb8.out)
              have HBy : Hid (Below w.heap.size w wy) := Lib.hid (below_thenB HBx.out HBx.out.size HXy.out)
              by_cases hin : i < n1
              · obtain ⟨u, gu, ou, hsu, eu, p0⟩ := HW1.out.int_at HXy.out hin
                have HUI : Hid (u ∈ x.ws) := Lib.hid (mem_of hsu)
                have HWU : Hid (wfI u) := Lib.hid (HW1.out.int_ok hsu)
                subst eu
                clear hsu
                cases ec : ex.contains u with
                | true =>
                  go_wp2_with (first
                    | (go_at_call 26; refine (member_any B m d ex u wy (HEX.out.kept stay_int HBy.out)).mono ?_; rintro e w9 ⟨rfl, hw⟩; rw [hw, ec]; clear hw w9))
                  go_roundw
                  case rel => exact ⟨i + 1, by omega, by go_num, hb8⟩
                  case measure => simp [intOf]; omega
                | false =>
                  obtain ⟨S9, hS9⟩ : ∃ S, S = condL (dd es) V u := ⟨_, rfl⟩
                  have HS9 : Hid (condL (dd es) V u = S9) := Lib.hid hS9.symm
                  have HALL : Hid (∀ s ∈ x.ss, hasB S9 s = true) := Lib.hid (fun s hs => by rw [hS9]; exact (hasB_iff _ _).2 (ag_mem HIN.out HZ3.out HUI.out ec hs))
                  clear hS9
                  go_wp2_with (first
                    | (go_at_call 26; refine (member_any B m d ex u wy (HEX.out.kept stay_int HBy.out)).mono ?_; rintro e w9 ⟨rfl, hw⟩; rw [hw, ec]; clear hw w9)
                    | (go_at_call 12; refine (condemned_any A n c es V u wy (H.out.kept stay_en HBy.out) HN1.out HWU.out).mono ?_; unfold StrN; rw [HS9.out]; rintro e w10 ⟨A10, c10, rfl, x1, _, x3⟩; have HC10 := Lib.hid x1; have HX10 := Lib.hid x3; have q5 := (HV8.out.kept (below_then hb8.out x3)).get (j := 4) rfl; clear x1 x3))
                  go_loopw [71] (fun iv wr => ∃ t : Nat, t ≤ n2 ∧ iv = .int .i64 (t : Int) ∧ wr = w10) (fun iv _ => n2 - (intOf iv).toNat)
                  case atStart => exact ⟨0, by omega, rfl, rfl⟩
                  case round =>
                    obtain ⟨t, ht, rfl, rfl⟩ := hrel
                    by_cases htn : t < n2
                    · obtain ⟨s, gs, os, hss, es', p1⟩ := HW2.out.str_at (below_then HXy.out HX10.out) htn
                      have HHS := Lib.hid (HALL.out s (mem_of hss))
                      subst es'
                      clear hss
                      go_wp2_with (first
                        | (go_at_call 17; refine (has_any _ _ _ S9 s _ HC10.out).mono ?_; rintro e w11 ⟨rfl, hw⟩; rw [hw, HHS.out]; clear hw w11))
                      go_roundw
                      case rel => exact ⟨t + 1, by omega, by go_num, trivial⟩
                      case measure => simp [intOf]; omega
                    · obtain rfl : t = n2 := by omega
                      go_wp2_with fail
                      go_roundw
                      case rel => exact ⟨i + 1, by omega, by go_num, Lib.hid (below_then hb8.out HX10.out)⟩
                      case measure => simp [intOf]; omega
              · obtain rfl : i = n1 := by omega
                go_wp2_with fail
                go_roundw
                case rel => exact ⟨k + 1, _, by omega, by go_num, rfl, Lib.hid (by rw [HUK.out]; exact ⟨_, _, rfl, HU8.out.kept stay_str hb8.out⟩), Lib.hid (below_thenB hb.out hb.out.size HXy.out)⟩
                case measure => simp [intOf]; omega
        · obtain rfl : k = n4 := by omega
          have HE : Hid (U = S0) := Lib.hid (by rw [HUD.out, take_end HLN.out, ← HS0.out]; rfl)
          go_wp2_with (first
            | (go_at_call 11; refine (same_any A' r c' U A3 _ c3 S0 wx HU.out (HD4.out.kept stay_str hb.out)).mono ?_; rw [decide_eq_true HE.out]; rintro e w9 ⟨rfl, x3⟩; have HB9 := Lib.hid (below_thenB HBx.out HBx.out.size x3); clear x3))
          go_ret
          exact ⟨rfl, HB9.out⟩
end
end Go.Proofs.YtfonbliomokffaaGreat
