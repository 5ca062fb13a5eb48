/- The walk of EpochDrops. -/
import Derived.Test.YtfonbliomokffaaGreatTxm
namespace Go.Proofs.YtfonbliomokffaaGreat
open Go Go.RowKit Gf Sha

section
set_option maxRecDepth 100000
set_option maxHeartbeats 2000000
theorem drops_walk (A : Option Addr) (n c : Nat) (es : List En) (B : Option Addr) (m d : Nat) (ex : List Int) (V u : Int) (w : World) (h : LS rEn 6 72 w A n c es) (hex : LS rInt 1 8 w B m d ex) (hu : wfI u) :
    Calls Tryz.prog 3 #[.slice A n c, .slice B m d, .int .i64 V, .int .i64 u] w fun e w' => e = .returned (.bool true) ∧ Below w.heap.size w w' := by
  have hn := h.len_le
  have hm := hex.len_le
  have H := Lib.hid h
  have HL := Lib.hid h.1
  have HEX := Lib.hid hex
  have HU := Lib.hid hu
  clear h hex hu
  cases hl : longB es with
  | true =>
    go_enter Tryz.func3, Tryz.ntmps3
    go_wp2_with (first
      | (go_at_call 9; refine (awake_any _).mono ?_; rintro e w1 ⟨rfl, b1⟩; have HB1 := Lib.hid b1; clear b1)
      | (go_at_call 10; refine (long_any A n c es w1 (H.out.kept stay_en HB1.out)).mono ?_; rintro e w2 ⟨rfl, b1⟩; rw [hl]; have HB2 := Lib.hid (below_then HB1.out b1); clear b1)
      | fail)
    go_ret
    exact ⟨rfl, HB2.out⟩
  | false =>
    have HN30 : Hid (n ≤ 30) := Lib.hid (by have := unB_len hl; have := HL.out; omega)
    cases hx : decide ((20 : Int) < (m : Int)) with
    | true =>
      go_enter Tryz.func3, Tryz.ntmps3
      go_wp2_with (first
        | (go_at_call 9; refine (awake_any _).mono ?_; rintro e w1 ⟨rfl, b1⟩; have HB1 := Lib.hid b1; clear b1)
        | (go_at_call 10; refine (long_any A n c es w1 (H.out.kept stay_en HB1.out)).mono ?_; rintro e w2 ⟨rfl, b1⟩; rw [hl]; have HB2 := Lib.hid (below_then HB1.out b1); clear b1)
        | fail)
      go_ret
      exact ⟨rfl, HB2.out⟩
    | false =>
      have HN1 : Hid (n ≤ 2000) := Lib.hid (by have := HN30.out; omega)
      have HN2 : Hid (n ≤ 10000) := Lib.hid (by have := HN30.out; omega)
      have HPL : Hid ((ppL (dd es)).length ≤ 30) := Lib.hid (by have := ppl_len es; have := HL.out; have := HN30.out; omega)
      obtain ⟨C0, hC0⟩ : ∃ S, S = condL (dd es) V u := ⟨_, rfl⟩
      have HC0 : Hid (condL (dd es) V u = C0) := Lib.hid hC0.symm
      obtain ⟨S0, hS0⟩ : ∃ S, S = dropL (dd es) V ex := ⟨_, rfl⟩
      have HS0 : Hid (dropL (dd es) V ex = S0) := Lib.hid hS0.symm
      clear hS0 hC0
      go_enter Tryz.func3, Tryz.ntmps3
      go_wp2_with (first
        | (go_at_call 9; refine (awake_any _).mono ?_; rintro e w1 ⟨rfl, b1⟩; have HB1 := Lib.hid b1; clear b1)
        | (go_at_call 10; refine (long_any A n c es w1 (H.out.kept stay_en HB1.out)).mono ?_; rintro e w2 ⟨rfl, b1⟩; rw [hl]; have HB2 := Lib.hid (below_then HB1.out b1); clear b1)
        | (go_at_call 12; refine (condemned_any A n c es V u w2 (H.out.kept stay_en HB2.out) HN1.out HU.out).mono ?_; unfold StrN; rw [HC0.out]; rintro e w3 ⟨A3, c3, rfl, x1, _, x3⟩; have HD3 := Lib.hid x1; have HB3 := Lib.hid (below_then HB2.out x3); clear x1 x3)
        | (go_at_call 13; refine (rcondemned_any A n c es V u w3 (H.out.kept stay_en HB3.out) HN2.out HPL.out).mono ?_; rw [HC0.out]; rintro e w4 ⟨A4, c4, rfl, x1, x3⟩; have HD4 := Lib.hid x1; have HE4 := Lib.hid (HD3.out.kept stay_str x3); have HB4 := Lib.hid (below_then HB3.out x3); clear x1 x3)
        | (go_at_call 11; (with_reducible show Calls _ _ _ w4 _); refine (same_any A3 _ c3 C0 A4 _ c4 C0 w4 HE4.out HD4.out).mono ?_; rw [decide_eq_true (rfl : C0 = C0)]; rintro e w5 ⟨rfl, x3⟩; have HB5 := Lib.hid (below_then HB4.out x3); clear x3)
        | (go_at_call 14; refine (dropped_any A n c es V B m d ex w5 (H.out.kept stay_en HB5.out) HN1.out (HEX.out.kept stay_int HB5.out)).mono ?_; unfold StrN; rw [HS0.out]; rintro e w6 ⟨A6, c6, rfl, x1, _, x3⟩; have HD6 := Lib.hid x1; have HB6 := Lib.hid (below_then HB5.out x3); clear x1 x3)
        | (go_at_call 15; refine (rdropped_any A n c es V B m d ex w6 (H.out.kept stay_en HB6.out) HN2.out HPL.out (HEX.out.kept stay_int HB6.out)).mono ?_; rw [HS0.out]; rintro e w7 ⟨A7, c7, rfl, x1, x3⟩; have HD7 := Lib.hid x1; have HE7 := Lib.hid (HD6.out.kept stay_str x3); have HB7 := Lib.hid (below_then HB6.out x3); clear x1 x3)
        | (go_at_call 11; (with_reducible show Calls _ _ _ w7 _); refine (same_any A6 _ c6 S0 A7 _ c7 S0 w7 HE7.out HD7.out).mono ?_; rw [decide_eq_true (rfl : S0 = S0)]; rintro e w8 ⟨rfl, x3⟩; have HB8 := Lib.hid (below_then HB7.out x3); clear x3))
      go_ret
      exact ⟨rfl, HB8.out⟩
end
end Go.Proofs.YtfonbliomokffaaGreat
