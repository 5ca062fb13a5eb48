/- ReedsolomonTotals: the walk. -/
import Derived.Test.YtoeeklkebcgmaaaAwk
import Derived.Test.YtoeeklkebcgmaaaRf5
import Derived.Test.YtoeeklkebcgmaaaText3
namespace Go.Proofs.Ytoeeklkebcgmaaa
open Go.RowKit Gf

theorem rencM_length (d t : Nat) (m : List (List UInt8)) (L : Nat) : (rencM d t m L).length = t := by simp [rencM]
theorem encM_length {d t : Nat} {blocks : List (List UInt8)} {L : Nat} (hr : Rect blocks L) (hn : blocks.length ≤ d) : (encM d t blocks L).length = t := by rw [encM_eq hr hn, rencM_length]

set_option maxRecDepth 100000 in
set_option maxHeartbeats 2000000 in
theorem totals_walk (d t u : Int) (A : Option Addr) (n c : Nat) (m : List (List UInt8)) (w : World) (h : MS w A n c m) :
    Calls Try.prog 6 #[.int .i64 d, .int .i64 t, .int .i64 u, .slice A n c] w fun e w' => e = .returned (.bool true) ∧ Below w.heap.size w w' := by
  have HLm := Lib.hid h.1
  have HM := Lib.hid h
  clear h
  go_enter Try.func6, Try.ntmps6
  go_wp2_with fail
  refine (rvalid_any _ _ _).mono ?_
  rintro e w' ⟨rfl, rfl⟩
  cases hv1 : vldB d t with
  | false =>
    go_wp2_with fail
    refine (awake_any _).mono ?_
    rintro e w2 ⟨rfl, hb2⟩
    have HB2 := Lib.hid hb2
    clear hb2
    go_wp2_with fail
    go_ret
    exact ⟨rfl, HB2.out⟩
  | true =>
    have HV1 := Lib.hid hv1
    clear hv1
    go_wp2_with fail
    refine (rvalid_any _ _ _).mono ?_
    rintro e w' ⟨rfl, rfl⟩
    cases hv2 : vldB d u with
    | false =>
      go_wp2_with fail
      refine (awake_any _).mono ?_
      rintro e w2 ⟨rfl, hb2⟩
      have HB2 := Lib.hid hb2
      clear hb2
      go_wp2_with fail
      go_ret
      exact ⟨rfl, HB2.out⟩
    | true =>
      have HV2 := Lib.hid hv2
      clear hv2
      by_cases hut : u < t
      · have q1 : decide (u < t) = true := by simpa using hut
        go_wp2_with fail
        refine (awake_any _).mono ?_
        rintro e w2 ⟨rfl, hb2⟩
        have HB2 := Lib.hid hb2
        clear hb2
        go_wp2_with fail
        go_ret
        exact ⟨rfl, HB2.out⟩
      · have q1 : decide (u < t) = false := by simpa using hut
        go_wp2_with fail
        refine (few_any A n c m 8 _ HM.out).mono ?_
        rintro e w' ⟨rfl, rfl⟩
        cases hf : fewB m 8 with
        | false =>
          go_wp2_with fail
          refine (awake_any _).mono ?_
          rintro e w2 ⟨rfl, hb2⟩
          have HB2 := Lib.hid hb2
          clear hb2
          go_wp2_with fail
          go_ret
          exact ⟨rfl, HB2.out⟩
        | true =>
          clear hf
          go_wp2_with fail
          refine (blocks_any A n c m d _ HM.out).mono ?_
          rintro e w1 ⟨rfl, hb1⟩
          cases hbl : blkB m d with
          | false =>
            have HB1 := Lib.hid hb1
            clear hb1
            go_wp2_with fail
            refine (awake_any _).mono ?_
            rintro e w2 ⟨rfl, hb2⟩
            have HB2 := Lib.hid (below_then HB1.out hb2)
            clear hb2
            go_wp2_with fail
            go_ret
            exact ⟨rfl, HB2.out⟩
          | true =>
            simp only [blkB, Bool.and_eq_true, decide_eq_true_eq] at hbl
            obtain ⟨⟨hone, hn1⟩, hnd⟩ := hbl
            rw [HLm.out] at hn1 hnd
            obtain ⟨v1, v2, v3, v4⟩ := vld_iff.1 HV1.out
            obtain ⟨_, _, v5, v6⟩ := vld_iff.1 HV2.out
            obtain ⟨d, rfl⟩ : ∃ k : Nat, d = (k : Int) := ⟨d.toNat, by omega⟩
            obtain ⟨t, rfl⟩ : ∃ k : Nat, t = (k : Int) := ⟨t.toNat, by omega⟩
            obtain ⟨u, rfl⟩ : ∃ k : Nat, u = (k : Int) := ⟨u.toNat, by omega⟩
            have h1 : 1 ≤ d := by omega
            have h2 : d ≤ 8 := by omega
            have h3 : d ≤ t := by omega
            have h4 : t ≤ 16 := by omega
            have h5 : d ≤ u := by omega
            have h6 : u ≤ 16 := by omega
            have htu : t ≤ u := by omega
            have hn0 : 0 < n := by omega
            have hnd' : n ≤ d := by omega
            obtain ⟨L, hL⟩ : ∃ L, L = (gR m 0).length := ⟨_, rfl⟩
            have hrect : Rect m L := fun i hi => by rw [(oneB_spec hone i hi).2.2, hL]
            have HONE := Lib.hid hone
            have HL := Lib.hid hL
            have HE1 : Hid (encM d t m L = rencM d t (fillB m L d) L) := Lib.hid (encM_eq hrect (by rw [HLm.out]; exact hnd'))
            have HE2 : Hid (encM d u m L = rencM d u (fillB m L d) L) := Lib.hid (encM_eq hrect (by rw [HLm.out]; exact hnd'))
            have HM1 := Lib.hid (HM.out.kept hb1)
            have HB1 := Lib.hid hb1
            clear hb1 hone hL HM HV1 HV2 hrect q1 hut v1 v2 v3 v4 v5 v6 hn1 hnd
            have q1 : decide ((u : Int) < (t : Int)) = false := by simp; omega
            go_wp2_with fail
            refine (encode_ok d t n c A m L w1 h1 h2 h3 h4 HM1.out hn0 hnd' HONE.out HL.out.symm).mono ?_
            rintro e w2 ⟨v2, rfl, hv2⟩
            rw [HE1.out] at hv2
            obtain ⟨g2, n2, rfl, hn2, hm2, hb2⟩ := hv2.ms (by rw [rencM_length]; unfold lim; omega)
            obtain rfl : n2 = t := by rw [← hn2, rencM_length]
            have HM2 := Lib.hid hm2
            have HMA := Lib.hid (HM1.out.kept hb2)
            have HB2 := Lib.hid (below_then HB1.out hb2)
            clear hm2 hb2 hv2 hn2 HM1 HB1
            go_wp2_with fail
            refine (encode_ok d u n c A m L w2 h1 h2 h5 h6 HMA.out hn0 hnd' HONE.out HL.out.symm).mono ?_
            rintro e w3 ⟨v3, rfl, hv3⟩
            rw [HE2.out] at hv3
            obtain ⟨g3, n3, rfl, hn3, hm3, hb3⟩ := hv3.ms (by rw [rencM_length]; unfold lim; omega)
            obtain rfl : n3 = u := by rw [← hn3, rencM_length]
            have HM3 := Lib.hid hm3
            have HM23 := Lib.hid (HM2.out.kept hb3)
            have HB3 := Lib.hid (below_then HB2.out hb3)
            clear hm3 hb3 hv3 hn3 HM2 HMA HB2
            go_wp2_with fail
            refine (awake_any _).mono ?_
            rintro e w4 ⟨rfl, hb4⟩
            have HM34 := Lib.hid (HM3.out.kept hb4)
            have HM24 := Lib.hid (HM23.out.kept hb4)
            have HB4 := Lib.hid (below_then HB3.out hb4)
            clear hb4 HM3 HM23 HB3
            go_wp2_with fail
            refine (same_any _ _ n2 n2 n2 n3 _ _ w4 HM24.out (HM34.out.take htu)).mono ?_
            rintro e w5 ⟨rfl, hb5⟩
            rw [show sameB (rencM d n2 (fillB m L d) L) ((rencM d n3 (fillB m L d) L).take n2) = true from decide_eq_true (rencM_take d n2 n3 _ L htu).symm]
            have HB5 := Lib.hid (below_then HB4.out hb5)
            clear hb5
            go_wp2_with fail
            go_ret
            exact ⟨rfl, HB5.out⟩
end Go.Proofs.Ytoeeklkebcgmaaa
