/- ShamirFits: for every input the law returns true, and its arguments read behind the call as they read before. No condition. The walk. -/
import Derived.Test.YtakedococfklgaaAw2m
import Derived.Test.YtakedococfklgaaFt4m
import Derived.Test.YtakedococfklgaaRe1m
import Derived.Test.YtakedococfklgaaRe8m
import Derived.Test.YtakedococfklgaaRe9m
import Derived.Deep.DeepCutAuto
namespace Go.Proofs.Ytakedococfklgaa
open Go.RowKit Gf

theorem fits_no (As A : Option Addr) (ns cs n c : Nat) (t : Int) (s : List UInt8) (l : List (Int × List UInt8)) (w : World) (hs : BS w As ns cs s) (h : SS w A n c l) (hb : fiB s l t = true) :
    Calls Try.prog 24 #[.slice As ns cs, .slice A n c, .int .i64 t] w (FNo w) := by
  have hl := h.1
  have hsl := hs.1
  cases hc : (shB l && vT t && decide ((n : Int) = t - 1) && decide (ns ≤ 1024)) with
  | false => exact fits_bad As A ns cs n c t s l w hs h hc
  | true =>
    simp only [Bool.and_eq_true, decide_eq_true_eq] at hc
    obtain ⟨⟨⟨c1, c2⟩, c3⟩, c4⟩ := hc
    unfold fiB at hb
    rw [c1, c2, hl, hsl, decide_eq_true c3, decide_eq_false (show ¬ 1024 < ns by omega)] at hb
    simp only [Bool.not_true, Bool.false_or, Bool.or_false, Bool.and_eq_true, decide_eq_true_eq, Bool.not_eq_true', decide_eq_false_iff_not] at hb
    have hk : lnK l = (gS l 0).2.length := by unfold lnK; rw [if_neg (by omega)]
    exact fits_len As A ns cs n c t s l w hs h c1 c2 c3 c4 hb.1 (by rw [← hk]; exact hb.2)
theorem fits_yes (As A : Option Addr) (ns cs n c : Nat) (t : Int) (s : List UInt8) (l : List (Int × List UInt8)) (w : World) (hs : BS w As ns cs s) (h : SS w A n c l) (hb : fiB s l t = false) :
    Calls Try.prog 24 #[.slice As ns cs, .slice A n c, .int .i64 t] w (FitRet (fiM s l) ns w) ∧ n ≤ 15 ∧ ns ≤ 1024 ∧ Eql l ns ∧ Py.Dst (fiX l) ∧ (∀ k, k < n → 1 ≤ (gS l k).1 ∧ (gS l k).1 ≤ 255) := by
  have hl := h.1
  have hsl := hs.1
  unfold fiB at hb
  rw [hl, hsl] at hb
  simp only [Bool.or_eq_false_iff, Bool.not_eq_false', decide_eq_true_eq, Bool.and_eq_false_iff, decide_eq_false_iff_not] at hb
  obtain ⟨⟨⟨⟨c1, c2⟩, c3⟩, c4⟩, c5⟩ := hb
  obtain ⟨sp1, sp2, sp3, sp4, sp5⟩ := shB_spec c1
  have ht := vT_iff.1 c2
  obtain ⟨tn, rfl⟩ : ∃ tn : Nat, t = (tn : Int) := ⟨t.toNat, by omega⟩
  have hE : Eql l ns := fun k hk => by
    rcases c4 with c4 | c4
    · omega
    · rw [← c4]; exact eql_ln c1 k hk
  exact ⟨fits_ok As A ns cs n c tn s l w hs h c1 (by omega) (by omega) (by omega) (by omega) hE, by omega, by omega, hE, fiX_dst sp4 sp5, fun k hk => sp4 k (by rw [hl]; exact hk)⟩

set_option maxRecDepth 100000 in
set_option maxHeartbeats 8000000 in
theorem fit_walk (As : Option Addr) (ns cs : Nat) (s : List UInt8) (A : Option Addr) (n c : Nat) (l : List (Int × List UInt8)) (t : Int) (Ac : Option Addr) (nc cc : Nat) (co : List (List UInt8)) (nu : Int) (kn : Bool) (w : World) (hs : BS w As ns cs s) (h : SS w A n c l) (hc : MS w Ac nc cc co) :
    Calls Try.prog 10 #[.slice As ns cs, .slice A n c, .int .i64 t, .slice Ac nc cc, .int .i64 nu, .bool kn] w fun e w' => e = .returned (.bool true) ∧ Below w.heap.size w w' := by
  have hn := h.len_le
  have hns := hs.len_le
  have hnc := hc.len_le
  have H := Lib.hid h
  have HS := Lib.hid hs
  have HC := Lib.hid hc
  have HL := Lib.hid h.1
  have HLS := Lib.hid hs.1
  have HLC := Lib.hid hc.1
  clear h hs hc
  go_enter Try.func10, Try.ntmps10
  go_wp2_with fail
  refine (awake_any _).mono ?_
  rintro e w1 ⟨rfl, hb1⟩
  have HB1 := Lib.hid hb1
  clear hb1
  go_upto_region 3 with fail
  go_cut [40] (fun s40 wx => s40 = .bool (loB l 10 6 || decide (6 < ns ∧ ns ≤ 1024) || decide (20 < nc)) ∧ Hid (Below w.heap.size w wx))
  case first => as_aux_lemma =>
    cases hlo : loB l 10 6 with
    | true =>
      have HLO := Lib.hid hlo
      clear hlo
      go_wp2_with fail
      refine (long_any A n c 10 6 l w1 (H.out.kept HB1.out)).mono ?_
      rintro e w2 ⟨rfl, hb2⟩
      rw [HLO.out]
      have HB2 := Lib.hid (below_then HB1.out hb2)
      clear hb2
      go_wp2_with fail
      go_meet
      exact ⟨by rw [HLO.out]; rfl, HB2⟩
    | false =>
      have HLO := Lib.hid hlo
      clear hlo
      by_cases h6 : 6 < ns
      · have q6 : decide ((6 : Int) < (ns : Int)) = true := by simp; omega
        by_cases h10 : ns ≤ 1024
        · have q10 : decide ((ns : Int) ≤ 1024) = true := by simp; omega
          have HQ : Hid (decide (6 < ns ∧ ns ≤ 1024) = true) := Lib.hid (decide_eq_true ⟨h6, h10⟩)
          clear h6 h10
          go_wp2_with fail
          refine (long_any A n c 10 6 l w1 (H.out.kept HB1.out)).mono ?_
          rintro e w2 ⟨rfl, hb2⟩
          rw [HLO.out]
          have HB2 := Lib.hid (below_then HB1.out hb2)
          clear hb2
          go_wp2_with fail
          go_meet
          exact ⟨by rw [HLO.out, HQ.out]; rfl, HB2⟩
        · have q10 : decide ((ns : Int) ≤ 1024) = false := by simp; omega
          have HQ : Hid (decide (6 < ns ∧ ns ≤ 1024) = false) := Lib.hid (decide_eq_false (fun h => h10 h.2))
          clear h6 h10
          go_wp2_with fail
          refine (long_any A n c 10 6 l w1 (H.out.kept HB1.out)).mono ?_
          rintro e w2 ⟨rfl, hb2⟩
          rw [HLO.out]
          have HB2 := Lib.hid (below_then HB1.out hb2)
          clear hb2
          go_wp2_with fail
          go_meet
          exact ⟨by rw [HLO.out, HQ.out]; simp; omega, HB2⟩
      · have q6 : decide ((6 : Int) < (ns : Int)) = false := by simp; omega
        have HQ : Hid (decide (6 < ns ∧ ns ≤ 1024) = false) := Lib.hid (decide_eq_false (fun h => h6 h.1))
        clear h6
        go_wp2_with fail
        refine (long_any A n c 10 6 l w1 (H.out.kept HB1.out)).mono ?_
        rintro e w2 ⟨rfl, hb2⟩
        rw [HLO.out]
        have HB2 := Lib.hid (below_then HB1.out hb2)
        clear hb2
        go_wp2_with fail
        go_meet
        exact ⟨by rw [HLO.out, HQ.out]; simp; omega, HB2⟩
  case rest =>
    obtain ⟨rfl, HB2⟩ := hcut
    cases hE : (loB l 10 6 || decide (6 < ns ∧ ns ≤ 1024) || decide (20 < nc)) with
    | true =>
      go_wp2_with fail
      go_ret
      exact ⟨rfl, HB2.out⟩
    | false =>
    have HC20 : Hid (nc ≤ 20) := Lib.hid (by
      rw [Bool.or_eq_false_iff] at hE
      have := of_decide_eq_false hE.2
      omega)
    clear hE
    go_upto_region 5 with fail
    go_cut [13, 14] (fun s13 s14 wx => ∃ (Af : Option Addr) (nf cf : Nat) (E : Int), s13 = .slice Af nf cf ∧ s14 = .int .i64 E ∧ Hid ((fiB s l t = true → nf = 0 ∧ E = 1) ∧ (fiB s l t = false → nf = n ∧ E = 0 ∧ MS wx Af nf cf (fiM s l))) ∧ Hid (Below w.heap.size w wx))
    case first => as_aux_lemma =>
      cases hfi : fiB s l t with
      | true =>
        have HFI := Lib.hid hfi
        clear hfi
        go_wp2_with fail
        refine (fits_no As A ns cs n c t s l wc (HS.out.kept HB2.out) (H.out.kept HB2.out) HFI.out).mono ?_
        rintro e w3 ⟨rfl, hb3⟩
        have HB3 := Lib.hid (below_then HB2.out hb3)
        clear hb3
        go_wp2_with fail
        go_meet
        exact ⟨none, 0, 0, 1, rfl, rfl, Lib.hid ⟨fun _ => ⟨rfl, rfl⟩, fun h9 => by rw [HFI.out] at h9; cases h9⟩, HB3⟩
      | false =>
        have HFI := Lib.hid hfi
        have HY := Lib.hid (fits_yes As A ns cs n c t s l wc (HS.out.kept HB2.out) (H.out.kept HB2.out) hfi)
        clear hfi
        go_wp2_with fail
        refine HY.out.1.mono ?_
        rintro e w3 ⟨gO, G, rfl, h71, hb3⟩
        have hfl : (fiM s l).length = n := by rw [fiM_length, HL.out]
        have h73 := h71.ms (by rw [hfl]; have := HY.out.2.1; unfold lim; omega) (by have := HY.out.2.2.1; unfold lim; omega)
        rw [hfl] at h73 ⊢
        have H73 := Lib.hid h73
        have HB3 := Lib.hid (below_then HB2.out hb3)
        clear hb3 h71 h73 hfl
        go_wp2_with fail
        go_meet
        exact ⟨some ⟨gO, 0, none⟩, n, n, 0, rfl, rfl, Lib.hid ⟨(fun h9 => by rw [HFI.out] at h9; cases h9), fun _ => ⟨rfl, rfl, H73.out⟩⟩, HB3⟩
    case rest =>
    obtain ⟨Af, nf, cf, E, rfl, rfl, HFF, HB3⟩ := hcut
    clear HB2
    go_wp2_with fail
    refine (count_any nu t kn wc).mono ?_
    rintro e w' ⟨rfl, rfl⟩
    obtain ⟨CV, hCV⟩ : ∃ v, v = ctV nu t kn := ⟨_, rfl⟩
    obtain ⟨CE, hCE⟩ : ∃ v, v = ctE nu t := ⟨_, rfl⟩
    rw [← hCV, ← hCE]
    have HCV := Lib.hid hCV
    have HCE := Lib.hid hCE
    clear hCV hCE
    go_wp2_with fail
    refine (refresh_any A Ac n c nc cc l co wc (H.out.kept HB3.out) (HC.out.kept HB3.out)).mono ?_
    rintro e w4 ⟨v4, rfl, ho4, hb4⟩
    obtain ⟨RE, hRE⟩ : ∃ v, v = rfE l co := ⟨_, rfl⟩
    obtain ⟨RL, hRL⟩ : ∃ v, v = rfL l co := ⟨_, rfl⟩
    rw [← hRE]
    rw [← hRL] at ho4
    have HRE := Lib.hid hRE
    have HRL := Lib.hid hRL
    have hrl : RL.length = 0 ∨ RL.length = n ∧ n ≤ 64 := by
      cases hx : rfX l co with
      | true => left; rw [hRL, (rfX_true hx).2]; rfl
      | false =>
        obtain ⟨_, h2, h3, _⟩ := rfX_false hx
        right
        rw [hRL, h2, rrK_length, HL.out]
        have := (shB_spec h3).1
        rw [HL.out] at this
        exact ⟨rfl, this⟩
    obtain ⟨nr, hnr⟩ : ∃ k, k = RL.length := ⟨_, rfl⟩
    rw [← hnr] at ho4 hrl
    have HNR := Lib.hid hnr
    obtain ⟨Ar, cr, rfl, hsr⟩ := ho4.ss (by unfold lim; omega)
    have HSR := Lib.hid hsr
    have HB4 := Lib.hid (below_then HB3.out hb4)
    have HFF4 : Hid ((fiB s l t = true → nf = 0 ∧ E = 1) ∧ (fiB s l t = false → nf = n ∧ E = 0 ∧ MS w4 Af nf cf (fiM s l))) := Lib.hid ⟨HFF.out.1, fun h9 => ⟨(HFF.out.2 h9).1, (HFF.out.2 h9).2.1, (HFF.out.2 h9).2.2.kept hb4⟩⟩
    clear hb4 ho4 hsr hnr hRE hRL hrl HFF HB3
    go_wp2_with fail
    refine (rshares_any A n c l w4 (H.out.kept HB4.out)).mono ?_
    rintro e w5 ⟨rfl, hb5⟩
    have HB5 := Lib.hid (below_then HB4.out hb5)
    have HSR5 := Lib.hid (HSR.out.kept hb5)
    have HFF5 : Hid ((fiB s l t = true → nf = 0 ∧ E = 1) ∧ (fiB s l t = false → nf = n ∧ E = 0 ∧ MS w5 Af nf cf (fiM s l))) := Lib.hid ⟨HFF4.out.1, fun h9 => ⟨(HFF4.out.2 h9).1, (HFF4.out.2 h9).2.1, (HFF4.out.2 h9).2.2.kept hb5⟩⟩
    obtain ⟨SB, hSB⟩ : ∃ b, b = shB l := ⟨_, rfl⟩
    rw [← hSB]
    have HSB := Lib.hid hSB
    clear hb5 HSR HFF4 HB4 hSB
    go_upto_region 9 with fail
    go_cut [74] (fun s74 wx => s74 = .bool (decide (CE = 1)) ∧ wx = w5)
    case first => as_aux_lemma =>
      cases hv : vT t with
      | false =>
        have HV := Lib.hid hv
        have HE1 : Hid (CE = 1) := Lib.hid (by rw [HCE.out]; unfold ctE; rw [hv]; simp)
        clear hv
        go_wp2_with fail
        refine (rthr_any t w5).mono ?_
        rintro e w' ⟨rfl, rfl⟩
        rw [HV.out]
        go_wp2_with fail
        go_meet
        exact ⟨by rw [HE1.out]; rfl, rfl⟩
      | true =>
        have HV := Lib.hid hv
        by_cases h1 : nu < 0
        · have q1 : decide (nu < 0) = true := by simpa using h1
          have HE1 : Hid (CE = 1) := Lib.hid (by rw [HCE.out]; unfold ctE; rw [if_neg (by omega)])
          clear hv h1
          go_wp2_with fail
          refine (rthr_any t w5).mono ?_
          rintro e w' ⟨rfl, rfl⟩
          rw [HV.out]
          go_wp2_with fail
          go_meet
          exact ⟨by rw [HE1.out]; rfl, rfl⟩
        · have q1 : decide (nu < 0) = false := by simpa using h1
          by_cases h2 : 64 < nu
          · have q2 : decide (64 < nu) = true := by simpa using h2
            have HE1 : Hid (CE = 1) := Lib.hid (by rw [HCE.out]; unfold ctE; rw [if_neg (by omega)])
            clear hv h1 h2
            go_wp2_with fail
            refine (rthr_any t w5).mono ?_
            rintro e w' ⟨rfl, rfl⟩
            rw [HV.out]
            go_wp2_with fail
            go_meet
            exact ⟨by rw [HE1.out]; rfl, rfl⟩
          · have q2 : decide (64 < nu) = false := by simpa using h2
            have HE1 : Hid (CE = 0) := Lib.hid (by rw [HCE.out]; unfold ctE; rw [if_pos ⟨by omega, by omega, hv⟩])
            clear hv h1 h2
            go_wp2_with fail
            refine (rthr_any t w5).mono ?_
            rintro e w' ⟨rfl, rfl⟩
            rw [HV.out]
            go_wp2_with fail
            go_meet
            exact ⟨by rw [HE1.out]; rfl, rfl⟩
    case rest =>
    obtain ⟨rfl, rfl⟩ := hcut
    go_upto_if 74 with fail
    go_cut [] (fun wx => wx = wc)
    case first => as_aux_lemma =>
      by_cases h1 : CE = 1
      · have q3 : (CV != 0) = false := by
          have : CV = 0 := by rw [HCV.out]; unfold ctV; rw [← HCE.out, h1, if_neg (by decide)]
          simpa using this
        subst h1
        go_wp2_with fail
        go_meet
        exact rfl
      · have h0 : CE = 0 := by
          have h2 := HCE.out
          unfold ctE at h2
          split at h2
          · exact h2
          · exact absurd h2 h1
        have HCT := Lib.hid (rcount_any nu t kn wc (by rw [← HCE.out]; exact h0))
        have q3 : (CV != CV) = false := by simp
        clear h1
        subst h0
        go_wp2_with fail
        refine HCT.out.mono ?_
        rintro e w' ⟨rfl, rfl⟩
        rw [← HCV.out]
        go_wp2_with fail
        go_meet
        exact rfl
    case rest =>
    obtain rfl := hcut
    go_upto_region 14 with fail
    go_cut [108] (fun s108 wx => s108 = .bool (rfX l co) ∧ wx = wc)
    case first => as_aux_lemma =>
      cases hs : SB with
      | false =>
        have HX1 : Hid (rfX l co = true) := Lib.hid (by unfold rfX; rw [← HSB.out, hs]; rfl)
        subst hs
        go_wp2_with fail
        go_meet
        exact ⟨by rw [HX1.out], rfl⟩
      | true =>
        by_cases h15 : 15 < nc
        · have q1 : decide ((15 : Int) < (nc : Int)) = true := by simp; omega
          have HX1 : Hid (rfX l co = true) := Lib.hid (by unfold rfX; rw [HLC.out, decide_eq_true h15]; simp)
          clear h15
          subst hs
          go_wp2_with fail
          go_meet
          exact ⟨by rw [HX1.out], rfl⟩
        · have q1 : decide ((15 : Int) < (nc : Int)) = false := by simp; omega
          by_cases h0 : 0 < n
          · have q2 : decide (0 < n) = true := by simpa using h0
            obtain ⟨LB, hLB⟩ : ∃ b, b = ltB co (lnK l : Int) := ⟨_, rfl⟩
            have HX1 : Hid (rfX l co = !LB) := Lib.hid (by unfold rfX; rw [← HSB.out, hs, HLC.out, HL.out, decide_eq_false h15, decide_eq_true h0, hLB]; simp)
            have HLB := Lib.hid hLB
            clear h15 h0 hLB
            subst hs
            go_wp2_with fail
            refine (rlen_any A n c l wc (H.out.kept HB5.out)).mono ?_
            rintro e w' ⟨rfl, rfl⟩
            go_wp2_with fail
            refine (rlists_any Ac nc cc co (lnK l : Int) wc (HC.out.kept HB5.out)).mono ?_
            rintro e w' ⟨rfl, rfl⟩
            rw [← HLB.out]
            go_wp2_with fail
            go_meet
            exact ⟨by rw [HX1.out], rfl⟩
          · have q2 : decide (0 < n) = false := by simpa using h0
            have HX1 : Hid (rfX l co = false) := Lib.hid (by unfold rfX; rw [← HSB.out, hs, HLC.out, HL.out, decide_eq_false h15, decide_eq_false h0]; rfl)
            clear h15 h0
            subst hs
            go_wp2_with fail
            go_meet
            exact ⟨by rw [HX1.out], rfl⟩
    case rest =>
    obtain ⟨rfl, rfl⟩ := hcut
    obtain ⟨w6, rfl⟩ : ∃ W : World, W = wc := ⟨_, rfl⟩
    go_upto_if 108 with fail
    go_cut [] (fun wx => Hid (Below w6.heap.size w6 wx))
    case first => as_aux_lemma =>
      cases hx : rfX l co with
      | true =>
        obtain ⟨x1, x2⟩ := rfX_true hx
        have h1 : RE = 1 := by rw [HRE.out, x1]
        have h2 : nr = 0 := by rw [HNR.out, HRL.out, x2]; rfl
        clear x1 x2
        subst h1
        subst h2
        go_wp2_with fail
        go_meet
        exact Lib.hid (Below.refl _ _)
      | false =>
        obtain ⟨x1, x2, x3, x4, x5⟩ := rfX_false hx
        obtain ⟨sp1, sp2, sp3, sp4, sp5⟩ := shB_spec x3
        have h1 : RE = 0 := by rw [HRE.out, x1]
        have HN64 : Hid (n ≤ 64) := Lib.hid (by rw [HL.out] at sp1; exact sp1)
        have HRR := Lib.hid (rrefresh_any A Ac n c nc cc (lnK l) l co w6 (H.out.kept HB5.out) (HC.out.kept HB5.out) (eql_ln x3) (by unfold lnK; split; omega; have := sp3 0 (by omega); omega) (fun h0 j hj => x5 (by rw [HL.out]; exact h0) j (by rw [HLC.out]; exact hj)) (by have := HC20.out; omega) HN64.out (fun k hk => sp4 k (by rw [HL.out]; exact hk)))
        have HSM : Hid (sameS RL (rrK l co (lnK l) n) = true) := Lib.hid (decide_eq_true (by rw [HRL.out, x2, HL.out]))
        clear x1 x2 x3 x4 x5 sp1 sp2 sp3 sp4 sp5
        subst h1
        go_wp2_with fail
        refine HRR.out.mono ?_
        rintro e w7 ⟨v7, rfl, ho7, hb7⟩
        obtain ⟨A7, c7, rfl, hs7⟩ := ho7.ss (by have := HN64.out; unfold lim; omega)
        have HS7 := Lib.hid hs7
        have HSR7 := Lib.hid (HSR5.out.kept hb7)
        have HB7 := Lib.hid hb7
        clear ho7 hs7 hb7
        go_wp2_with fail
        refine (same_any Ar A7 nr cr n c7 RL (rrK l co (lnK l) n) w7 HSR7.out HS7.out).mono ?_
        rintro e w8 ⟨rfl, hb8⟩
        rw [HSM.out]
        have HB8 := Lib.hid (below_then HB7.out hb8)
        clear hb8
        go_wp2_with fail
        go_meet
        exact HB8
    case rest =>
    obtain ⟨w7, rfl⟩ : ∃ W : World, W = wc := ⟨_, rfl⟩
    have HB7 := Lib.hid (below_then HB5.out hcut.out)
    have HFF7 : Hid ((fiB s l t = true → nf = 0 ∧ E = 1) ∧ (fiB s l t = false → nf = n ∧ E = 0 ∧ MS w7 Af nf cf (fiM s l))) := Lib.hid ⟨HFF5.out.1, fun h9 => ⟨(HFF5.out.2 h9).1, (HFF5.out.2 h9).2.1, (HFF5.out.2 h9).2.2.kept hcut.out⟩⟩
    clear hcut HFF5 HSR5 HB5
    go_upto_region 19 with fail
    go_cut [155] (fun s155 wx => s155 = .bool (fiB s l t) ∧ wx = w7)
    case first => as_aux_lemma =>
      cases hs : SB with
      | false =>
        have HX1 : Hid (fiB s l t = true) := Lib.hid (by unfold fiB; rw [← HSB.out, hs]; rfl)
        subst hs
        go_wp2_with fail
        go_meet
        exact ⟨by rw [HX1.out], rfl⟩
      | true =>
        cases hv : vT t with
        | false =>
          have HV := Lib.hid hv
          have HX1 : Hid (fiB s l t = true) := Lib.hid (by unfold fiB; rw [hv]; simp)
          clear hv
          subst hs
          go_wp2_with fail
          refine (rthr_any t w7).mono ?_
          rintro e w' ⟨rfl, rfl⟩
          rw [HV.out]
          go_wp2_with fail
          go_meet
          exact ⟨by rw [HX1.out], rfl⟩
        | true =>
          have HV := Lib.hid hv
          have ht := vT_iff.1 hv
          have hw1 : IntKind.i64.wrap (t - 1) = t - 1 := by rw [IntKind.wrap_i64]; omega
          have ht1 : 1 ≤ t := ht.1
          have ht2 : t ≤ 16 := ht.2
          have HFB : Hid (fiB s l t = (!decide ((n : Int) = t - 1) || (decide (0 < n) && !decide (lnK l = ns)) || decide (1024 < ns))) := Lib.hid (by unfold fiB; rw [← HSB.out, hs, hv, HL.out, HLS.out]; simp)
          clear hv ht
          by_cases h1 : (n : Int) = t - 1
          · have q1 : ((n : Int) != t - 1) = false := by simpa using h1
            by_cases h0 : 0 < n
            · have q2 : decide (0 < n) = true := by simpa using h0
              obtain ⟨LN, hLN⟩ : ∃ k, k = lnK l := ⟨_, rfl⟩
              have HLN := Lib.hid hLN
              by_cases h2 : LN = ns
              · have q3 : ((LN : Int) != (ns : Int)) = false := by simp; omega
                have HX1 : Hid (fiB s l t = decide (1024 < ns)) := Lib.hid (by rw [HFB.out, decide_eq_true h1, decide_eq_true h0, ← hLN, decide_eq_true h2]; simp)
                clear h0 h1 h2 hLN
                subst hs
                go_wp2_with fail
                refine (rthr_any t w7).mono ?_
                rintro e w' ⟨rfl, rfl⟩
                rw [HV.out]
                go_wp2_with fail
                refine (rlen_any A n c l w7 (H.out.kept HB7.out)).mono ?_
                rintro e w' ⟨rfl, rfl⟩
                rw [← HLN.out]
                go_wp2_with fail
                go_meet
                exact ⟨by rw [HX1.out]; simp; omega, rfl⟩
              · have q3 : ((LN : Int) != (ns : Int)) = true := by simp; omega
                have HX1 : Hid (fiB s l t = true) := Lib.hid (by rw [HFB.out, decide_eq_true h1, decide_eq_true h0, ← hLN, decide_eq_false h2]; simp)
                clear h0 h1 h2 hLN
                subst hs
                go_wp2_with fail
                refine (rthr_any t w7).mono ?_
                rintro e w' ⟨rfl, rfl⟩
                rw [HV.out]
                go_wp2_with fail
                refine (rlen_any A n c l w7 (H.out.kept HB7.out)).mono ?_
                rintro e w' ⟨rfl, rfl⟩
                rw [← HLN.out]
                go_wp2_with fail
                go_meet
                exact ⟨by rw [HX1.out], rfl⟩
            · have q2 : decide (0 < n) = false := by simpa using h0
              have HX1 : Hid (fiB s l t = decide (1024 < ns)) := Lib.hid (by rw [HFB.out, decide_eq_true h1, decide_eq_false h0]; simp)
              clear h0 h1
              subst hs
              go_wp2_with fail
              refine (rthr_any t w7).mono ?_
              rintro e w' ⟨rfl, rfl⟩
              rw [HV.out]
              go_wp2_with fail
              go_meet
              exact ⟨by rw [HX1.out]; simp; omega, rfl⟩
          · have q1 : ((n : Int) != t - 1) = true := by simpa using h1
            have HX1 : Hid (fiB s l t = true) := Lib.hid (by rw [HFB.out, decide_eq_false h1]; simp)
            clear h1
            subst hs
            go_wp2_with fail
            refine (rthr_any t w7).mono ?_
            rintro e w' ⟨rfl, rfl⟩
            rw [HV.out]
            go_wp2_with fail
            go_meet
            exact ⟨by rw [HX1.out], rfl⟩
    case rest =>
    obtain ⟨rfl, rfl⟩ := hcut
    obtain ⟨w8, rfl⟩ : ∃ W : World, W = wc := ⟨_, rfl⟩
    cases hfi : fiB s l t with
    | true =>
      obtain ⟨f1, f2⟩ := HFF7.out.1 hfi
      subst f1
      subst f2
      go_wp2_with fail
      go_ret
      exact ⟨rfl, HB7.out⟩
    | false =>
      obtain ⟨f1, f2, f3⟩ := HFF7.out.2 hfi
      subst f1
      subst f2
      obtain ⟨_, y1, y2, y3, y4, y5⟩ := fits_yes As A ns cs nf c t s l w8 (HS.out.kept HB7.out) (H.out.kept HB7.out) hfi
      have HF3 := Lib.hid f3
      have HRF := Lib.hid (rfits_any As A ns cs nf c s l w8 (HS.out.kept HB7.out) (H.out.kept HB7.out) y1 y3 (by omega) y5 y4)
      have HY2 := Lib.hid y2
      have HN15 := Lib.hid y1
      clear f3 y2 y3 y4 y5
      go_wp2_with fail
      refine HRF.out.mono ?_
      rintro e w9 ⟨v9, vs9, rfl, hg9, hb9⟩
      obtain ⟨A9, c9, rfl, hm9⟩ := hg9.ms (by have := HN15.out; unfold lim; omega) (fun j hj => by rw [fiM_rows (by rw [HL.out]; exact hj), HLS.out]; have := HY2.out; unfold lim; omega)
      have HM9 := Lib.hid hm9
      have HF9 := Lib.hid (HF3.out.kept hb9)
      have HB9 := Lib.hid (below_then HB7.out hb9)
      have qn : ((nf : Int) != (nf : Int)) = false := by simp
      clear hg9 hm9 hb9 hfi
      go_wp2_with fail
      go_loopw [177] (fun i wr => ∃ k : Nat, k ≤ nf ∧ i = .int .i64 (k : Int) ∧ Hid (∃ m, wr = w9.drewN m)) (fun i _ => nf - (intOf i).toNat)
      case atStart => exact ⟨0, by omega, rfl, Lib.hid ⟨0, rfl⟩⟩
      case round =>
        obtain ⟨k, hk, rfl, hwr⟩ := hrel
        obtain ⟨m, hm⟩ := hwr.out
        by_cases hlt : k < nf
        · have hM1 : MS wr Af nf cf (fiM s l) := by rw [hm]; exact ⟨HF9.out.1, HF9.out.2.1, HF9.out.2.2.1, HF9.out.2.2.2⟩
          have hM2 : MS wr A9 nf c9 (fiM s l) := by rw [hm]; exact ⟨HM9.out.1, HM9.out.2.1, HM9.out.2.2.1, HM9.out.2.2.2⟩
          obtain ⟨g1, o1, A1, n1, c1, rfl, d1, b1⟩ := hM1.at_ (Below.refl _ _) hlt
          obtain ⟨g2, o2, A2, n2, c2, rfl, d2, b2⟩ := hM2.at_ (Below.refl _ _) hlt
          obtain ⟨R, hR⟩ : ∃ R, R = gR (fiM s l) k := ⟨_, rfl⟩
          rw [← hR] at b1 b2
          have cv1 := conv_str b1.drew
          have cv2 := conv_str b2.drew
          have hbs : ((strB R).toList == (strB R).toList) = true := by rw [strB_eq, decide_eq_true rfl]
          have HM := Lib.hid hm
          clear hm hwr hM1 hM2 b1 b2 hR
          go_wp2_with fail
          refine Text.wp_region_text (fun _ => True) [(0, 4), (1, 4), (2, 4), (5, 4), (6, 4), (7, 4), (3, 1), (4, 1), (8, 1), (9, 1), (10, 4)] (by kernel_rfl) (by kernel_rfl) (fun _ _ _ _ _ h => h) (trivial) ?_
          iterate 6 (refine Text.purek rfl rfl (fun K hK => ⟨_, fun w' => by go_simp <;> rfl, ?_⟩); go_simp; refine hK _ ?_; clear hK K)
          iterate 4 (refine Text.readk rfl rfl (fun K hK => ⟨_, by go_simp <;> rfl, ?_⟩); go_simp; refine hK _ ?_; clear hK K)
          (refine Text.purek rfl rfl (fun K hK => ⟨_, fun w' => by go_simp <;> rfl, ?_⟩); go_simp; refine hK _ ?_; clear hK K)
          refine Text.done ?_
          go_wp2_with fail
          go_roundw
          case rel => exact ⟨k + 1, by omega, by go_num, Lib.hid ⟨m + 1, by rw [HM.out]; rfl⟩⟩
          case measure => simp [intOf]; omega
        · obtain rfl : k = nf := by omega
          have HBE : Hid (Below w.heap.size w wr) := Lib.hid (by rw [hm]; exact ⟨HB9.out.os, HB9.out.tape, HB9.out.output, HB9.out.size, HB9.out.block⟩)
          clear hwr hm
          go_wp2_with fail
          go_ret
          exact ⟨rfl, HBE.out⟩
end Go.Proofs.Ytakedococfklgaa
