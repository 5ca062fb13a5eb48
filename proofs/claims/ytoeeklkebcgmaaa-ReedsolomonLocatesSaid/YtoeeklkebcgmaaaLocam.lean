/- ReedsolomonLocates: the walk. -/
import Derived.Test.YtoeeklkebcgmaaaLawRecm
import Derived.Test.YtoeeklkebcgmaaaRf10m
namespace Go.Proofs.Ytoeeklkebcgmaaa
open Go.RowKit Gf

set_option maxRecDepth 100000 in
set_option maxHeartbeats 2000000 in
theorem locates_walk (d t : Int) (A : Option Addr) (n c : Nat) (z : List Int) (A' : Option Addr) (n' c' : Nat) (m : List (List UInt8)) (w : World) (h : IS w A n c z) (h' : MS w A' n' c' m) :
    Calls Try.prog 5 #[.int .i64 d, .int .i64 t, .slice A n c, .slice A' n' c'] w fun e w' => e = .returned (.bool true) ∧ Below w.heap.size w w' := by
  have HLz := Lib.hid h.1
  have HLm := Lib.hid h'.1
  have HI := Lib.hid h
  have HM := Lib.hid h'
  clear h h'
  go_enter Try.func5, Try.ntmps5
  go_wp2_with fail
  refine (few_any A' n' c' m 8 _ HM.out).mono ?_
  rintro e w' ⟨rfl, rfl⟩
  cases hf : fewB m 8 with
  | false =>
    go_wp2_with fail
    refine (awake_any _).mono ?_
    rintro e w2 ⟨rfl, hb2⟩
    have HB2 := Lib.hid hb2
    clear hb2
    go_wp2_with fail
    go_ret
    exact ⟨rfl, HB2.out⟩
  | true =>
    clear hf
    by_cases hn8 : 8 < n
    · have q1 : decide ((8 : Int) < (n : Int)) = true := by simp; omega
      go_wp2_with fail
      refine (awake_any _).mono ?_
      rintro e w2 ⟨rfl, hb2⟩
      have HB2 := Lib.hid hb2
      clear hb2
      go_wp2_with fail
      go_ret
      exact ⟨rfl, HB2.out⟩
    · have q1 : decide ((8 : Int) < (n : Int)) = false := by simp; omega
      by_cases hn0 : n' = 0
      · have q2 : decide ((0 : Int) < (n' : Int)) = false := by simp; omega
        have hg : gvE d t z m ≠ 0 := fun hg => by
          obtain ⟨d', t', z', L, _, _, _, gk⟩ := gv_ok HLz.out hg
          have := gk.d1; have := gk.dn; have := gk.ml; have := HLm.out; omega
        clear hn8 q2
        subst hn0
        have HG := Lib.hid hg
        obtain ⟨r, hr⟩ : ∃ r, r = gvE d t z m := ⟨_, rfl⟩
        have q5 : (r != 0) = true := by rw [hr]; simpa using hg
        have q6 : (r == r) = true := by simp
        have HRB : Hid (Calls Try.prog 20 #[.int .i64 d, .int .i64 t, .slice A n c, .slice A' 0 c'] w (Bad r w)) := Lib.hid (by rw [hr]; exact locate_bad d t A _ n c 0 c' z m w HI.out HM.out hg)
        have HR := Lib.hid hr
        clear hg hr
        go_wp2_with fail
        refine HRB.out.mono ?_
        rintro e w2 ⟨rfl, hb2⟩
        have HIA := Lib.hid (HI.out.kept hb2)
        have HMA := Lib.hid (HM.out.kept hb2)
        have HB2 := Lib.hid hb2
        clear hb2 HRB
        go_wp2_with fail
        refine (given_any d t A _ n c 0 c' z m w2 HIA.out HMA.out).mono ?_
        rintro e w3 ⟨rfl, hb3⟩
        rw [← HR.out]
        have HB3 := Lib.hid (below_then HB2.out hb3)
        clear hb3 HIA HMA HB2
        go_wp2_with fail
        refine (awake_any _).mono ?_
        rintro e w4 ⟨rfl, hb4⟩
        have HB4 := Lib.hid (below_then HB3.out hb4)
        clear hb4 HB3
        go_wp2_with fail
        go_ret
        exact ⟨rfl, HB4.out⟩
      · have q2 : decide ((0 : Int) < (n' : Int)) = true := by simp; omega
        obtain ⟨g0, o0, A0, n0, c0, rfl, hc0, hr0⟩ := HM.out.at_ (Below.refl _ _) (k := 0) (by omega)
        rw [Nat.add_zero] at hc0
        clear hr0
        by_cases hn08 : 8 < n0
        · have q3 : decide ((8 : Int) < (n0 : Int)) = true := by simp; omega
          go_wp2_with fail
          refine (awake_any _).mono ?_
          rintro e w2 ⟨rfl, hb2⟩
          have HB2 := Lib.hid hb2
          clear hb2
          go_wp2_with fail
          go_ret
          exact ⟨rfl, HB2.out⟩
        · have q3 : decide ((8 : Int) < (n0 : Int)) = false := by simp; omega
          by_cases hg : gvE d t z m = 0
          · obtain ⟨d, t, z, L, rfl, rfl, rfl, gk⟩ := gv_ok HLz.out hg
            obtain rfl : n' = n := by rw [← HLm.out, gk.ml]
            have HG := Lib.hid hg
            have HK := Lib.hid gk
            have HN8 : Hid (n' ≤ 8) := Lib.hid (by omega)
            clear hg gk
            go_wp2_with fail
            refine (locate_ok d t A _ n' c c' z m L w HI.out HM.out HG.out HK.out.d1 HK.out.d8 HK.out.lt16 HK.out.dn HN8.out HK.out.rect HK.out.L0 HK.out.L6 (fun s hs hp => HK.out.locReg HN8.out hs hp)).mono ?_
            rintro e w2 ⟨hb2, hcase⟩
            have HIA := Lib.hid (HI.out.kept hb2)
            have HMA := Lib.hid (HM.out.kept hb2)
            have HB2 := Lib.hid hb2
            clear hb2
            rcases hcase with ⟨s, hs, hH, _, v2, rfl, ho2⟩ | ⟨hno, rfl⟩
            · have hlen : (locO z m d L n' s).length ≤ 8 := by
                rw [HK.out.loc_out HN8.out hs hH, ints_length, wrA_length HK.out.lt]
                exact Nat.le_trans (HK.out.cnt_le _) HN8.out
              obtain ⟨A2, c2, rfl, his⟩ := IS.of_own ho2 (by unfold lim; omega)
              have HS := Lib.hid hs
              have HH := Lib.hid hH
              have HW2 := Lib.hid his
              obtain ⟨q, hq⟩ : ∃ q, q = (locO z m d L n' s).length := ⟨_, rfl⟩
              rw [← hq] at HW2 ⊢
              clear ho2 his hs hH hlen hq
              go_wp2_with fail
              refine (given_any d t A _ n' c n' c' (ints z) m w2 HIA.out HMA.out).mono ?_
              rintro e w3 ⟨rfl, hb3⟩
              rw [HG.out]
              have HW3 := Lib.hid (HW2.out.kept hb3)
              have HIB := Lib.hid (HIA.out.kept hb3)
              have HMB := Lib.hid (HMA.out.kept hb3)
              have HB3 := Lib.hid (below_then HB2.out hb3)
              clear hb3 HIA HMA HB2 HW2
              go_wp2_with fail
              refine (rloc_any d t A _ n' c c' z m L w3 HIB.out HMB.out HK.out HN8.out).mono ?_
              rintro e w4 ⟨hb4, hcase⟩
              rcases hcase with ⟨s', v4, hs', hH', rfl, ho4⟩ | ⟨hno, rfl⟩
              · have HE : Hid (locO z m d L n' s = ints (wrA d z m (rfX z m d L n' s') L n' t)) := Lib.hid (HK.out.loc_same HN8.out HS.out HH.out hH')
                have hlen : (wrA d z m (rfX z m d L n' s') L n' t).length ≤ 8 := by
                  rw [wrA_length HK.out.lt]
                  exact Nat.le_trans (HK.out.cnt_le _) HN8.out
                obtain ⟨A4, c4, rfl, his⟩ := IS.of_own ho4 (by unfold lim; omega)
                rw [← HE.out] at his
                have HV4 := Lib.hid his
                have HW4 := Lib.hid (HW3.out.kept hb4)
                have HB4 := Lib.hid (below_then HB3.out hb4)
                obtain ⟨q', hq'⟩ : ∃ q, q = (wrA d z m (rfX z m d L n' s') L n' t).length := ⟨_, rfl⟩
                rw [← hq'] at HV4 ⊢
                clear ho4 his hlen hq' hb4 HIB HMB HB3 HW3 hs' hH'
                go_wp2_with fail
                refine (awake_any _).mono ?_
                rintro e w5 ⟨rfl, hb5⟩
                have HV5 := Lib.hid (HV4.out.kept hb5)
                have HW5 := Lib.hid (HW4.out.kept hb5)
                have HB5 := Lib.hid (below_then HB4.out hb5)
                clear hb5 HV4 HW4 HB4
                go_wp2_with fail
                refine (ints_any _ _ _ _ _ _ _ _ w5 HW5.out HV5.out).mono ?_
                rintro e w6 ⟨rfl, hb6⟩
                rw [show intsB (locO z m d L n' s) (locO z m d L n' s) = true from decide_eq_true rfl]
                have HB6 := Lib.hid (below_then HB5.out hb6)
                clear hb6
                go_wp2_with fail
                go_ret
                exact ⟨rfl, HB6.out⟩
              · obtain ⟨s', hs', h'⟩ := HK.out.rf_ex HN8.out HS.out HH.out
                rw [hno s' hs'] at h'
                cases h'
            · have HNO := Lib.hid hno
              clear hno
              go_wp2_with fail
              refine (given_any d t A _ n' c n' c' (ints z) m w2 HIA.out HMA.out).mono ?_
              rintro e w3 ⟨rfl, hb3⟩
              rw [HG.out]
              have HIB := Lib.hid (HIA.out.kept hb3)
              have HMB := Lib.hid (HMA.out.kept hb3)
              have HB3 := Lib.hid (below_then HB2.out hb3)
              clear hb3 HIA HMA HB2
              go_wp2_with fail
              refine (rloc_any d t A _ n' c c' z m L w3 HIB.out HMB.out HK.out HN8.out).mono ?_
              rintro e w4 ⟨hb4, hcase⟩
              rcases hcase with ⟨s', v4, hs', hH', rfl, ho4⟩ | ⟨_, rfl⟩
              · obtain ⟨s, hs, h'⟩ := HK.out.loc_ex HN8.out hH'
                rw [HNO.out s hs] at h'
                cases h'
              · have HB4 := Lib.hid (below_then HB3.out hb4)
                clear hb4
                go_wp2_with fail
                refine (awake_any _).mono ?_
                rintro e w5 ⟨rfl, hb5⟩
                have HB5 := Lib.hid (below_then HB4.out hb5)
                clear hb5
                go_wp2_with fail
                go_ret
                exact ⟨rfl, HB5.out⟩
          · have HG := Lib.hid hg
            obtain ⟨r, hr⟩ : ∃ r, r = gvE d t z m := ⟨_, rfl⟩
            have q5 : (r != 0) = true := by rw [hr]; simpa using hg
            have q6 : (r == r) = true := by simp
            have HRB : Hid (Calls Try.prog 20 #[.int .i64 d, .int .i64 t, .slice A n c, .slice (some ⟨g0, o0, none⟩) n' c'] w (Bad r w)) := Lib.hid (by rw [hr]; exact locate_bad d t A _ n c n' c' z m w HI.out HM.out hg)
            have HR := Lib.hid hr
            clear hg hr
            go_wp2_with fail
            refine HRB.out.mono ?_
            rintro e w2 ⟨rfl, hb2⟩
            have HIA := Lib.hid (HI.out.kept hb2)
            have HMA := Lib.hid (HM.out.kept hb2)
            have HB2 := Lib.hid hb2
            clear hb2 HRB
            go_wp2_with fail
            refine (given_any d t A _ n c n' c' z m w2 HIA.out HMA.out).mono ?_
            rintro e w3 ⟨rfl, hb3⟩
            rw [← HR.out]
            have HB3 := Lib.hid (below_then HB2.out hb3)
            clear hb3 HIA HMA HB2
            go_wp2_with fail
            refine (awake_any _).mono ?_
            rintro e w4 ⟨rfl, hb4⟩
            have HB4 := Lib.hid (below_then HB3.out hb4)
            clear hb4 HB3
            go_wp2_with fail
            go_ret
            exact ⟨rfl, HB4.out⟩
end Go.Proofs.Ytoeeklkebcgmaaa
