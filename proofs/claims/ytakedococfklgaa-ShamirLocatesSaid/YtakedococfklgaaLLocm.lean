/- ShamirLocates: for every input the law returns true, and its arguments read behind the call as they read before. No condition. The walk. -/
import Derived.Test.YtakedococfklgaaAw2m
import Derived.Test.YtakedococfklgaaLo2m
import Derived.Test.YtakedococfklgaaRe8m
import Derived.Test.YtakedococfklgaaRe9m
namespace Go.Proofs.Ytakedococfklgaa
open Go.RowKit Gf

set_option maxRecDepth 100000 in
set_option maxHeartbeats 1000000 in
theorem wrong_bad (A : Option Addr) (n c : Nat) (t : Int) (l : List (Int × List UInt8)) (w : World) (h : SS w A n c l) (hb : (shB l && vT t) = false) :
    Calls Try.prog 19 #[.slice A n c, .int .i64 t] w fun e w' => e = .returned (.tuple #[.slice none 0 0, .int .i64 1]) ∧ Below w.heap.size w w' := by
  have H := Lib.hid h
  clear h
  cases hs : shB l with
  | false =>
    have HSH := Lib.hid hs
    clear hs hb
    go_enter Try.func19, Try.ntmps19
    go_wp2_with fail
    refine (validShares_any _ _ _ _ _ H.out).mono ?_
    rintro e w1 ⟨rfl, hb1⟩
    have HB1 := Lib.hid hb1
    clear hb1
    rw [HSH.out]
    go_wp2_with fail
    go_ret2
    exact ⟨rfl, HB1.out⟩
  | true =>
    have hv : vT t = false := by rw [hs] at hb; exact hb
    have HSH := Lib.hid hs
    have HV := Lib.hid hv
    clear hs hb hv
    go_enter Try.func19, Try.ntmps19
    go_wp2_with fail
    refine (validShares_any _ _ _ _ _ H.out).mono ?_
    rintro e w1 ⟨rfl, hb1⟩
    have HB1 := Lib.hid hb1
    clear hb1
    rw [HSH.out]
    go_wp2_with fail
    refine (validT_any _ _).mono ?_
    rintro e w' ⟨rfl, rfl⟩
    rw [HV.out]
    go_wp2_with fail
    go_ret2
    exact ⟨rfl, HB1.out⟩
set_option maxRecDepth 100000 in
set_option maxHeartbeats 1000000 in
theorem wrong_short (A : Option Addr) (n c : Nat) (t : Int) (l : List (Int × List UInt8)) (w : World) (h : SS w A n c l) (hs : shB l = true) (hv : vT t = true) (hnt : (n : Int) < t) :
    Calls Try.prog 19 #[.slice A n c, .int .i64 t] w fun e w' => e = .returned (.tuple #[.slice none 0 0, .int .i64 10]) ∧ Below w.heap.size w w' := by
  have H := Lib.hid h
  have hn := h.len_le
  have HSH := Lib.hid hs
  have HV := Lib.hid hv
  have q1 : decide ((n : Int) < t) = true := by simpa using hnt
  clear h hs hv hnt
  go_enter Try.func19, Try.ntmps19
  go_wp2_with fail
  refine (validShares_any _ _ _ _ _ H.out).mono ?_
  rintro e w1 ⟨rfl, hb1⟩
  have HB1 := Lib.hid hb1
  clear hb1
  rw [HSH.out]
  go_wp2_with fail
  refine (validT_any _ _).mono ?_
  rintro e w' ⟨rfl, rfl⟩
  rw [HV.out]
  go_wp2_with fail
  go_ret2
  exact ⟨rfl, HB1.out⟩

set_option maxRecDepth 100000 in
set_option maxHeartbeats 4000000 in
theorem loc_walk (A : Option Addr) (n c : Nat) (l : List (Int × List UInt8)) (t : Int) (w : World) (h : SS w A n c l) :
    Calls Try.prog 4 #[.slice A n c, .int .i64 t] w fun e w' => e = .returned (.bool true) ∧ Below w.heap.size w w' := by
  have hn := h.len_le
  have H := Lib.hid h
  have HL := Lib.hid h.1
  clear h
  cases hlo : loB l 8 4 with
  | true =>
    have HLO := Lib.hid hlo
    clear hlo
    go_enter Try.func4, Try.ntmps4
    go_wp2_with fail
    refine (awake_any _).mono ?_
    rintro e w1 ⟨rfl, hb1⟩
    have HB1 := Lib.hid hb1
    clear hb1
    go_wp2_with fail
    refine (long_any A n c 8 4 l w1 (H.out.kept HB1.out)).mono ?_
    rintro e w2 ⟨rfl, hb2⟩
    rw [HLO.out]
    have HB2 := Lib.hid (below_then HB1.out hb2)
    clear hb2
    go_wp2_with fail
    go_ret
    exact ⟨rfl, HB2.out⟩
  | false =>
    have HLO := Lib.hid hlo
    clear hlo
    cases hs : shB l with
    | false =>
      have HSH := Lib.hid hs
      clear hs
      go_enter Try.func4, Try.ntmps4
      go_wp2_with fail
      refine (awake_any _).mono ?_
      rintro e w1 ⟨rfl, hb1⟩
      have HB1 := Lib.hid hb1
      clear hb1
      go_wp2_with fail
      refine (long_any A n c 8 4 l w1 (H.out.kept HB1.out)).mono ?_
      rintro e w2 ⟨rfl, hb2⟩
      rw [HLO.out]
      have HB2 := Lib.hid (below_then HB1.out hb2)
      clear hb2
      go_wp2_with fail
      refine (wrong_bad A n c t l w2 (H.out.kept HB2.out) (by rw [HSH.out]; rfl)).mono ?_
      rintro e w3 ⟨rfl, hb3⟩
      have HB3 := Lib.hid (below_then HB2.out hb3)
      clear hb3
      go_wp2_with fail
      refine (rshares_any A n c l w3 (H.out.kept HB3.out)).mono ?_
      rintro e w4 ⟨rfl, hb4⟩
      rw [HSH.out]
      have HB4 := Lib.hid (below_then HB3.out hb4)
      clear hb4
      go_wp2_with fail
      go_ret
      exact ⟨rfl, HB4.out⟩
    | true =>
      have HSH := Lib.hid hs
      clear hs
      cases hv : vT t with
      | false =>
        have HV := Lib.hid hv
        clear hv
        go_enter Try.func4, Try.ntmps4
        go_wp2_with fail
        refine (awake_any _).mono ?_
        rintro e w1 ⟨rfl, hb1⟩
        have HB1 := Lib.hid hb1
        clear hb1
        go_wp2_with fail
        refine (long_any A n c 8 4 l w1 (H.out.kept HB1.out)).mono ?_
        rintro e w2 ⟨rfl, hb2⟩
        rw [HLO.out]
        have HB2 := Lib.hid (below_then HB1.out hb2)
        clear hb2
        go_wp2_with fail
        refine (wrong_bad A n c t l w2 (H.out.kept HB2.out) (by rw [HSH.out, HV.out]; rfl)).mono ?_
        rintro e w3 ⟨rfl, hb3⟩
        have HB3 := Lib.hid (below_then HB2.out hb3)
        clear hb3
        go_wp2_with fail
        refine (rshares_any A n c l w3 (H.out.kept HB3.out)).mono ?_
        rintro e w4 ⟨rfl, hb4⟩
        rw [HSH.out]
        have HB4 := Lib.hid (below_then HB3.out hb4)
        clear hb4
        go_wp2_with fail
        refine (rthr_any t w4).mono ?_
        rintro e w' ⟨rfl, rfl⟩
        rw [HV.out]
        go_wp2_with fail
        go_ret
        exact ⟨rfl, HB4.out⟩
      | true =>
        have HV := Lib.hid hv
        have hv' := vT_iff.1 hv
        by_cases hnt : (n : Int) < t
        · have q1 : decide ((n : Int) < t) = true := by simpa using hnt
          have HNT := Lib.hid hnt
          clear hv hv' hnt
          go_enter Try.func4, Try.ntmps4
          go_wp2_with fail
          refine (awake_any _).mono ?_
          rintro e w1 ⟨rfl, hb1⟩
          have HB1 := Lib.hid hb1
          clear hb1
          go_wp2_with fail
          refine (long_any A n c 8 4 l w1 (H.out.kept HB1.out)).mono ?_
          rintro e w2 ⟨rfl, hb2⟩
          rw [HLO.out]
          have HB2 := Lib.hid (below_then HB1.out hb2)
          clear hb2
          go_wp2_with fail
          refine (wrong_short A n c t l w2 (H.out.kept HB2.out) HSH.out HV.out HNT.out).mono ?_
          rintro e w3 ⟨rfl, hb3⟩
          have HB3 := Lib.hid (below_then HB2.out hb3)
          clear hb3
          go_wp2_with fail
          refine (rshares_any A n c l w3 (H.out.kept HB3.out)).mono ?_
          rintro e w4 ⟨rfl, hb4⟩
          rw [HSH.out]
          have HB4 := Lib.hid (below_then HB3.out hb4)
          clear hb4
          go_wp2_with fail
          refine (rthr_any t w4).mono ?_
          rintro e w' ⟨rfl, rfl⟩
          rw [HV.out]
          go_wp2_with fail
          go_ret
          exact ⟨rfl, HB4.out⟩
        · have q1 : decide ((n : Int) < t) = false := by simpa using hnt
          obtain ⟨tn, rfl⟩ : ∃ tn : Nat, t = (tn : Int) := ⟨t.toNat, by omega⟩
          have ht1 : 1 ≤ tn := by omega
          have ht2 : tn ≤ 16 := by omega
          have htn : tn ≤ n := by omega
          have hn8 : n ≤ 8 := by
            obtain ⟨sp1, _⟩ := shB_spec HSH.out
            have h1 := HLO.out
            unfold loB at h1
            rcases Nat.lt_or_ge 8 l.length with h2 | h2
            · rw [if_pos h2, decide_eq_true sp1] at h1; cases h1
            · rw [HL.out] at h2; exact h2
          clear hv hv' hnt
          cases hw : wrF l tn with
          | none =>
            have HW := Lib.hid hw
            clear hw
            go_enter Try.func4, Try.ntmps4
            go_wp2_with fail
            refine (awake_any _).mono ?_
            rintro e w1 ⟨rfl, hb1⟩
            have HB1 := Lib.hid hb1
            clear hb1
            go_wp2_with fail
            refine (long_any A n c 8 4 l w1 (H.out.kept HB1.out)).mono ?_
            rintro e w2 ⟨rfl, hb2⟩
            rw [HLO.out]
            have HB2 := Lib.hid (below_then HB1.out hb2)
            clear hb2
            go_wp2_with fail
            have hwr := wrong_ok A n c tn l w2 (H.out.kept HB2.out) HSH.out ht1 ht2 htn
            rw [HW.out] at hwr
            refine hwr.mono ?_
            clear hwr
            rintro e w3 ⟨hb3, he3⟩
            cases he3
            have HB3 := Lib.hid (below_then HB2.out hb3)
            clear hb3
            go_wp2_with fail
            refine (rshares_any A n c l w3 (H.out.kept HB3.out)).mono ?_
            rintro e w4 ⟨rfl, hb4⟩
            rw [HSH.out]
            have HB4 := Lib.hid (below_then HB3.out hb4)
            clear hb4
            go_wp2_with fail
            refine (rthr_any (tn : Int) w4).mono ?_
            rintro e w' ⟨rfl, rfl⟩
            rw [HV.out]
            go_wp2_with fail
            refine (rwrong_any A n c tn l w4 (H.out.kept HB4.out) HSH.out hn8 htn).mono ?_
            rintro e w5 ⟨hb5, h5⟩
            have HB5 := Lib.hid (below_then HB4.out hb5)
            clear hb5
            rcases h5 with ⟨s, v5, _, hH, _, _⟩ | ⟨_, rfl⟩
            · have h9 := lo_found HSH.out ht1 (by rw [HL.out]; exact htn) hH
              rw [HW.out] at h9; cases h9
            go_wp2_with fail
            go_loopw [64] (fun i wr => i = .int .i64 0 ∧ wr = w5) (fun _ _ => 0)
            case atStart => exact ⟨rfl, rfl⟩
            case round =>
              obtain ⟨rfl, rfl⟩ := hrel
              go_wp2_with fail
              go_ret
              exact ⟨rfl, HB5.out⟩
          | some y =>
            have HW := Lib.hid hw
            clear hw
            go_enter Try.func4, Try.ntmps4
            go_wp2_with fail
            refine (awake_any _).mono ?_
            rintro e w1 ⟨rfl, hb1⟩
            have HB1 := Lib.hid hb1
            clear hb1
            go_wp2_with fail
            refine (long_any A n c 8 4 l w1 (H.out.kept HB1.out)).mono ?_
            rintro e w2 ⟨rfl, hb2⟩
            rw [HLO.out]
            have HB2 := Lib.hid (below_then HB1.out hb2)
            clear hb2
            go_wp2_with fail
            have hwr := wrong_ok A n c tn l w2 (H.out.kept HB2.out) HSH.out ht1 ht2 htn
            rw [HW.out] at hwr
            refine hwr.mono ?_
            clear hwr
            rintro e w3 ⟨hb3, v3, rfl, ho3⟩
            have HYL : Hid (y.length ≤ 8 * 8 * 255) := Lib.hid (by
              have h1 := HW.out
              unfold wrF at h1
              split at h1
              · cases h1
              · split at h1
                · cases h1
                · injection h1 with h1
                  rename_i wl _ _
                  have := reK_len l wl l.length
                  rw [← h1, isort_length]
                  have := HL.out
                  omega)
            obtain ⟨A3, c3, rfl, h3⟩ := IS.of_own ho3 (by have := HYL.out; unfold lim; omega)
            obtain ⟨ny, hny⟩ : ∃ k, k = y.length := ⟨_, rfl⟩
            rw [← hny] at h3
            rw [← hny]
            have HNY := Lib.hid hny
            have H3 := Lib.hid h3
            have HB3 := Lib.hid (below_then HB2.out hb3)
            clear hb3 ho3 h3 hny
            go_wp2_with fail
            refine (rshares_any A n c l w3 (H.out.kept HB3.out)).mono ?_
            rintro e w4 ⟨rfl, hb4⟩
            rw [HSH.out]
            have HB34 := Lib.hid hb4
            have HB4 := Lib.hid (below_then HB3.out hb4)
            clear hb4
            go_wp2_with fail
            refine (rthr_any (tn : Int) w4).mono ?_
            rintro e w' ⟨rfl, rfl⟩
            rw [HV.out]
            go_wp2_with fail
            have H34 := Lib.hid (H3.out.kept HB34.out)
            refine (rwrong_any A n c tn l w4 (H.out.kept HB4.out) HSH.out hn8 htn).mono ?_
            rintro e w5 ⟨hb5, h5⟩
            have HB5 := Lib.hid (below_then HB4.out hb5)
            have H35 := Lib.hid (H34.out.kept hb5)
            clear hb5
            rcases h5 with ⟨s, v5, _, hH, rfl, ho5⟩ | ⟨hno, _⟩
            · have h9 := lo_found HSH.out ht1 (by rw [HL.out]; exact htn) hH
              rw [HW.out] at h9
              injection h9 with h9
              rw [← h9] at ho5
              obtain ⟨A5, c5, rfl, h5⟩ := IS.of_own ho5 (by have := HYL.out; unfold lim; omega)
              rw [← HNY.out] at h5
              rw [← HNY.out]
              have H5 := Lib.hid h5
              have hnyb : ny ≤ 140737488355328 := by have := HYL.out; have := HNY.out; omega
              have qn : ((ny : Int) != (ny : Int)) = false := by simp
              clear h9 hH ho5 h5
              go_wp2_with fail
              go_loopw [64] (fun i wr => ∃ k : Nat, k ≤ ny ∧ i = .int .i64 (k : Int) ∧ Hid (∃ m, wr = w5.drewN m)) (fun i _ => ny - (intOf i).toNat)
              case atStart => exact ⟨0, by omega, rfl, Lib.hid ⟨0, rfl⟩⟩
              case round =>
                obtain ⟨k, hk, rfl, hwr⟩ := hrel
                obtain ⟨m, hm⟩ := hwr.out
                by_cases hlt : k < ny
                · obtain ⟨g1, o1, rfl, d1⟩ := H35.out.at_ (Below.refl _ _) hlt
                  obtain ⟨g2, o2, rfl, d2⟩ := H5.out.at_ (Below.refl _ _) hlt
                  have d1' : wr.cell? ⟨g1, o1 + k, none⟩ = some (.int .i64 (gI y k)) := by rw [hm]; exact d1
                  have d2' : wr.cell? ⟨g2, o2 + k, none⟩ = some (.int .i64 (gI y k)) := by rw [hm]; exact d2
                  have HM := Lib.hid hm
                  clear hm d1 d2 hwr
                  go_wp2_with fail
                  refine Text.wp_region_text (fun _ => True) [(0, 4), (1, 4), (2, 4), (4, 4), (5, 4), (6, 4), (3, 1), (7, 1), (8, 4)] (by kernel_rfl) (by kernel_rfl) (fun _ _ _ _ _ h => h) (trivial) ?_
                  iterate 6 (refine Text.purek rfl rfl (fun K hK => ⟨_, fun w' => by go_simp <;> rfl, ?_⟩); go_simp; refine hK _ ?_; clear hK K)
                  iterate 2 (refine Text.readk rfl rfl (fun K hK => ⟨_, by go_simp <;> rfl, ?_⟩); go_simp; refine hK _ ?_; clear hK K)
                  (refine Text.purek rfl rfl (fun K hK => ⟨_, fun w' => by go_simp <;> rfl, ?_⟩); go_simp; refine hK _ ?_; clear hK K)
                  refine Text.done ?_
                  go_wp2_with fail
                  go_roundw
                  case rel => exact ⟨k + 1, by omega, by go_num, Lib.hid ⟨m + 1, by rw [HM.out]; rfl⟩⟩
                  case measure => simp [intOf]; omega
                · obtain rfl : k = ny := by omega
                  have HBE : Hid (Below w.heap.size w wr) := Lib.hid (by rw [hm]; exact ⟨HB5.out.os, HB5.out.tape, HB5.out.output, HB5.out.size, HB5.out.block⟩)
                  clear hwr hm
                  go_wp2_with fail
                  go_ret
                  exact ⟨rfl, HBE.out⟩
            · have h9 := lo_none HSH.out ht1 (by rw [HL.out]; exact htn) hno
              rw [HW.out] at h9; cases h9
end Go.Proofs.Ytakedococfklgaa
