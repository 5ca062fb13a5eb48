/- The law ChallengeComplete: its walk. -/
import Derived.Test.YtgjgofjabdjclaaDoorMt9m
namespace Go.Proofs.YtgjgofjabdjclaaDoor
open Go Go.RowKit Gf Sha

theorem LS.none {α : Type} {R : Rdg α} {s b n c : Nat} {w : World} {A : Option Addr} {L : List α} (hn : n = 0) (hl : L.length = n) : LS R s b w A n c L :=
  ⟨hl, by omega, by rw [hn]; simp, fun k hk => absurd hk (by omega)⟩

set_option maxRecDepth 100000 in
set_option maxHeartbeats 8000000 in
theorem complete_walk (A : Option Addr) (n cp : Nat) (x : List UInt8) (size : Int) (nl : List UInt8) (c : Int) (w : World) (hT : Tabs w) (hx : BS w A n cp x) (ws : (Lit.int .i64 size).wf = true) :
    Calls Tryd.prog 11 #[.slice A n cp, .int .i64 size, .string (strB nl), .int .i64 c] w fun e w' => e = .returned (.bool true) ∧ Below w.heap.size w w' := by
  have HT := Lib.hid hT
  have HX := Lib.hid hx
  have HW := Lib.hid ws
  have hnl := hx.len_le
  clear hT hx ws
  by_cases g1 : 300 < n
  · have d1 : decide ((300 : Int) < (n : Int)) = true := decide_eq_true (by omega)
    clear g1
    go_enter Tryd.func11, Tryd.ntmps11
    go_wp2_with (first
      | (go_at_call 12; (with_reducible show Calls _ _ _ w _); refine (awake_any w HT.out).mono ?_; rintro e w1 ⟨rfl, b1⟩; have HB1 := Lib.hid b1; clear b1)
      | (go_at_call 12; refine (awake_any w1 (HT.out.kept HB1.out)).mono ?_; rintro e w2 ⟨rfl, b1⟩; have HB2 := Lib.hid (below_then HB1.out b1); clear b1))
    go_ret
    exact ⟨rfl, HB2.out⟩
  have d1 : decide ((300 : Int) < (n : Int)) = false := decide_eq_false (by omega)
  have hn3 : n ≤ 300 := by omega
  clear g1
  obtain ⟨d, hdd⟩ : ∃ d : Nat, d = n / 20 := ⟨_, rfl⟩
  have hD : (n : Int).tdiv 20 = (d : Int) := by rw [hdd]; rfl
  have wD := wrapI d (by omega)
  have HD := Lib.hid hD
  clear hdd
  by_cases g4 : 0 < size
  · have dz : decide ((0 : Int) < size) = true := decide_eq_true g4
    by_cases g5 : size ≤ (d : Int)
    · have d5 : decide (size ≤ (d : Int)) = true := decide_eq_true g5
      clear g4 g5
      go_enter Tryd.func11, Tryd.ntmps11
      go_wp2_with (first
        | (go_at_call 12; (with_reducible show Calls _ _ _ w _); refine (awake_any w HT.out).mono ?_; rintro e w1 ⟨rfl, b1⟩; have HB1 := Lib.hid b1; clear b1)
        | (go_at_call 12; refine (awake_any w1 (HT.out.kept HB1.out)).mono ?_; rintro e w2 ⟨rfl, b1⟩; have HB2 := Lib.hid (below_then HB1.out b1); clear b1))
      go_ret
      exact ⟨rfl, HB2.out⟩
    · have d5 : decide (size ≤ (d : Int)) = false := decide_eq_false g5
      have HBO : Hid (¬ (0 < size ∧ size ≤ (n : Int).tdiv 20)) := Lib.hid (fun h => g5 (by rw [← hD]; exact h.2))
      clear g4 g5
      by_cases g2 : (64 : Int) < ((strB nl).size : Int)
      · have d2 : decide ((64 : Int) < ((strB nl).size : Int)) = true := decide_eq_true g2
        clear g2
        go_enter Tryd.func11, Tryd.ntmps11
        go_wp2_with (first
          | (go_at_call 12; (with_reducible show Calls _ _ _ w _); refine (awake_any w HT.out).mono ?_; rintro e w1 ⟨rfl, b1⟩; have HB1 := Lib.hid b1; clear b1)
          | (go_at_call 12; refine (awake_any w1 (HT.out.kept HB1.out)).mono ?_; rintro e w2 ⟨rfl, b1⟩; have HB2 := Lib.hid (below_then HB1.out b1); clear b1))
        go_ret
        exact ⟨rfl, HB2.out⟩
      have d2 : decide ((64 : Int) < ((strB nl).size : Int)) = false := decide_eq_false g2
      clear g2
      obtain ⟨L, er, hL64, hc1, _, hcase⟩ := prove_both n size c x nl hn3 HX.out.1 HW.out HBO.out
      have HC1 := Lib.hid hc1
      clear hc1
      rcases hcase with ⟨rfl, rfl⟩ | ⟨rfl, sz, k, rfl, rfl, h1, hs, hs2, hq, hv, hLe⟩
      · clear hL64
        have HLL : Hid (([] : List Pf).length = 0) := Lib.hid rfl
        go_enter Tryd.func11, Tryd.ntmps11
        go_wp2_with (first
          | (go_at_call 12; (with_reducible show Calls _ _ _ w _); refine (awake_any w HT.out).mono ?_; rintro e w1 ⟨rfl, b1⟩; have HB1 := Lib.hid b1; clear b1)
          | (go_at_call 37; refine (HC1.out A cp w1 (HX.out.kept HB1.out) (HT.out.kept HB1.out)).mono ?_; rintro e w2 ⟨A2, c2, rfl, l2, b1⟩; rw [HLL.out]; have HB2 := Lib.hid (below_then HB1.out b1); clear b1 l2))
        go_ret
        exact ⟨rfl, HB2.out⟩
      · have HV := Lib.hid hv
        have HQ := Lib.hid hq
        have HN : Hid (1 ≤ n ∧ n ≤ 1000000) := Lib.hid (by omega)
        obtain ⟨v1, v2, v3, v4, v5, v6⟩ := spotB_parts hv
        have hkq : k ≤ nb n sz := by omega
        have hlen : L.length = k := by rw [hLe, prfL_length, spotsL_length]
        have HLL := Lib.hid hlen
        have HPC : Hid (provL (rt (lvsK x sz (nb n sz))) n sz (spotsL nl ((n - 1) / sz + 1) k) L = true) := Lib.hid (by rw [hLe]; exact prov_complete HX.out.1 h1 hs hq hkq)
        have HXX : Hid (∀ j, j < k → (gP L j).x.length ≤ 1000000) := Lib.hid (fun j hj => by
          rw [hLe, prfL_get (by rw [spotsL_length]; exact hj)]
          show (blk x sz _).length ≤ 1000000
          rw [blk, List.length_take, List.length_drop, HX.out.1]; omega)
        have hnot : ¬ (sz ≤ d) := fun h => HBO.out ⟨by omega, by rw [hD]; omega⟩
        have dn1 : decide (sz ≤ d) = false := decide_eq_false hnot
        have dn2 : decide (0 < sz) = true := decide_eq_true (by omega)
        have e1 : ((k : Int) != (k : Int)) = false := by simp
        have hk64 : k ≤ 64 := by omega
        clear hq hv hLe v1 v2 v3 v4 v5 v6 hkq hlen hL64
        by_cases hk0 : k = 0
        · have ek : ((k : Int) == 0) = true := by rw [hk0]; rfl
          clear hk0
          go_enter Tryd.func11, Tryd.ntmps11
          go_wp2_with (first
            | (go_at_call 12; (with_reducible show Calls _ _ _ w _); refine (awake_any w HT.out).mono ?_; rintro e w1 ⟨rfl, b1⟩; have HB1 := Lib.hid b1; clear b1)
            | (go_at_call 37; refine (HC1.out A cp w1 (HX.out.kept HB1.out) (HT.out.kept HB1.out)).mono ?_; rintro e w2 ⟨A2, c2, rfl, l2, b1⟩; rw [HLL.out] at l2; rw [HLL.out]; skip; have HL2 := Lib.hid l2; have HB2 := Lib.hid (below_then HB1.out b1); clear b1 l2)
            | (go_at_call 40; refine (mof_any A n cp sz x w2 (HX.out.kept HB2.out) (HT.out.kept HB2.out) HN.out.1 HN.out.2 hs hs2 HQ.out).mono ?_; rintro e w3 ⟨rfl, b1⟩; have HL3 := Lib.hid (HL2.out.kept stay_pf b1); have HB3 := Lib.hid (below_then HB2.out b1); clear b1)
            | (go_at_call 34; (with_reducible show Calls _ _ _ w3 _); refine (proven_any _ nl L n sz k k c2 _ w3 HL3.out (HT.out.kept HB3.out) HN.out.1 (by have := HN.out.2; omega) hs hs2 (by have := HQ.out; unfold nb at this; omega) HV.out HXX.out).mono ?_; rintro e w4 ⟨rfl, b1⟩; rw [HPC.out]; have HL4 := Lib.hid (HL3.out.kept stay_pf b1); have HB4 := Lib.hid (below_then HB3.out b1); clear b1)
            | fail)
          go_ret
          exact ⟨rfl, HB4.out⟩
        · have ek : ((k : Int) == 0) = false := by rw [beq_eq_false_iff_ne]; omega
          have HD1 : Hid (provL (rt (lvsK x sz (nb n sz))) n sz (spotsL nl ((n - 1) / sz + 1) k) (L.drop 1) = false) := Lib.hid (prov_len (by rw [List.length_drop, HLL.out, spotsL_length]; omega))
          have HX1 : Hid (∀ j, j < k - 1 → (gP (L.drop 1) j).x.length ≤ 1000000) := Lib.hid (fun j hj => by
            have h9 := HXX.out (1 + j) (by omega)
            have e9 : gP (L.drop 1) j = gP L (1 + j) := by simp [gP, List.getD, Nat.add_comm]
            rw [e9]; exact h9)
          have hk1 : 1 ≤ k := by omega
          clear hk0
          go_enter Tryd.func11, Tryd.ntmps11
          go_wp2_with (first
            | (go_at_call 12; (with_reducible show Calls _ _ _ w _); refine (awake_any w HT.out).mono ?_; rintro e w1 ⟨rfl, b1⟩; have HB1 := Lib.hid b1; clear b1)
            | (go_at_call 37; refine (HC1.out A cp w1 (HX.out.kept HB1.out) (HT.out.kept HB1.out)).mono ?_; rintro e w2 ⟨A2, c2, rfl, l2, b1⟩; rw [HLL.out] at l2; rw [HLL.out]; obtain ⟨x0, g2, o2, cs0, _, rfl, _⟩ := l2.at_ stay_pf (Below.refl _ _) hk1; have hkc := l2.2.1; have HL2 := Lib.hid l2; have HB2 := Lib.hid (below_then HB1.out b1); clear b1 l2)
            | (go_at_call 40; refine (mof_any A n cp sz x w2 (HX.out.kept HB2.out) (HT.out.kept HB2.out) HN.out.1 HN.out.2 hs hs2 HQ.out).mono ?_; rintro e w3 ⟨rfl, b1⟩; have HL3 := Lib.hid (HL2.out.kept stay_pf b1); have HB3 := Lib.hid (below_then HB2.out b1); clear b1)
            | (go_at_call 34; (with_reducible show Calls _ _ _ w3 _); refine (proven_any _ nl L n sz k k c2 _ w3 HL3.out (HT.out.kept HB3.out) HN.out.1 (by have := HN.out.2; omega) hs hs2 (by have := HQ.out; unfold nb at this; omega) HV.out HXX.out).mono ?_; rintro e w4 ⟨rfl, b1⟩; rw [HPC.out]; have HL4 := Lib.hid (HL3.out.kept stay_pf b1); have HB4 := Lib.hid (below_then HB3.out b1); clear b1)
            | (go_at_call 34; (with_reducible show Calls _ _ _ w4 _); refine (proven_any _ nl (L.drop 1) n sz k (k - 1) _ _ w4 (by first | exact HL4.out.suf hk1 | exact LS.none (by omega) (by rw [List.length_drop, HLL.out])) (HT.out.kept HB4.out) HN.out.1 (by have := HN.out.2; omega) hs hs2 (by have := HQ.out; unfold nb at this; omega) HV.out HX1.out).mono ?_; rintro e w5 ⟨rfl, b1⟩; rw [HD1.out]; have HB5 := Lib.hid (below_then HB4.out b1); clear b1))
          all_goals (go_ret; exact ⟨rfl, HB5.out⟩)
  · have dz : decide ((0 : Int) < size) = false := decide_eq_false g4
    have HBO : Hid (¬ (0 < size ∧ size ≤ (n : Int).tdiv 20)) := Lib.hid (fun h => g4 h.1)
    clear g4
    by_cases g2 : (64 : Int) < ((strB nl).size : Int)
    · have d2 : decide ((64 : Int) < ((strB nl).size : Int)) = true := decide_eq_true g2
      clear g2
      go_enter Tryd.func11, Tryd.ntmps11
      go_wp2_with (first
        | (go_at_call 12; (with_reducible show Calls _ _ _ w _); refine (awake_any w HT.out).mono ?_; rintro e w1 ⟨rfl, b1⟩; have HB1 := Lib.hid b1; clear b1)
        | (go_at_call 12; refine (awake_any w1 (HT.out.kept HB1.out)).mono ?_; rintro e w2 ⟨rfl, b1⟩; have HB2 := Lib.hid (below_then HB1.out b1); clear b1))
      go_ret
      exact ⟨rfl, HB2.out⟩
    have d2 : decide ((64 : Int) < ((strB nl).size : Int)) = false := decide_eq_false g2
    clear g2
    obtain ⟨L, er, hL64, hc1, _, hcase⟩ := prove_both n size c x nl hn3 HX.out.1 HW.out HBO.out
    have HC1 := Lib.hid hc1
    clear hc1
    rcases hcase with ⟨rfl, rfl⟩ | ⟨rfl, sz, k, rfl, rfl, h1, hs, hs2, hq, hv, hLe⟩
    · clear hL64
      have HLL : Hid (([] : List Pf).length = 0) := Lib.hid rfl
      go_enter Tryd.func11, Tryd.ntmps11
      go_wp2_with (first
        | (go_at_call 12; (with_reducible show Calls _ _ _ w _); refine (awake_any w HT.out).mono ?_; rintro e w1 ⟨rfl, b1⟩; have HB1 := Lib.hid b1; clear b1)
        | (go_at_call 37; refine (HC1.out A cp w1 (HX.out.kept HB1.out) (HT.out.kept HB1.out)).mono ?_; rintro e w2 ⟨A2, c2, rfl, l2, b1⟩; rw [HLL.out]; have HB2 := Lib.hid (below_then HB1.out b1); clear b1 l2))
      go_ret
      exact ⟨rfl, HB2.out⟩
    · have HV := Lib.hid hv
      have HQ := Lib.hid hq
      have HN : Hid (1 ≤ n ∧ n ≤ 1000000) := Lib.hid (by omega)
      obtain ⟨v1, v2, v3, v4, v5, v6⟩ := spotB_parts hv
      have hkq : k ≤ nb n sz := by omega
      have hlen : L.length = k := by rw [hLe, prfL_length, spotsL_length]
      have HLL := Lib.hid hlen
      have HPC : Hid (provL (rt (lvsK x sz (nb n sz))) n sz (spotsL nl ((n - 1) / sz + 1) k) L = true) := Lib.hid (by rw [hLe]; exact prov_complete HX.out.1 h1 hs hq hkq)
      have HXX : Hid (∀ j, j < k → (gP L j).x.length ≤ 1000000) := Lib.hid (fun j hj => by
        rw [hLe, prfL_get (by rw [spotsL_length]; exact hj)]
        show (blk x sz _).length ≤ 1000000
        rw [blk, List.length_take, List.length_drop, HX.out.1]; omega)
      have hnot : ¬ (sz ≤ d) := fun h => HBO.out ⟨by omega, by rw [hD]; omega⟩
      have dn1 : decide (sz ≤ d) = false := decide_eq_false hnot
      have dn2 : decide (0 < sz) = true := decide_eq_true (by omega)
      have e1 : ((k : Int) != (k : Int)) = false := by simp
      have hk64 : k ≤ 64 := by omega
      clear hq hv hLe v1 v2 v3 v4 v5 v6 hkq hlen hL64
      by_cases hk0 : k = 0
      · have ek : ((k : Int) == 0) = true := by rw [hk0]; rfl
        clear hk0
        go_enter Tryd.func11, Tryd.ntmps11
        go_wp2_with (first
          | (go_at_call 12; (with_reducible show Calls _ _ _ w _); refine (awake_any w HT.out).mono ?_; rintro e w1 ⟨rfl, b1⟩; have HB1 := Lib.hid b1; clear b1)
          | (go_at_call 37; refine (HC1.out A cp w1 (HX.out.kept HB1.out) (HT.out.kept HB1.out)).mono ?_; rintro e w2 ⟨A2, c2, rfl, l2, b1⟩; rw [HLL.out] at l2; rw [HLL.out]; skip; have HL2 := Lib.hid l2; have HB2 := Lib.hid (below_then HB1.out b1); clear b1 l2)
          | (go_at_call 40; refine (mof_any A n cp sz x w2 (HX.out.kept HB2.out) (HT.out.kept HB2.out) HN.out.1 HN.out.2 hs hs2 HQ.out).mono ?_; rintro e w3 ⟨rfl, b1⟩; have HL3 := Lib.hid (HL2.out.kept stay_pf b1); have HB3 := Lib.hid (below_then HB2.out b1); clear b1)
          | (go_at_call 34; (with_reducible show Calls _ _ _ w3 _); refine (proven_any _ nl L n sz k k c2 _ w3 HL3.out (HT.out.kept HB3.out) HN.out.1 (by have := HN.out.2; omega) hs hs2 (by have := HQ.out; unfold nb at this; omega) HV.out HXX.out).mono ?_; rintro e w4 ⟨rfl, b1⟩; rw [HPC.out]; have HL4 := Lib.hid (HL3.out.kept stay_pf b1); have HB4 := Lib.hid (below_then HB3.out b1); clear b1)
          | fail)
        go_ret
        exact ⟨rfl, HB4.out⟩
      · have ek : ((k : Int) == 0) = false := by rw [beq_eq_false_iff_ne]; omega
        have HD1 : Hid (provL (rt (lvsK x sz (nb n sz))) n sz (spotsL nl ((n - 1) / sz + 1) k) (L.drop 1) = false) := Lib.hid (prov_len (by rw [List.length_drop, HLL.out, spotsL_length]; omega))
        have HX1 : Hid (∀ j, j < k - 1 → (gP (L.drop 1) j).x.length ≤ 1000000) := Lib.hid (fun j hj => by
          have h9 := HXX.out (1 + j) (by omega)
          have e9 : gP (L.drop 1) j = gP L (1 + j) := by simp [gP, List.getD, Nat.add_comm]
          rw [e9]; exact h9)
        have hk1 : 1 ≤ k := by omega
        clear hk0
        go_enter Tryd.func11, Tryd.ntmps11
        go_wp2_with (first
          | (go_at_call 12; (with_reducible show Calls _ _ _ w _); refine (awake_any w HT.out).mono ?_; rintro e w1 ⟨rfl, b1⟩; have HB1 := Lib.hid b1; clear b1)
          | (go_at_call 37; refine (HC1.out A cp w1 (HX.out.kept HB1.out) (HT.out.kept HB1.out)).mono ?_; rintro e w2 ⟨A2, c2, rfl, l2, b1⟩; rw [HLL.out] at l2; rw [HLL.out]; obtain ⟨x0, g2, o2, cs0, _, rfl, _⟩ := l2.at_ stay_pf (Below.refl _ _) hk1; have hkc := l2.2.1; have HL2 := Lib.hid l2; have HB2 := Lib.hid (below_then HB1.out b1); clear b1 l2)
          | (go_at_call 40; refine (mof_any A n cp sz x w2 (HX.out.kept HB2.out) (HT.out.kept HB2.out) HN.out.1 HN.out.2 hs hs2 HQ.out).mono ?_; rintro e w3 ⟨rfl, b1⟩; have HL3 := Lib.hid (HL2.out.kept stay_pf b1); have HB3 := Lib.hid (below_then HB2.out b1); clear b1)
          | (go_at_call 34; (with_reducible show Calls _ _ _ w3 _); refine (proven_any _ nl L n sz k k c2 _ w3 HL3.out (HT.out.kept HB3.out) HN.out.1 (by have := HN.out.2; omega) hs hs2 (by have := HQ.out; unfold nb at this; omega) HV.out HXX.out).mono ?_; rintro e w4 ⟨rfl, b1⟩; rw [HPC.out]; have HL4 := Lib.hid (HL3.out.kept stay_pf b1); have HB4 := Lib.hid (below_then HB3.out b1); clear b1)
          | (go_at_call 34; (with_reducible show Calls _ _ _ w4 _); refine (proven_any _ nl (L.drop 1) n sz k (k - 1) _ _ w4 (by first | exact HL4.out.suf hk1 | exact LS.none (by omega) (by rw [List.length_drop, HLL.out])) (HT.out.kept HB4.out) HN.out.1 (by have := HN.out.2; omega) hs hs2 (by have := HQ.out; unfold nb at this; omega) HV.out HX1.out).mono ?_; rintro e w5 ⟨rfl, b1⟩; rw [HD1.out]; have HB5 := Lib.hid (below_then HB4.out b1); clear b1))
        all_goals (go_ret; exact ⟨rfl, HB5.out⟩)
end Go.Proofs.YtgjgofjabdjclaaDoor
