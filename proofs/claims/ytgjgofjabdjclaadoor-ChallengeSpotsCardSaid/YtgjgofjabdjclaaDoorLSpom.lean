/- The law ChallengeSpots: its walk. -/
import Derived.Test.YtgjgofjabdjclaaDoorLDifm
import Derived.Test.YtgjgofjabdjclaaDoorRsnm
namespace Go.Proofs.YtgjgofjabdjclaaDoor
open Go Go.RowKit Gf Sha

set_option maxRecDepth 100000 in
set_option maxHeartbeats 4000000 in
theorem spots_walk (nl : List UInt8) (b c : Int) (w : World) (hT : Tabs w) :
    Calls Tryd.prog 4 #[.string (strB nl), .int .i64 b, .int .i64 c] w fun e w' => e = .returned (.bool true) ∧ Below w.heap.size w w' := by
  have HT := Lib.hid hT
  clear hT
  by_cases h64 : (64 : Int) < ((strB nl).size : Int)
  · have d64 : decide ((64 : Int) < ((strB nl).size : Int)) = true := decide_eq_true h64
    clear h64
    go_enter Tryd.func4, Tryd.ntmps4
    go_wp2_with (first
      | (go_at_call 12; (with_reducible show Calls _ _ _ w _); refine (awake_any w HT.out).mono ?_; rintro e w1 ⟨rfl, b1⟩; have HB1 := Lib.hid b1; clear b1)
      | (go_at_call 12; refine (awake_any w1 (HT.out.kept HB1.out)).mono ?_; rintro e w2 ⟨rfl, b1⟩; have HB2 := Lib.hid (below_then HB1.out b1); clear b1))
    go_ret
    exact ⟨rfl, HB2.out⟩
  · have d64 : decide ((64 : Int) < ((strB nl).size : Int)) = false := decide_eq_false h64
    clear h64
    by_cases hs : spotB nl.length b c = true
    · obtain ⟨v1, v2, v3, v4, v5, v6⟩ := spotB_parts hs
      obtain ⟨b, rfl⟩ := Int.eq_ofNat_of_zero_le (show 0 ≤ b by omega)
      obtain ⟨c, rfl⟩ := Int.eq_ofNat_of_zero_le v4
      have hc0 : 0 ≤ (c : Int) := by omega
      have hc1 : (c : Int) ≤ 64 := by omega
      by_cases h4 : (400 : Int) < (b : Int)
      · have d4 : decide ((400 : Int) < (b : Int)) = true := decide_eq_true h4
        have d5 : decide ((b : Int) ≤ 1048576) = true := decide_eq_true v3
        clear h4 v1 v2 v3 v4 v5 v6
        go_enter Tryd.func4, Tryd.ntmps4
        go_wp2_with (first
          | (go_at_call 12; (with_reducible show Calls _ _ _ w _); refine (awake_any w HT.out).mono ?_; rintro e w1 ⟨rfl, b1⟩; have HB1 := Lib.hid b1; clear b1)
          | (go_at_call 12; refine (awake_any w1 (HT.out.kept HB1.out)).mono ?_; rintro e w2 ⟨rfl, b1⟩; have HB2 := Lib.hid (below_then HB1.out b1); clear b1))
        go_ret
        exact ⟨rfl, HB2.out⟩
      · have d4 : decide ((400 : Int) < (b : Int)) = false := decide_eq_false h4
        clear h4 v1 v2 v3 v4 v5 v6
        go_enter Tryd.func4, Tryd.ntmps4
        go_wp2_with (first
          | (go_at_call 12; (with_reducible show Calls _ _ _ w _); refine (awake_any w HT.out).mono ?_; rintro e w1 ⟨rfl, b1⟩; have HB1 := Lib.hid b1; clear b1)
          | (go_at_call 21; refine (spots_yes nl b c w1 (HT.out.kept HB1.out) hs).mono ?_; rintro e w2 ⟨v, rfl, ⟨A, n, cp, rfl⟩, o1, b2⟩; obtain ⟨A', c', e', _⟩ := (RW.of_own o1.2).1.form; obtain rfl := (Value.slice.inj e').2.1; clear e'; have HB2 := Lib.hid (below_then HB1.out b2); have HO2 := Lib.hid (RW.of_own o1.2).1; clear o1 b2)
          | (go_at_call 22; refine (rspots_yes nl b n w2 hs).mono ?_; rintro e w3 ⟨v, rfl, ⟨A2, n2, cp2, rfl⟩, o1, b2⟩; obtain ⟨A3, c3, e', _⟩ := (RW.of_own o1.2).1.form; obtain rfl := (Value.slice.inj e').2.1; clear e'; have HO2' := Lib.hid (HO2.out.kept b2); have HB3 := Lib.hid (below_then HB2.out b2); have HO3 := Lib.hid (RW.of_own o1.2).1; clear o1 b2))
        have hlen := spotsL_length nl b n2
        obtain ⟨z, hz⟩ : ∃ z, z = spotsL nl b n2 := ⟨_, rfl⟩
        rw [← hz] at hlen HO2' HO3
        clear hz HO2
        go_loopw [54] (fun i wr => ∃ k : Nat, k ≤ n2 ∧ i = .int .i64 (k : Int) ∧ Hid (∃ m, wr = w3.drewN m)) (fun i _ => n2 - (intOf i).toNat)
        case atStart => exact ⟨0, by omega, rfl, Lib.hid ⟨0, rfl⟩⟩
        case round =>
          obtain ⟨k, hk, rfl, hw⟩ := hrel
          by_cases hlt : k < n2
          · obtain ⟨m, rfl⟩ := hw.out
            obtain ⟨g, o, c4, e, _, hat⟩ := HO2'.out.at_ (by omega)
            cases e
            obtain ⟨g', o', c5, e, _, hat'⟩ := HO3.out.at_ (by omega)
            cases e
            have hkl : k < z.length := by omega
            obtain ⟨x, hx⟩ : ∃ x, z[k] = x := ⟨_, rfl⟩
            have cx : w3.cell? ⟨g, o + k, none⟩ = some (.int .i64 x) := hat k _ (by rw [List.getElem?_map, List.getElem?_eq_getElem hkl, hx]; rfl)
            have cy : w3.cell? ⟨g', o' + k, none⟩ = some (.int .i64 x) := hat' k _ (by rw [List.getElem?_map, List.getElem?_eq_getElem hkl, hx]; rfl)
            clear hat hat' hx
            go_wp2_with fail
            go_quiet (fail)
            go_wp2_with fail
            go_roundw
            case rel => exact ⟨k + 1, by omega, by go_num, Lib.hid ⟨_, rfl⟩⟩
            case measure => simp [intOf]; omega
          · obtain rfl : k = n2 := by omega
            go_wp2_with fail
            go_ret
            exact ⟨rfl, by obtain ⟨m, rfl⟩ := hw.out; exact below_drewN HB3.out m⟩
    · simp only [Bool.not_eq_true] at hs
      by_cases h4 : (400 : Int) < b
      · have d4 : decide ((400 : Int) < b) = true := decide_eq_true h4
        by_cases h5 : b ≤ 1048576
        · have d5 : decide (b ≤ 1048576) = true := decide_eq_true h5
          clear h4 h5
          go_enter Tryd.func4, Tryd.ntmps4
          go_wp2_with (first
            | (go_at_call 12; (with_reducible show Calls _ _ _ w _); refine (awake_any w HT.out).mono ?_; rintro e w1 ⟨rfl, b1⟩; have HB1 := Lib.hid b1; clear b1)
            | (go_at_call 12; refine (awake_any w1 (HT.out.kept HB1.out)).mono ?_; rintro e w2 ⟨rfl, b1⟩; have HB2 := Lib.hid (below_then HB1.out b1); clear b1))
          go_ret
          exact ⟨rfl, HB2.out⟩
        · have d5 : decide (b ≤ 1048576) = false := decide_eq_false h5
          clear h4 h5
          go_enter Tryd.func4, Tryd.ntmps4
          go_wp2_with (first
            | (go_at_call 12; (with_reducible show Calls _ _ _ w _); refine (awake_any w HT.out).mono ?_; rintro e w1 ⟨rfl, b1⟩; have HB1 := Lib.hid b1; clear b1)
            | (go_at_call 21; refine (spots_no nl b c w1 hs).mono ?_; rintro e w2 ⟨rfl, rfl⟩)
            | (go_at_call 22; refine (rspots_no nl b c w1 hs).mono ?_; rintro e w2 ⟨rfl, rfl⟩))
          go_loop [54] (fun i => i = .int .i64 0) (fun i => 0)
          case atStart => exact rfl
          case round =>
            obtain rfl := hrel
            go_wp2_with fail
            go_ret
            exact ⟨rfl, HB1.out⟩
      · have d4 : decide ((400 : Int) < b) = false := decide_eq_false h4
        clear h4
        go_enter Tryd.func4, Tryd.ntmps4
        go_wp2_with (first
          | (go_at_call 12; (with_reducible show Calls _ _ _ w _); refine (awake_any w HT.out).mono ?_; rintro e w1 ⟨rfl, b1⟩; have HB1 := Lib.hid b1; clear b1)
          | (go_at_call 21; refine (spots_no nl b c w1 hs).mono ?_; rintro e w2 ⟨rfl, rfl⟩)
          | (go_at_call 22; refine (rspots_no nl b c w1 hs).mono ?_; rintro e w2 ⟨rfl, rfl⟩))
        go_loop [54] (fun i => i = .int .i64 0) (fun i => 0)
        case atStart => exact rfl
        case round =>
          obtain rfl := hrel
          go_wp2_with fail
          go_ret
          exact ⟨rfl, HB1.out⟩
end Go.Proofs.YtgjgofjabdjclaaDoor
