/- The law ChallengeDifferent: its walk. -/
import Derived.Test.YtgjgofjabdjclaaDoorA18
import Derived.LoopTactic
import Derived.Deep.QuietTactic
import Derived.BigQuiet
namespace Go.Proofs.YtgjgofjabdjclaaDoor
open Go Go.RowKit Gf Sha

theorem asc_lt {l : List Int} (h : l.Pairwise (· < ·)) {i j : Nat} (hj : j < l.length) (hi : i < j) : l[i] < l[j] := List.pairwise_iff_getElem.1 h i j (by omega) hj hi

set_option maxRecDepth 100000 in
set_option maxHeartbeats 4000000 in
theorem different_walk (nl : List UInt8) (b c : Int) (w : World) (hT : Tabs w) :
    Calls Tryd.prog 5 #[.string (strB nl), .int .i64 b, .int .i64 c] w fun e w' => e = .returned (.bool true) ∧ Below w.heap.size w w' := by
  have HT := Lib.hid hT
  clear hT
  by_cases h64 : (64 : Int) < ((strB nl).size : Int)
  · have d64 : decide ((64 : Int) < ((strB nl).size : Int)) = true := decide_eq_true h64
    clear h64
    go_enter Tryd.func5, Tryd.ntmps5
    go_wp2_with (first
      | (go_at_call 12; (with_reducible show Calls _ _ _ w _); refine (awake_any w HT.out).mono ?_; rintro e w1 ⟨rfl, b1⟩; have HB1 := Lib.hid b1; clear b1)
      | (go_at_call 12; refine (awake_any w1 (HT.out.kept HB1.out)).mono ?_; rintro e w2 ⟨rfl, b1⟩; have HB2 := Lib.hid (below_then HB1.out b1); clear b1))
    go_ret
    exact ⟨rfl, HB2.out⟩
  · have d64 : decide ((64 : Int) < ((strB nl).size : Int)) = false := decide_eq_false h64
    clear h64
    by_cases hs : spotB nl.length b c = true
    · obtain ⟨v1, v2, v3, v4, v5, v6⟩ := spotB_parts hs
      obtain ⟨b, rfl⟩ := Int.eq_ofNat_of_zero_le (show 0 ≤ b by omega)
      obtain ⟨c, rfl⟩ := Int.eq_ofNat_of_zero_le v4
      have hcb : c ≤ b := by omega
      have hc0 : 0 ≤ (c : Int) := by omega
      have hc1 : (c : Int) ≤ 64 := by omega
      clear v1 v2 v3 v4 v5 v6
      go_enter Tryd.func5, Tryd.ntmps5
      go_wp2_with (first
        | (go_at_call 12; (with_reducible show Calls _ _ _ w _); refine (awake_any w HT.out).mono ?_; rintro e w1 ⟨rfl, b1⟩; have HB1 := Lib.hid b1; clear b1)
        | (go_at_call 21; refine (spots_yes nl b c w1 (HT.out.kept HB1.out) hs).mono ?_; rintro e w2 ⟨v, rfl, ⟨A, n, cp, rfl⟩, o1, b2⟩; obtain ⟨A', c', e', _⟩ := (RW.of_own o1.2).1.form; obtain rfl := (Value.slice.inj e').2.1; clear e'; have HB2 := Lib.hid (below_then HB1.out b2); have HO2 := Lib.hid (RW.of_own o1.2).1; clear o1 b2))
      have hlen := spotsL_length nl b n
      have HM : Hid (∀ k (hk : k < (spotsL nl b n).length), 0 ≤ (spotsL nl b n)[k] ∧ (spotsL nl b n)[k] < b) := Lib.hid fun k hk => spotsL_mem hcb (List.getElem_mem hk)
      go_loopw [32] (fun i wr => ∃ k : Nat, k ≤ n ∧ i = .int .i64 (k : Int) ∧ Hid (∃ m, wr = w2.drewN m)) (fun i _ => n - (intOf i).toNat)
      case atStart => exact ⟨0, by omega, rfl, Lib.hid ⟨0, rfl⟩⟩
      case round =>
        obtain ⟨k, hk, rfl, hw⟩ := hrel
        by_cases hlt : k < n
        · obtain ⟨m, rfl⟩ := hw.out
          obtain ⟨g, o, c', e, _, hat⟩ := HO2.out.at_ (by omega)
          cases e
          have hkl : k < (spotsL nl b n).length := by omega
          obtain ⟨x, hx⟩ : ∃ x, (spotsL nl b n)[k] = x := ⟨_, rfl⟩
          have cx : w2.cell? ⟨g, o + k, none⟩ = some (.int .i64 x) := hat k _ (by rw [List.getElem?_map, List.getElem?_eq_getElem hkl, hx]; rfl)
          have x0 : decide (x < 0) = false := decide_eq_false (by have := (HM.out k hkl).1; omega)
          have x1 : decide ((b : Int) ≤ x) = false := decide_eq_false (by have := (HM.out k hkl).2; omega)
          rcases k with _ | j
          · clear hat hx
            simp only [Nat.add_zero] at cx
            go_wp2_with fail
            go_quiet (fail)
            go_wp2_with fail
            go_roundw
            case rel => exact ⟨1, by omega, rfl, Lib.hid ⟨_, rfl⟩⟩
            case measure => simp [intOf]; omega
          · obtain ⟨y, hy⟩ : ∃ y, (spotsL nl b n)[j] = y := ⟨_, rfl⟩
            have cy : w2.cell? ⟨g, o + j, none⟩ = some (.int .i64 y) := hat j _ (by rw [List.getElem?_map, List.getElem?_eq_getElem (by omega), hy]; rfl)
            have x2 : decide (x ≤ y) = false := decide_eq_false (by have := asc_lt (spotsL_asc nl b n) hkl (Nat.lt_succ_self j); omega)
            clear hat hx hy
            go_wp2_with fail
            go_quiet (fail)
            go_wp2_with fail
            go_roundw
            case rel => exact ⟨j + 1 + 1, by omega, by go_num, Lib.hid ⟨_, rfl⟩⟩
            case measure => simp [intOf]; omega
        · obtain rfl : k = n := by omega
          go_wp2_with fail
          go_ret
          exact ⟨rfl, by obtain ⟨m, rfl⟩ := hw.out; exact below_drewN HB2.out m⟩
    · simp only [Bool.not_eq_true] at hs
      go_enter Tryd.func5, Tryd.ntmps5
      go_wp2_with (first
        | (go_at_call 12; (with_reducible show Calls _ _ _ w _); refine (awake_any w HT.out).mono ?_; rintro e w1 ⟨rfl, b1⟩; have HB1 := Lib.hid b1; clear b1)
        | (go_at_call 21; refine (spots_no nl b c w1 hs).mono ?_; rintro e w2 ⟨rfl, rfl⟩))
      go_ret
      exact ⟨rfl, HB1.out⟩
end Go.Proofs.YtgjgofjabdjclaaDoor
