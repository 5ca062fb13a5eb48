/- kinkeeplaw10.long. -/
import Derived.Test.YtakedococfklgaaRe7m
namespace Go.Proofs.Ytakedococfklgaa
open Go.RowKit Gf

/-- Whether shares are more, or longer, than considered. -/
def loB (l : List (Int × List UInt8)) (N M : Nat) : Bool := if N < l.length then decide (l.length ≤ 64) else (List.range l.length).any fun i => decide (M < (gS l i).2.length ∧ (gS l i).2.length ≤ 1024)

set_option maxRecDepth 100000 in
set_option maxHeartbeats 1000000 in
theorem long_any (A : Option Addr) (n c N M : Nat) (l : List (Int × List UInt8)) (w : World) (h : SS w A n c l) :
    Calls Try.prog 18 #[.slice A n c, .int .i64 (N : Int), .int .i64 (M : Int)] w (ChkB (loB l N M) w) := by
  have hn := h.len_le
  have H := Lib.hid h
  have HL := Lib.hid h.1
  clear h
  by_cases hN : N < n
  · have q1 : decide (N < n) = true := by simpa using hN
    by_cases h64 : n ≤ 64
    · have q2 : decide ((n : Int) ≤ 64) = true := by simp; omega
      have HR : Hid (loB l N M = true) := Lib.hid (by unfold loB; rw [HL.out, if_pos hN, decide_eq_true h64])
      clear h64 hN
      go_enter Try.func18, Try.ntmps18
      go_wp2_with fail
      go_ret
      exact ⟨ret_bool HR.out.symm, Below.refl _ _⟩
    · have q2 : decide ((n : Int) ≤ 64) = false := by simp; omega
      have HR : Hid (loB l N M = false) := Lib.hid (by unfold loB; rw [HL.out, if_pos hN, decide_eq_false h64])
      clear h64 hN
      go_enter Try.func18, Try.ntmps18
      go_wp2_with fail
      go_ret
      exact ⟨ret_bool HR.out.symm, Below.refl _ _⟩
  · have q1 : decide (N < n) = false := by simpa using hN
    have HE : Hid (loB l N M = (List.range l.length).any fun i => decide (M < (gS l i).2.length ∧ (gS l i).2.length ≤ 1024)) := Lib.hid (by unfold loB; rw [if_neg (by rw [HL.out]; exact hN)])
    clear hN
    go_enter Try.func18, Try.ntmps18
    go_wp2_with fail
    go_loopw [18] (fun i wr => ∃ k : Nat, k ≤ n ∧ i = .int .i64 (k : Int) ∧ Hid (∀ j, j < k → ¬ (M < (gS l j).2.length ∧ (gS l j).2.length ≤ 1024)) ∧ Hid (Below w.heap.size w wr)) (fun i _ => n - (intOf i).toNat)
    case atStart => exact ⟨0, by omega, rfl, Lib.hid (fun j hj => absurd hj (by omega)), Lib.hid (Below.refl _ _)⟩
    case round =>
      obtain ⟨k, hk, rfl, hall, hb⟩ := hrel
      by_cases hlt : k < n
      · obtain ⟨g1, o1, A1, n1, c1, rfl, r1, r2, r3⟩ := H.out.at_ hb.out hlt
        obtain ⟨y, hy⟩ : ∃ y, y = (gS l k).1 := ⟨_, rfl⟩
        rw [← hy] at r1
        have HN1 := Lib.hid r3.1
        have HB7 := Lib.hid (below_then hb.out (kb1 wr (.cells #[.int .i64 y, .slice A1 n1 c1] 33)))
        clear hy r3
        by_cases e1 : M < n1
        · have t1 : decide (M < n1) = true := by simpa using e1
          by_cases e2 : n1 ≤ 1024
          · have t2 : decide ((n1 : Int) ≤ 1024) = true := by simp; omega
            have HR : Hid (loB l N M = true) := Lib.hid (by rw [HE.out, List.any_eq_true]; exact ⟨k, List.mem_range.2 (by rw [HL.out]; exact hlt), decide_eq_true (by rw [HN1.out]; exact ⟨e1, e2⟩)⟩)
            clear e1 e2
            go_wp2_with fail
            go_ret
            exact ⟨ret_bool HR.out.symm, HB7.out⟩
          · have t2 : decide ((n1 : Int) ≤ 1024) = false := by simp; omega
            have HA : Hid (∀ j, j < k + 1 → ¬ (M < (gS l j).2.length ∧ (gS l j).2.length ≤ 1024)) := Lib.hid (fun j hj => by
              by_cases e : j = k
              · rw [e, HN1.out]; exact fun h => e2 h.2
              · exact hall.out j (by omega))
            clear e1 e2
            go_wp2_with fail
            go_roundw
            case rel => exact ⟨k + 1, by omega, by go_num, HA, HB7⟩
            case measure => simp [intOf]; omega
        · have t1 : decide (M < n1) = false := by simpa using e1
          have HA : Hid (∀ j, j < k + 1 → ¬ (M < (gS l j).2.length ∧ (gS l j).2.length ≤ 1024)) := Lib.hid (fun j hj => by
            by_cases e : j = k
            · rw [e, HN1.out]; exact fun h => e1 h.1
            · exact hall.out j (by omega))
          clear e1
          go_wp2_with fail
          go_roundw
          case rel => exact ⟨k + 1, by omega, by go_num, HA, HB7⟩
          case measure => simp [intOf]; omega
      · obtain rfl : k = n := by omega
        have HR : Hid (loB l N M = false) := Lib.hid (by rw [HE.out, List.any_eq_false]; intro i hi; rw [List.mem_range, HL.out] at hi; simpa using hall.out i hi)
        go_wp2_with fail
        go_ret
        exact ⟨ret_bool HR.out.symm, hb.out⟩
end Go.Proofs.Ytakedococfklgaa
