/- Contracts of kinkeeplaw08.few and kinkeepref08.Blocks. -/
import Derived.Test.YtoeeklkebcgmaaaRf3
import Derived.Test.YtoeeklkebcgmaaaRs4
namespace Go.Proofs.Ytoeeklkebcgmaaa
open Go.RowKit Gf

def fewR (m : List (List UInt8)) (i : Nat) : Bool := decide ((gR m i).length ≤ 40)
def fewB (m : List (List UInt8)) (k : Int) : Bool := (List.range m.length).all (fewR m) && decide ((m.length : Int) ≤ k)
theorem fewB_false {m : List (List UInt8)} {k : Int} {i : Nat} (hi : i < m.length) (h : fewR m i = false) : fewB m k = false := by
  have : (List.range m.length).all (fewR m) = false := by
    rw [Bool.eq_false_iff]; intro h'; rw [List.all_eq_true] at h'; rw [h' i (List.mem_range.2 hi)] at h; cases h
  simp only [fewB, this, Bool.false_and]
theorem fewB_end {m : List (List UInt8)} {k : Int} (h : ∀ i, i < m.length → fewR m i = true) : fewB m k = decide ((m.length : Int) ≤ k) := by
  have : (List.range m.length).all (fewR m) = true := by rw [List.all_eq_true]; intro i hi; exact h i (List.mem_range.1 hi)
  simp only [fewB, this, Bool.true_and]

set_option maxHeartbeats 1000000 in
theorem few_any (A : Option Addr) (n c : Nat) (m : List (List UInt8)) (k : Int) (w : World) (h : MS w A n c m) :
    Calls Try.prog 15 #[.slice A n c, .int .i64 k] w fun e w' => e = .returned (.bool (fewB m k)) ∧ w = w' := by
  have hn := h.len_le
  have HL := Lib.hid h.1
  have HM := Lib.hid h
  clear h
  go_enter Try.func15, Try.ntmps15
  go_wp2
  go_loop [5] (fun i => ∃ j : Nat, j ≤ n ∧ i = .int .i64 (j : Int) ∧ Hid (∀ i, i < j → fewR m i = true)) (fun i => n - (intOf i).toNat)
  case atStart => exact ⟨0, by omega, rfl, Lib.hid (fun j hj => absurd hj (by omega))⟩
  case round =>
    obtain ⟨j, hj, rfl, hall⟩ := hrel
    by_cases hlt : j < n
    · obtain ⟨g, o, A1, n1, c1, rfl, hc, hr1⟩ := HM.out.at_ (Below.refl _ _) hlt
      have HN1 := Lib.hid hr1.1
      have hln := hr1.len_le
      clear hr1
      by_cases e1 : 40 < n1
      · have q1 : decide ((40 : Int) < (n1 : Int)) = true := by simp; omega
        have HF : Hid (fewB m k = false) := Lib.hid (fewB_false (by rw [HL.out]; exact hlt) (by unfold fewR; rw [HN1.out]; simp; omega))
        clear e1 hall
        go_wp2
        go_ret
        exact ⟨ret_bool (by rw [HF.out]), rfl⟩
      · have q1 : decide ((40 : Int) < (n1 : Int)) = false := by simp; omega
        have HA : Hid (∀ i, i < j + 1 → fewR m i = true) := Lib.hid (fun i hi => by
          by_cases e : i = j
          · subst e; unfold fewR; rw [HN1.out]; simp; omega
          · exact hall.out i (by omega))
        clear e1 hall
        go_wp2
        go_round
        case rel => exact ⟨j + 1, by omega, by go_num, HA⟩
        case measure => simp [intOf]; omega
    · obtain rfl : j = n := by omega
      have HT : Hid (fewB m k = decide ((j : Int) ≤ k)) := Lib.hid (by rw [fewB_end (fun i hi => hall.out i (by rw [HL.out] at hi; exact hi)), HL.out])
      go_wp2
      go_ret
      exact ⟨ret_bool (by rw [HT.out]), rfl⟩

/-- Blocks. -/
def blkB (m : List (List UInt8)) (k : Int) : Bool := oneB m && decide ((1 : Int) ≤ (m.length : Int)) && decide ((m.length : Int) ≤ k)

set_option maxHeartbeats 1000000 in
theorem blocks_any (A : Option Addr) (n c : Nat) (m : List (List UInt8)) (k : Int) (w : World) (h : MS w A n c m) :
    Calls Try.prog 17 #[.slice A n c, .int .i64 k] w fun e w' => e = .returned (.bool (blkB m k)) ∧ Below w.heap.size w w' := by
  have hn := h.len_le
  have HL := Lib.hid h.1
  have HM := Lib.hid h
  clear h
  go_enter Try.func17, Try.ntmps17
  go_wp2
  go_loopw [5] (fun i wr => ∃ j : Nat, j ≤ n ∧ i = .int .i64 (j : Int) ∧ Hid (∀ i, i < j → okRow m i = true) ∧ Hid (Below w.heap.size w wr)) (fun i _ => n - (intOf i).toNat)
  case atStart => exact ⟨0, by omega, rfl, Lib.hid (fun j hj => absurd hj (by omega)), Lib.hid (Below.refl _ _)⟩
  case round =>
    obtain ⟨j, hj, rfl, hall, hb⟩ := hrel
    by_cases hlt : j < n
    · obtain ⟨g, o, A1, n1, c1, rfl, hc, hr1⟩ := HM.out.at_ hb.out hlt
      obtain ⟨g', o', A2, n2, c2, e2, hc2, hr2⟩ := HM.out.at_ hb.out (show 0 < n by omega)
      injection e2 with e2
      injection e2 with e3 e4
      subst e3 e4
      rw [Nat.add_zero] at hc2
      have HN1 := Lib.hid hr1.1
      have HN2 := Lib.hid hr2.1
      have hln := hr1.len_le
      have hln2 := hr2.len_le
      clear hr1 hr2
      by_cases e1 : n1 = 0
      · have q1 : decide ((n1 : Int) < 1) = true := by simp; omega
        have HF : Hid (blkB m k = false) := Lib.hid (by unfold blkB; rw [oneB_false (i := j) (by rw [HL.out]; exact hlt) (by unfold okRow; rw [HN1.out, HN2.out]; simp [e1])]; rfl)
        clear e1 hall
        go_wp2
        go_quiet (fail)
        go_wp2
        go_ret
        exact ⟨ret_bool (by rw [HF.out]), below_drewN hb.out _⟩
      · have q1 : decide ((n1 : Int) < 1) = false := by simp; omega
        by_cases e2 : 65536 < n1
        · have q2 : decide ((65536 : Int) < (n1 : Int)) = true := by simp; omega
          have HF : Hid (blkB m k = false) := Lib.hid (by unfold blkB; rw [oneB_false (i := j) (by rw [HL.out]; exact hlt) (by unfold okRow; rw [HN1.out, HN2.out]; simp; omega)]; rfl)
          clear e1 hall
          go_wp2
          go_quiet (fail)
          go_wp2
          go_ret
          exact ⟨ret_bool (by rw [HF.out]), below_drewN hb.out _⟩
        · have q2 : decide ((65536 : Int) < (n1 : Int)) = false := by simp; omega
          by_cases e3 : n1 = n2
          · have q3 : ((n1 : Int) != (n2 : Int)) = false := by simp [e3]
            have HA : Hid (∀ i, i < j + 1 → okRow m i = true) := Lib.hid (fun i hi => by
              by_cases e : i = j
              · subst e; unfold okRow; rw [HN1.out, HN2.out]; simp; omega
              · exact hall.out i (by omega))
            clear e3 hall
            go_wp2
            go_quiet (fail)
            go_wp2
            go_roundw
            case rel => exact ⟨j + 1, by omega, by go_num, HA, Lib.hid (below_drewN hb.out _)⟩
            case measure => simp [intOf]; omega
          · have q3 : ((n1 : Int) != (n2 : Int)) = true := by simp; omega
            have HF : Hid (blkB m k = false) := Lib.hid (by unfold blkB; rw [oneB_false (i := j) (by rw [HL.out]; exact hlt) (by unfold okRow; rw [HN1.out, HN2.out]; simp; omega)]; rfl)
            clear hall
            go_wp2
            go_quiet (fail)
            go_wp2
            go_ret
            exact ⟨ret_bool (by rw [HF.out]), below_drewN hb.out _⟩
    · obtain rfl : j = n := by omega
      have HT : Hid (blkB m k = (decide ((1 : Int) ≤ (j : Int)) && decide ((j : Int) ≤ k))) := Lib.hid (by unfold blkB; rw [oneB_true (fun i hi => hall.out i (by rw [HL.out] at hi; exact hi)), HL.out]; rfl)
      by_cases h1 : 1 ≤ j
      · have q1 : decide ((1 : Int) ≤ (j : Int)) = true := by simp; omega
        have HT' : Hid (blkB m k = decide ((j : Int) ≤ k)) := Lib.hid (by rw [HT.out, q1]; rfl)
        clear h1
        go_wp2
        go_ret
        exact ⟨ret_bool (by rw [HT'.out]), hb.out⟩
      · have q1 : decide ((1 : Int) ≤ (j : Int)) = false := by simp; omega
        have HT' : Hid (blkB m k = false) := Lib.hid (by rw [HT.out, q1]; rfl)
        go_wp2
        go_ret
        exact ⟨ret_bool (by rw [HT'.out]), hb.out⟩
end Go.Proofs.Ytoeeklkebcgmaaa
