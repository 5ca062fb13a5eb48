/- Contracts of the references kinkeepref08: Valid, Row. -/
import Derived.Test.YtoeeklkebcgmaaaRf1
import Derived.Test.YtoeeklkebcgmaaaRs3
namespace Go.Proofs.Ytoeeklkebcgmaaa
open Go.RowKit Gf

set_option maxHeartbeats 1000000 in
theorem rvalid_any (d t : Int) (w : World) :
    Calls Try.prog 12 #[.int .i64 d, .int .i64 t] w fun e w' => e = .returned (.bool (vldB d t)) ∧ w = w' := by
  by_cases h1 : 1 ≤ d
  · by_cases h2 : d ≤ 8
    · by_cases h3 : d ≤ t
      · by_cases h4 : t ≤ 16
        · have e1 : decide (1 ≤ d) = true := by simpa using h1
          have e2 : decide (d ≤ 8) = true := by simpa using h2
          have e3 : decide (d ≤ t) = true := by simpa using h3
          have e4 : decide (t ≤ 16) = true := by simpa using h4
          have HV := Lib.hid (vld_iff.2 ⟨h1, h2, h3, h4⟩)
          go_enter Try.func12, Try.ntmps12
          go_wp2
          go_ret
          exact ⟨ret_bool (by rw [HV.out]), rfl⟩
        · have e1 : decide (1 ≤ d) = true := by simpa using h1
          have e2 : decide (d ≤ 8) = true := by simpa using h2
          have e3 : decide (d ≤ t) = true := by simpa using h3
          have e4 : decide (t ≤ 16) = false := by simpa using h4
          have HV := Lib.hid (vld_false (d := d) (t := t) (by omega))
          go_enter Try.func12, Try.ntmps12
          go_wp2
          go_ret
          exact ⟨ret_bool (by rw [HV.out]), rfl⟩
      · have e1 : decide (1 ≤ d) = true := by simpa using h1
        have e2 : decide (d ≤ 8) = true := by simpa using h2
        have e3 : decide (d ≤ t) = false := by simpa using h3
        have HV := Lib.hid (vld_false (d := d) (t := t) (by omega))
        go_enter Try.func12, Try.ntmps12
        go_wp2
        go_ret
        exact ⟨ret_bool (by rw [HV.out]), rfl⟩
    · have e1 : decide (1 ≤ d) = true := by simpa using h1
      have e2 : decide (d ≤ 8) = false := by simpa using h2
      have HV := Lib.hid (vld_false (d := d) (t := t) (by omega))
      go_enter Try.func12, Try.ntmps12
      go_wp2
      go_ret
      exact ⟨ret_bool (by rw [HV.out]), rfl⟩
  · have e1 : decide (1 ≤ d) = false := by simpa using h1
    have HV := Lib.hid (vld_false (d := d) (t := t) (by omega))
    go_enter Try.func12, Try.ntmps12
    go_wp2
    go_ret
    exact ⟨ret_bool (by rw [HV.out]), rfl⟩

/-- The row after k columns. -/
def rpart (d i k : Nat) : List UInt8 := (List.range d).map fun j => if j < k then coef d i j else 0
theorem rpart_length (d i k : Nat) : (rpart d i k).length = d := by simp [rpart]
theorem rpart_zero (d i : Nat) : rpart d i 0 = zeros d := by
  unfold rpart zeros
  apply List.ext_getElem (by simp)
  intro j h1 h2; simp
theorem rpart_all (d i : Nat) : rpart d i d = crw d i := by
  unfold rpart crw
  apply List.map_congr_left
  intro j hj; rw [if_pos (List.mem_range.1 hj)]
theorem rpart_set (d i k : Nat) (_h : k < d) : (rpart d i k).set k (coef d i k) = rpart d i (k + 1) := by
  apply List.ext_getElem (by simp [rpart])
  intro j h1 h2
  rw [List.getElem_set]
  simp only [rpart, List.getElem_map, List.getElem_range]
  by_cases e : k = j
  · subst e; simp
  · rw [if_neg e]
    by_cases h3 : j < k
    · rw [if_pos h3, if_pos (by omega)]
    · rw [if_neg h3, if_neg (by omega)]
theorem rpart_same (d i k : Nat) (h : coef d i k = 0) : rpart d i k = rpart d i (k + 1) := by
  apply List.ext_getElem (by simp [rpart])
  intro j h1 h2
  simp only [rpart, List.getElem_map, List.getElem_range]
  by_cases h3 : j < k
  · rw [if_pos h3, if_pos (by omega)]
  · rw [if_neg h3]
    by_cases e : j = k
    · subst e; rw [if_pos (by omega), h]
    · rw [if_neg (by omega)]
theorem rinv_nat (k : Nat) (w : World) (hk : k < 256) :
    Calls Try.prog 35 #[.int .u8 (k : Int)] w fun e w' => e = .returned (B (inv (UInt8.ofNat k))) ∧ w = w' := by
  have h : (k : Int) = bv (UInt8.ofNat k) := by unfold bv; simp; omega
  rw [h]
  exact rinv_any _ _

def RowRet (d i : Nat) (w : World) (e : Ending) (w' : World) : Prop :=
  e = .returned (.slice (some ⟨w.heap.size, 0, none⟩) d d) ∧ Blk w' w.heap.size 5 (row (crw d i)) ∧ Below w.heap.size w w'
def RowI (d i k : Nat) (w wr : World) : Prop := Blk wr w.heap.size 5 (row (rpart d i k)) ∧ Below w.heap.size w wr

set_option maxHeartbeats 400000 in
theorem rrow_any (d i : Nat) (w : World) (hd8 : d ≤ 8) (hi : i < 16) :
    Calls Try.prog 14 #[.int .i64 (d : Int), .int .i64 (i : Int)] w (RowRet d i w) := by
  have hmk := make_bytes d (by omega)
  have hi16 : (i : Int) < 16 := by omega
  go_enter Try.func14, Try.ntmps14
  go_wp2_with fail
  go_loopw [6] (fun c wr => ∃ k : Nat, k ≤ d ∧ c = .int .i64 (k : Int) ∧ Hid (RowI d i k w wr)) (fun c _ => d - (intOf c).toNat)
  case atStart =>
    refine ⟨0, by omega, rfl, Lib.hid ⟨?_, (Below.refl _ _).alloc (Nat.le_refl _) _⟩⟩
    rw [rpart_zero]
    exact Blk.new w _ _
  case round =>
    obtain ⟨k, hk, rfl, hI⟩ := hrel
    by_cases hlt : k < d
    · have c1 : wr.cell? ⟨w.heap.size, k, none⟩ = some (B (gB (rpart d i k) k)) := by
        rw [hI.out.1.cell]; exact row_get _ _ (by rw [rpart_length]; exact hlt)
      have f1 := hI.out.1.frozen k
      clear hmk
      have HSET : Hid (∀ x, x = coef d i k → RowI d i (k + 1) w (wr.setCell ⟨w.heap.size, k, none⟩ (B x))) := Lib.hid (fun x hx => by
        have := hI.out.1.set_ k (B x)
        rw [row_set, hx, rpart_set _ _ _ hlt] at this
        rw [hx]
        exact ⟨this, hI.out.2.setCell (Nat.le_refl _) _⟩)
      by_cases hdi : d ≤ i
      · have q1 : decide ((i : Int) < (d : Int)) = false := by simp; omega
        have q2 : decide ((d : Int) ≤ (i : Int)) = true := by simp; omega
        have hx := i64_xor_nat i k (by omega) (by omega)
        have hx16 := xor_lt16 hi (show k < 16 by omega)
        have hw8 := wrap8_nat (i ^^^ k) (by omega)
        obtain ⟨x, hxe⟩ : ∃ x, x = inv (UInt8.ofNat (i ^^^ k)) := ⟨_, rfl⟩
        have HR := Lib.hid (HSET.out x (by rw [hxe, coef, if_pos hdi]))
        have HC : Hid (Calls Try.prog 35 #[.int .u8 ((i ^^^ k : Nat) : Int)] wr fun e w' => e = .returned (B x) ∧ wr = w') := Lib.hid (by rw [hxe]; exact rinv_nat (i ^^^ k) wr (by omega))
        clear hxe
        clear HSET hI
        go_wp2_with (go_at_call 35; refine HC.out.mono ?_; rintro e w' ⟨rfl, rfl⟩)
        clear hx hx16 hw8
        go_roundw
        case rel => exact ⟨k + 1, by omega, by go_num, HR⟩
        case measure => simp [intOf]; omega
      · have q1 : decide ((i : Int) < (d : Int)) = true := by simp; omega
        have q2 : decide ((d : Int) ≤ (i : Int)) = false := by simp; omega
        by_cases hik : i = k
        · have q3 : ((i : Int) == (k : Int)) = true := by simp [hik]
          have HR := Lib.hid (HSET.out 1 (by rw [coef, if_neg hdi, if_pos hik]))
          clear HSET hI hik
          go_wp2_with fail
          go_roundw
          case rel => exact ⟨k + 1, by omega, by go_num, HR⟩
          case measure => simp [intOf]; omega
        · have q3 : ((i : Int) == (k : Int)) = false := by simp; omega
          have HR : Hid (RowI d i (k + 1) w wr) := Lib.hid ⟨by rw [← rpart_same d i k (by rw [coef, if_neg hdi, if_neg hik])]; exact hI.out.1, hI.out.2⟩
          clear HSET hI
          go_wp2_with fail
          go_roundw
          case rel => exact ⟨k + 1, by omega, by go_num, HR⟩
          case measure => simp [intOf]; omega
    · obtain rfl : k = d := by omega
      have HR : Hid (Blk wr w.heap.size 5 (row (crw k i))) := Lib.hid (by rw [← rpart_all]; exact hI.out.1)
      go_wp2_with fail
      go_ret
      exact ⟨rfl, HR.out, hI.out.2⟩
end Go.Proofs.Ytoeeklkebcgmaaa
