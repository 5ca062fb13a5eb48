/- Contracts of package reedsolomon: the refusals of Reconstruct, Repair, Coefficients. -/
import Derived.Test.YtoeeklkebcgmaaaRs10
namespace Go.Proofs.Ytoeeklkebcgmaaa
open Go.RowKit Gf

/-- A refusal: nil and the error. -/
def Bad (r : Int) (w : World) (e : Ending) (w' : World) : Prop := e = .returned (.tuple #[.slice none 0 0, .int .i64 r]) ∧ Below w.heap.size w w'

theorem gvE_cases (d t : Int) (z : List Int) (m : List (List UInt8)) : gvE d t z m = 0 ∨ gvE d t z m = 1 ∨ gvE d t z m = 10 := by
  unfold gvE; split <;> (try split) <;> (try split) <;> simp

set_option maxHeartbeats 4000000 in
theorem reconstruct_bad (d t : Int) (A A' : Option Addr) (n c n' c' : Nat) (z : List Int) (m : List (List UInt8)) (w : World) (h : IS w A n c z) (h' : MS w A' n' c' m) (hbad : gvE d t z m ≠ 0) :
    Calls Try.prog 24 #[.int .i64 d, .int .i64 t, .slice A n c, .slice A' n' c'] w (Bad (gvE d t z m) w) := by
  have HI := Lib.hid h
  have HM := Lib.hid h'
  have HC := Lib.hid (gvE_cases d t z m)
  have HB := Lib.hid hbad
  clear h h' hbad
  go_enter Try.func24, Try.ntmps24
  go_wp2_with fail
  refine (checkGiven_any d t A A' n c n' c' z m w HI.out HM.out).mono ?_
  rintro e w1 ⟨rfl, hb1⟩
  have HB1 := Lib.hid hb1
  clear hb1
  rcases HC.out with e | e | e
  · exact absurd e HB.out
  · rw [e]
    have HE := Lib.hid e
    clear HB HC e
    go_wp2_with fail
    go_ret2
    exact ⟨by rw [HE.out]; rfl, HB1.out⟩
  · rw [e]
    have HE := Lib.hid e
    clear HB HC e
    go_wp2_with fail
    go_ret2
    exact ⟨by rw [HE.out]; rfl, HB1.out⟩

/-- Repair's error. -/
def rpE (d t : Int) (z : List Int) (m : List (List UInt8)) (i : Int) : Int := if gvE d t z m = 1 ∨ i < 0 ∨ t ≤ i then 1 else gvE d t z m

set_option maxHeartbeats 4000000 in
theorem repair_bad (d t i : Int) (A A' : Option Addr) (n c n' c' : Nat) (z : List Int) (m : List (List UInt8)) (w : World) (h : IS w A n c z) (h' : MS w A' n' c' m) (hbad : rpE d t z m i ≠ 0) :
    Calls Try.prog 28 #[.int .i64 d, .int .i64 t, .slice A n c, .slice A' n' c', .int .i64 i] w (Bad (rpE d t z m i) w) := by
  have HI := Lib.hid h
  have HM := Lib.hid h'
  have HC := Lib.hid (gvE_cases d t z m)
  have HB := Lib.hid hbad
  clear h h' hbad
  go_enter Try.func28, Try.ntmps28
  go_wp2_with fail
  refine (checkGiven_any d t A A' n c n' c' z m w HI.out HM.out).mono ?_
  rintro e w1 ⟨rfl, hb1⟩
  have HB1 := Lib.hid hb1
  clear hb1
  by_cases h1 : gvE d t z m = 1
  · have HE : Hid (rpE d t z m i = 1) := Lib.hid (by unfold rpE; rw [if_pos (.inl h1)])
    rw [h1]
    clear HB HC h1
    go_wp2_with fail
    go_ret2
    exact ⟨by rw [HE.out]; rfl, HB1.out⟩
  · by_cases h2 : i < 0
    · have HE : Hid (rpE d t z m i = 1) := Lib.hid (by unfold rpE; rw [if_pos (.inr (.inl h2))])
      have q1 : decide (i < 0) = true := by simpa using h2
      rcases HC.out with e | e | e
      · rw [e]
        clear HB HC h1 e
        go_wp2_with fail
        go_ret2
        exact ⟨by rw [HE.out]; rfl, HB1.out⟩
      · exact absurd e h1
      · rw [e]
        clear HB HC h1 e
        go_wp2_with fail
        go_ret2
        exact ⟨by rw [HE.out]; rfl, HB1.out⟩
    · have q1 : decide (i < 0) = false := by simpa using h2
      by_cases h3 : t ≤ i
      · have HE : Hid (rpE d t z m i = 1) := Lib.hid (by unfold rpE; rw [if_pos (.inr (.inr h3))])
        have q2 : decide (t ≤ i) = true := by simpa using h3
        rcases HC.out with e | e | e
        · rw [e]
          clear HB HC h1 e
          go_wp2_with fail
          go_ret2
          exact ⟨by rw [HE.out]; rfl, HB1.out⟩
        · exact absurd e h1
        · rw [e]
          clear HB HC h1 e
          go_wp2_with fail
          go_ret2
          exact ⟨by rw [HE.out]; rfl, HB1.out⟩
      · have q2 : decide (t ≤ i) = false := by simpa using h3
        have HE : Hid (rpE d t z m i = gvE d t z m) := Lib.hid (by unfold rpE; rw [if_neg (by omega)])
        rcases HC.out with e | e | e
        · exact absurd (HE.out.trans e) HB.out
        · exact absurd e h1
        · have HE2 : Hid (rpE d t z m i = 10) := Lib.hid (HE.out.trans e)
          rw [e]
          clear HB HC h1 e HE
          go_wp2_with fail
          go_ret2
          exact ⟨by rw [HE2.out]; rfl, HB1.out⟩
end Go.Proofs.Ytoeeklkebcgmaaa
