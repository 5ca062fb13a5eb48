/- DecodeReply, plainly: the reader's answer is take's. -/
import Derived.Test.YtfonbliomokffaaGreatTlm
namespace Go.Proofs.YtfonbliomokffaaGreat
open Go Gf

/-- A number is read up to a bound, no error: just where take counts. -/
theorem rU_take {b : List UInt8} {m off : Nat} {last : Int} (hm : m ≤ 1099511627776) {v : Nat} {r : List UInt8} (h : takeS (b.drop off) m = (v, r, true)) : ∃ k, num (b.drop off) = some (v, k) ∧ r = b.drop (off + k) ∧ rU m b ⟨off, last, 0⟩ = (v, ⟨off + k, off, 0⟩) := by
  obtain ⟨v', k, h1, h2, h3⟩ := takeS_some (b := b.drop off) hm (by rw [h])
  rw [h] at h3
  have e1 : v = v' := (Prod.mk.inj h3).1
  have e2 : r = (b.drop off).drop k := (Prod.mk.inj (Prod.mk.inj h3).2).1
  subst e1
  refine ⟨k, h1, by rw [e2, List.drop_drop], ?_⟩
  have hr : rdV 0 uD b ⟨off, last, 0⟩ = (v, ⟨off + k, off, 0⟩) := by
    have hu : uD (b.drop off) = .ok (v, k) := by unfold uD; rw [h1]
    simp [rdV, hu]
  unfold rU
  rw [hr, if_neg (by show ¬ m < v; omega)]
/-- No number up to the bound: an error stands. -/
theorem rU_bad {b : List UInt8} {m off : Nat} {last : Int} (hm : m ≤ 1099511627776) (h : (takeS (b.drop off) m).2.2 = false) : (rU m b ⟨off, last, 0⟩).2.err ≠ 0 := by
  unfold rU
  cases hn : num (b.drop off) with
  | none =>
    have hu : uD (b.drop off) = .error 3 := by unfold uD; rw [hn]
    simp [rdV, hu]
  | some x =>
    obtain ⟨v, k⟩ := x
    have hu : uD (b.drop off) = .ok (v, k) := by unfold uD; rw [hn]
    have hr : rdV 0 uD b ⟨off, last, 0⟩ = (v, ⟨off + k, off, 0⟩) := by simp [rdV, hu]
    rw [hr]
    by_cases hv : v ≤ m
    · rw [takeS_yes hn hm hv] at h; cases h
    · rw [if_pos (by show m < v; omega)]
      simp [failR]
/-- An error stays. -/
theorem rU_err {b : List UInt8} {m : Nat} {s : Rd} (h : s.err ≠ 0) : (rU m b s).2.err ≠ 0 := by
  unfold rU
  have hr : rdV 0 uD b s = (0, s) := by simp [rdV, h]
  rw [hr, if_neg (by simp)]
  exact h
theorem endR_err {n : Nat} {s : Rd} (h : s.err ≠ 0) : endR n s ≠ 0 := by unfold endR; rw [if_neg h]; exact h
/-- The reference's DecodeReply. -/
def drefS (b : List UInt8) : Nat × Nat × Bool :=
  if (takeS b 11).2.2 then ((takeS b 11).1, (takeS (takeS b 11).2.1 1099511627776).1, (takeS (takeS b 11).2.1 1099511627776).2.2 && (decide (1 ≤ (takeS (takeS b 11).2.1 1099511627776).1) && (takeS (takeS b 11).2.1 1099511627776).2.1.isEmpty)) else (0, 0, false)
theorem drop_emp {b : List UInt8} {k : Nat} : (b.drop k).isEmpty = true ↔ b.length ≤ k := by
  rw [List.isEmpty_iff, List.drop_eq_nil_iff]
theorem dref_yes {x : En} (h : isRep x = true) (h2 : (drefS x.body).2.2 = true) : drM x = some ((drefS x.body).1, (drefS x.body).2.1) := by
  unfold drefS at h2 ⊢
  split at h2
  · rename_i h1
    rw [if_pos h1]
    obtain ⟨a1, a2, a3⟩ : ∃ a r, takeS x.body 11 = (a, r, true) := ⟨_, _, by rw [← h1]⟩
    rw [a3] at h2 ⊢
    simp only [Bool.and_eq_true, decide_eq_true_eq] at h2
    obtain ⟨h3, h4, h5⟩ := h2
    obtain ⟨k1, n1, r1, u1⟩ := rU_take (b := x.body) (off := 0) (last := 0) (m := 11) (by decide) (by simpa using a3)
    obtain ⟨c1, c2, c3⟩ : ∃ a r, takeS a2 1099511627776 = (a, r, true) := ⟨_, _, by rw [← h3]⟩
    rw [r1] at c3
    obtain ⟨k2, n2, r2, u2⟩ := rU_take (b := x.body) (off := 0 + k1) (last := ((0 : Nat) : Int)) (m := 1099511627776) (by decide) c3
    rw [r1, c3] at h4 h5 ⊢
    rw [r2, drop_emp] at h5
    have hd : drD x.body = (a1, ⟨0 + k1, ((0 : Nat) : Int), 0⟩) := u1
    have hs : drS x.body = (c1, ⟨0 + k1 + k2, ((0 + k1 : Nat) : Int), 0⟩) := by unfold drS; rw [hd]; exact u2
    unfold drM
    rw [if_pos h, if_pos ⟨by rw [hs]; unfold endR; rw [if_pos rfl, if_neg (by show ¬ (0 + k1 + k2 < x.body.length); omega)], by rw [hs]; exact h4⟩, hd, hs]
  · cases h2
theorem dref_no {x : En} (h : isRep x = true) (h2 : (drefS x.body).2.2 = false) : drM x = none := by
  have key : ¬ (endR x.body.length (drS x.body).2 = 0 ∧ 1 ≤ (drS x.body).1) := by
    rintro ⟨he, hn⟩
    cases h1 : (takeS x.body 11).2.2 with
    | false =>
      have hb := rU_bad (b := x.body) (off := 0) (last := 0) (m := 11) (by decide) (by simpa using h1)
      exact endR_err (rU_err (b := x.body) (m := 1099511627776) hb) he
    | true =>
      unfold drefS at h2
      rw [if_pos h1] at h2
      obtain ⟨a1, a2, a3⟩ : ∃ a r, takeS x.body 11 = (a, r, true) := ⟨_, _, by rw [← h1]⟩
      rw [a3] at h2
      obtain ⟨k1, n1, r1, u1⟩ := rU_take (b := x.body) (off := 0) (last := 0) (m := 11) (by decide) (by simpa using a3)
      have hd : drD x.body = (a1, ⟨0 + k1, ((0 : Nat) : Int), 0⟩) := u1
      cases h3 : (takeS a2 1099511627776).2.2 with
      | false =>
        have hb := rU_bad (b := x.body) (off := 0 + k1) (last := ((0 : Nat) : Int)) (m := 1099511627776) (by decide) (by rw [← r1]; exact h3)
        unfold drS at he
        rw [hd] at he
        exact endR_err hb he
      | true =>
        obtain ⟨c1, c2, c3⟩ : ∃ a r, takeS a2 1099511627776 = (a, r, true) := ⟨_, _, by rw [← h3]⟩
        simp only [c3] at h2
        rw [r1] at c3
        obtain ⟨k2, n2, r2, u2⟩ := rU_take (b := x.body) (off := 0 + k1) (last := ((0 : Nat) : Int)) (m := 1099511627776) (by decide) c3
        have hs : drS x.body = (c1, ⟨0 + k1 + k2, ((0 + k1 : Nat) : Int), 0⟩) := by unfold drS; rw [hd]; exact u2
        rw [hs] at he hn
        have hn' : 1 ≤ c1 := hn
        have hl : x.body.length ≤ 0 + k1 + k2 := by
          unfold endR at he
          rw [if_pos rfl] at he
          split at he
          · cases he
          · rename_i hlt
            exact Nat.le_of_not_lt hlt
        rw [decide_eq_true hn', r2, drop_emp.2 hl] at h2
        cases h2
  unfold drM
  rw [if_pos h, if_neg key]
end Go.Proofs.YtfonbliomokffaaGreat
