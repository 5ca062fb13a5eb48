/- DecodeReply, plainly: the reader's answer is take's. -/
import Derived.Test.YtfonbliomokffaaGreatTlm
namespace Go.Proofs.YtfonbliomokffaaGreat
open Go Gf

/-- An error stays. -/
theorem rU_err {b : List UInt8} {m : Nat} {s : Rd} (h : s.err ≠ 0) : (rU m b s).2.err ≠ 0 := by
 unfold rU
 have hr : rdV 0 uD b s = (0, s) := by simp [rdV, h]
 rw [hr, if_neg (by simp)]
 exact h
theorem endR_err {n : Nat} {s : Rd} (h : s.err ≠ 0) : endR n s ≠ 0 := by unfold endR; rw [if_neg h]; exact h
end Go.Proofs.YtfonbliomokffaaGreat
