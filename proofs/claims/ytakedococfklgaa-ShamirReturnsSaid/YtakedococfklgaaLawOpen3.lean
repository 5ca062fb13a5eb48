/- A 16-bit argument. -/
import Derived.Test.YtakedococfklgaaLawOpen2
namespace Go.Proofs.Ytakedococfklgaa
open Go.ChangeShapes Go.WideShapes Go.ChangeAt Go.RowKit Gf

theorem short_of {n : Int} (h : (Lit.int .u16 n).wf = true) : 0 ≤ n ∧ n < 65536 := by
  simp only [Lit.wf, Bool.and_eq_true, decide_eq_true_eq] at h
  have h1 : (0 : Int) ≤ n := by have := h.1; simpa [IntKind.min, IntKind.signed] using this
  have h2 : n ≤ 65535 := by have := h.2; simpa [IntKind.max, IntKind.signed, IntKind.bits] using this
  exact ⟨h1, by omega⟩
end Go.Proofs.Ytakedococfklgaa
