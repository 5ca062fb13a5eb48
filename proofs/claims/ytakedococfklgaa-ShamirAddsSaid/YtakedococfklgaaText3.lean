/- A guarded effect in a text whose guard is met. -/
import Derived.Test.YtakedococfklgaaText
namespace Go.Proofs.Ytakedococfklgaa
open Go
namespace Text
variable {P : Program} {ops : Array Oper} {Q : Exit → Act → World → Prop} {S : World → Prop} {a : Act} {w : World} {r : List (Nat × Nat)} {i : Nat}
theorem effw {o : Oper} (ho : ops[i]? = some o) (hw : Region.wanted o (yielded ops a.tmps) = true) (h : ∀ K : Act → World → Prop, (∀ a w, S w → wpText P ops Q S r a w → K a w) → o.wp P a w K NoQ) : wpText P ops Q S ((i, 2) :: r) a w := by
  have key : wpOp P ops Q i (fun a' w' => S w' ∧ wpText P ops Q S r a' w') a w := by
    unfold wpOp
    simp only [ho]
    rw [if_pos hw]
    exact .inl (wp_of_noQ (h _ fun _ _ h1 h2 => ⟨h1, h2⟩))
  with_unfolding_all exact key
theorem lastw {o : Oper} (ho : ops[i]? = some o) (hw : Region.wanted o (yielded ops a.tmps) = true) (h : ∀ K : Act → World → Prop, (∀ a w, wpText P ops Q S r a w → K a w) → o.wp P a w K NoQ) : wpText P ops Q S ((i, 3) :: r) a w := by
  have key : wpOp P ops Q i (fun a' w' => wpText P ops Q S r a' w') a w := by
    unfold wpOp
    simp only [ho]
    rw [if_pos hw]
    exact .inl (wp_of_noQ (h _ fun _ _ h2 => h2))
  with_unfolding_all exact key
end Text
end Go.Proofs.Ytakedococfklgaa
