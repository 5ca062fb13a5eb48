/- slices.Sort of a row of ints that the call made. -/
import Derived.Test.YtakedococfklgaaB2
import Derived.Test.YtakedococfklgaaShelf
import Derived.Sort.OwnSortedInts
namespace Go.Proofs.Ytakedococfklgaa
open Go.RowKit Gf Go.Sort
/-- The sorted list. -/
def isort (z : List Int) : List Int := z.mergeSort fun x y => decide (x ≤ y)
theorem isort_length (z : List Int) : (isort z).length = z.length := by simp [isort]

def SortRet (base : Nat) (v : Value) (n : Nat) (z : List Int) (w : World) (e : Ending) (w' : World) : Prop :=
  e = .returned (.tuple #[]) ∧ w'.ownsRow base 3 1 v n ((isort z).map (Value.int .i64)) ∧ w.grownBy w' v.ownBlock

theorem sort_own (base : Nat) (v : Value) (n : Nat) (z : List Int) (w : World) (h : w.ownsRow base 3 1 v n (z.map (Value.int .i64))) (hn : n < 4611686018427387904) :
    Calls Try.prog 48 #[v] w (SortRet base v n z w) := by
  have hl := h.1
  simp only [List.length_map, Nat.mul_one] at hl
  rcases h.2 with ⟨rfl, h0⟩ | ⟨g, cap, cur, rfl, hbase, hb, h1, h2, h3, h4⟩
  · refine (Try.slices_Sort_int_none none 0 w).mono ?_
    rintro e w' ⟨rfl, rfl⟩
    have hz : z = [] := List.length_eq_zero_iff.1 (by omega)
    subst hz
    refine ⟨rfl, ?_, ?_⟩
    · simpa [isort] using h
    · exact ⟨rfl, rfl, rfl, Nat.le_refl _, fun _ _ _ => rfl⟩
  · subst hl
    refine (Try.slices_Sort_int g 0 cap z w (holds_of_blockI hb (by simpa using h4)) (Array.getElem?_eq_some_iff.1 hb).1 hn).mono ?_
    rintro e w' ⟨rfl, nn, os, rfl⟩
    exact ⟨rfl, ownsRow_sortedI (isort_length z) hbase hb h1 h2 h3, grownBy_sortedI _⟩
end Go.Proofs.Ytakedococfklgaa
