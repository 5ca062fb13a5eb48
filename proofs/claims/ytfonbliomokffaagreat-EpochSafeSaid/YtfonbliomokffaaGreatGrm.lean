/- What is agreed stays agreed: plainly; append of a whole list at the operation. -/
import Derived.Test.YtfonbliomokffaaGreatC22
namespace Go.Proofs.YtfonbliomokffaaGreat
open Go Go.RowKit Gf Sha

theorem state_3 {D : List En} {p : Pp} {ex : List Int} : stateOf D p ex = 3 ↔ ∀ x ∈ p.ws, asks p ex x = true → replyOf D p x = 4 := by
 unfold stateOf
 constructor
 ·
  intro h x hx ha
  split at h
  ·
   cases h
  ·
   split at h
   ·
    cases h
   ·
    rename_i _ h2
    rw [Bool.not_eq_true, List.any_eq_false] at h2
    have := h2 x hx
    rw [ha] at this
    simpa using this
 ·
  intro h
  rw [if_neg, if_neg]
  ·
   rw [Bool.not_eq_true, List.any_eq_false]
   intro x hx
   cases ha : asks p ex x with
   | false => simp
   | true => rw [h x hx ha]; simp
  ·
   rw [Bool.not_eq_true, List.any_eq_false]
   intro x hx
   cases ha : asks p ex x with
   | false => simp
   | true => rw [h x hx ha]; simp
theorem ppL_mem {D : List En} {p : Pp} : p ∈ ppL D ↔ ∃ x ∈ D, decM x = some p := by
 rw [ppL, (sortP_perm _).mem_iff, pps, List.mem_filterMap]
theorem ofL_mem {D : List En} {V : Int} {p : Pp} : p ∈ ofL D V ↔ p ∈ ppL D ∧ p.vault = V := by
 rw [ofL, kpL, List.mem_filter]
 simp
theorem strL_mem {D : List En} {V : Int} {q : Pp → Bool} {s : List UInt8} : s ∈ strL D V q ↔ ∃ p ∈ ofL D V, q p = true ∧ s ∈ p.ss := by
 rw [strL, uniq_mem, stL, List.mem_flatMap]
 constructor
 ·
  rintro ⟨p, h1, h2⟩; exact ⟨p, (List.mem_filter.1 h1).1, (List.mem_filter.1 h1).2, h2⟩
 ·
  rintro ⟨p, h1, h2, h3⟩; exact ⟨p, List.mem_filter.2 ⟨h1, h2⟩, h3⟩
section
variable {α : Type} {R : Rdg α} {s b m c : Nat} {te t : TypeId} {A : Option Addr} {L M : List α} {P : Program} {w0 : World} (w : World) {o : Oper} {a : Act} {Q : Exit → Act → World → Prop} {K' : Act → World → Prop}
end
end Go.Proofs.YtfonbliomokffaaGreat
