/- kinkeeplaw10.few. -/
import Derived.Test.YtakedococfklgaaB2
namespace Go.Proofs.Ytakedococfklgaa
open Go.RowKit Gf

def fwB (n nc nz : Nat) : Bool := decide (n ≤ 16 ∧ nc ≤ 8 ∧ nz ≤ 12)
theorem fwB_true {n nc nz : Nat} (h : fwB n nc nz = true) : n ≤ 16 ∧ nc ≤ 8 ∧ nz ≤ 12 := of_decide_eq_true h

set_option maxRecDepth 100000 in
set_option maxHeartbeats 400000 in
theorem few_any (As Ac Az : Option Addr) (n cs nc cc nz cz : Nat) (w : World) :
    Calls Try.prog 23 #[.slice As n cs, .slice Ac nc cc, .slice Az nz cz] w fun e w' => e = .returned (.bool (fwB n nc nz)) ∧ w = w' := by
  by_cases h1 : n ≤ 16
  · have q1 : decide ((n : Int) ≤ 16) = true := by simp; omega
    by_cases h2 : nc ≤ 8
    · have q2 : decide ((nc : Int) ≤ 8) = true := by simp; omega
      by_cases h3 : nz ≤ 12
      · have q3 : decide ((nz : Int) ≤ 12) = true := by simp; omega
        have HR : Hid (fwB n nc nz = true) := Lib.hid (decide_eq_true ⟨h1, h2, h3⟩)
        clear h1 h2 h3
        go_enter Try.func23, Try.ntmps23
        go_wp2
        go_ret
        exact ⟨ret_bool HR.out.symm, rfl⟩
      · have q3 : decide ((nz : Int) ≤ 12) = false := by simp; omega
        have HR : Hid (fwB n nc nz = false) := Lib.hid (decide_eq_false fun h => h3 h.2.2)
        clear h1 h2 h3
        go_enter Try.func23, Try.ntmps23
        go_wp2
        go_ret
        exact ⟨ret_bool HR.out.symm, rfl⟩
    · have q2 : decide ((nc : Int) ≤ 8) = false := by simp; omega
      have HR : Hid (fwB n nc nz = false) := Lib.hid (decide_eq_false fun h => h2 h.2.1)
      clear h1 h2
      go_enter Try.func23, Try.ntmps23
      go_wp2
      go_ret
      exact ⟨ret_bool HR.out.symm, rfl⟩
  · have q1 : decide ((n : Int) ≤ 16) = false := by simp; omega
    have HR : Hid (fwB n nc nz = false) := Lib.hid (decide_eq_false fun h => h1 h.1)
    clear h1
    go_enter Try.func23, Try.ntmps23
    go_wp2
    go_ret
    exact ⟨ret_bool HR.out.symm, rfl⟩
end Go.Proofs.Ytakedococfklgaa
