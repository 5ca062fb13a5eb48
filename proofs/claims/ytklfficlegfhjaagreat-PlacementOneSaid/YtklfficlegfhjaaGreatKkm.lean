/- The law's few, limit, without; Rebalance. -/
import Derived.Test.YtklfficlegfhjaaGreatC17
namespace Go.Proofs.YtklfficlegfhjaaGreat
open Go Go.RowKit Go.Shelf Go.WideMaps Go.ChangeMaps Gf Sha

def fewB (n m p : Nat) : Bool := decide (n ≤ 10) && decide (m ≤ 14) && decide (p ≤ 40)
set_option maxHeartbeats 1000000 in
theorem few_any (A : Option Addr) (n c : Nat) (B : Option Addr) (m d : Nat) (P : Option Addr) (p q : Nat) (w : World) :
  Calls Tryz.prog 9 #[.slice A n c, .slice B m d, .slice P p q] w fun e w' => e = .returned (.bool (fewB n m p)) ∧ w' = w := by
 unfold fewB
 cases f1 : decide (n ≤ 10) with
 | false =>
  have f2 : decide ((n : Int) ≤ 10) = false := decide_eq_false (by have := of_decide_eq_false f1; omega)
  go_enter Tryz.func9, Tryz.ntmps9
  go_wp2_with fail
  go_ret
  exact ⟨rfl, rfl⟩
 | true =>
  have f2 : decide ((n : Int) ≤ 10) = true := decide_eq_true (by have := of_decide_eq_true f1; omega)
  cases f3 : decide (m ≤ 14) with
  | false =>
   have f4 : decide ((m : Int) ≤ 14) = false := decide_eq_false (by have := of_decide_eq_false f3; omega)
   go_enter Tryz.func9, Tryz.ntmps9
   go_wp2_with fail
   go_ret
   exact ⟨rfl, rfl⟩
  | true =>
   have f4 : decide ((m : Int) ≤ 14) = true := decide_eq_true (by have := of_decide_eq_true f3; omega)
   cases f5 : decide (p ≤ 40) with
   | false =>
    have f6 : decide ((p : Int) ≤ 40) = false := decide_eq_false (by have := of_decide_eq_false f5; omega)
    go_enter Tryz.func9, Tryz.ntmps9
    go_wp2_with fail
    go_ret
    exact ⟨rfl, rfl⟩
   | true =>
    have f6 : decide ((p : Int) ≤ 40) = true := decide_eq_true (by have := of_decide_eq_true f5; omega)
    go_enter Tryz.func9, Tryz.ntmps9
    go_wp2_with fail
    go_ret
    exact ⟨rfl, rfl⟩
section
set_option maxRecDepth 100000
set_option maxHeartbeats 4000000
end
end Go.Proofs.YtklfficlegfhjaaGreat
