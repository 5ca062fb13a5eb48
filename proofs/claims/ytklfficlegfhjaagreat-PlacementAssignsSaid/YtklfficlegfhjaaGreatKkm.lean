/- The law's few, limit, without; Rebalance. -/
import Derived.Test.YtklfficlegfhjaaGreatC17
namespace Go.Proofs.YtklfficlegfhjaaGreat
open Go Go.RowKit Go.Shelf Go.WideMaps Go.ChangeMaps Gf Sha

def fewB (n m p : Nat) : Bool := decide (n ≤ 10) && decide (m ≤ 14) && decide (p ≤ 40)
set_option maxHeartbeats 1000000 in
theorem few_any (A : Option Addr) (n c : Nat) (B : Option Addr) (m d : Nat) (P : Option Addr) (p q : Nat) (w : World) :
  Calls Tryz.prog 9 #[.slice A n c, .slice B m d, .slice P p q] w fun e w' => e = .returned (.bool (fewB n m p)) ∧ w' = w := by
 unfold fewB
 cases f1 : decide (n ≤ 10) with
 | false =>
  have f2 : decide ((n : Int) ≤ 10) = false := decide_eq_false (by have := of_decide_eq_false f1; omega)
  go_enter Tryz.func9, Tryz.ntmps9
  go_wp2_with fail
  go_ret
  exact ⟨rfl, rfl⟩
 | true =>
  have f2 : decide ((n : Int) ≤ 10) = true := decide_eq_true (by have := of_decide_eq_true f1; omega)
  cases f3 : decide (m ≤ 14) with
  | false =>
   have f4 : decide ((m : Int) ≤ 14) = false := decide_eq_false (by have := of_decide_eq_false f3; omega)
   go_enter Tryz.func9, Tryz.ntmps9
   go_wp2_with fail
   go_ret
   exact ⟨rfl, rfl⟩
  | true =>
   have f4 : decide ((m : Int) ≤ 14) = true := decide_eq_true (by have := of_decide_eq_true f3; omega)
   cases f5 : decide (p ≤ 40) with
   | false =>
    have f6 : decide ((p : Int) ≤ 40) = false := decide_eq_false (by have := of_decide_eq_false f5; omega)
    go_enter Tryz.func9, Tryz.ntmps9
    go_wp2_with fail
    go_ret
    exact ⟨rfl, rfl⟩
   | true =>
    have f6 : decide ((p : Int) ≤ 40) = true := decide_eq_true (by have := of_decide_eq_true f5; omega)
    go_enter Tryz.func9, Tryz.ntmps9
    go_wp2_with fail
    go_ret
    exact ⟨rfl, rfl⟩
def limI (b : Int) : Int := if 600 < b ∧ b ≤ 1048576 then 600 else b
theorem limit_any (b : Int) (w : World) : Calls Tryz.prog 23 #[.int .i64 b] w fun e w' => e = .returned (.int .i64 (limI b)) ∧ w' = w := by
 cases f1 : decide (b > 600) with
 | false =>
  have HN : Hid (limI b = b) := Lib.hid (if_neg (fun h => (of_decide_eq_false f1) h.1))
  go_enter Tryz.func23, Tryz.ntmps23
  go_wp2_with fail
  go_ret
  exact ⟨by rw [HN.out]; rfl, rfl⟩
 | true =>
  cases f2 : decide (b ≤ 1048576) with
  | false =>
   have HN : Hid (limI b = b) := Lib.hid (if_neg (fun h => (of_decide_eq_false f2) h.2))
   go_enter Tryz.func23, Tryz.ntmps23
   go_wp2_with fail
   go_ret
   exact ⟨by rw [HN.out]; rfl, rfl⟩
  | true =>
   have HN : Hid (limI b = 600) := Lib.hid (if_pos ⟨of_decide_eq_true f1, of_decide_eq_true f2⟩)
   go_enter Tryz.func23, Tryz.ntmps23
   go_wp2_with fail
   go_ret
   exact ⟨by rw [HN.out]; rfl, rfl⟩
theorem OwnC.far {α : Type} {C : α → List Value} {s base m k : Nat} {te te' : TypeId} {w w' : World} {v u u' : Value} {L : List α} {l xs : List Value} {n : Nat} (h : OwnC C s te w base v L) (h2 : RW w te' m u n l) (ap : AppR w te' m u n k l xs u' w') (ht : te ≠ te') : OwnC C s te w' base v L :=
 ⟨h.1.kp ap.kp (fun b hb e => by
  obtain ⟨c1, b1⟩ := h.1.ty hb
  obtain ⟨c2, b2⟩ := h2.ty e
  exact ht (b1.ty b2)), h.2⟩
section
set_option maxRecDepth 100000
set_option maxHeartbeats 4000000
end
end Go.Proofs.YtklfficlegfhjaaGreat
