/- Contract of math/bits.OnesCount for small numbers. -/
import Derived.Test.YtoeeklkebcgmaaaRs11
namespace Go.Proofs.Ytoeeklkebcgmaaa
open Go.RowKit Gf

/-- The number of bits of a number below 256. -/
def popc (x : Nat) : Nat := (List.range 8).countP fun i => x.testBit i
def oc1 (x : Int) : Int := IntKind.u64.wrap (bits .and .u64 (x / 2) 6148914691236517205 + bits .and .u64 x 6148914691236517205)
def oc2 (y : Int) : Int := IntKind.u64.wrap (bits .and .u64 (y / 4) 3689348814741910323 + bits .and .u64 y 3689348814741910323)
def oc3 (y : Int) : Int := bits .and .u64 (IntKind.u64.wrap (y / 16 + y)) 1085102592571150095
def oc4 (k y : Int) : Int := IntKind.u64.wrap (y + y / k)
def oc (x : Int) : Int := bits .and .i64 (wrap64 (oc4 4294967296 (oc4 65536 (oc4 256 (oc3 (oc2 (oc1 x))))))) 127
theorem oc_small : ∀ x : Nat, x < 256 → oc (x : Int) = (popc x : Int) := by decide +kernel

set_option maxHeartbeats 4000000 in
theorem ones64 (x : Nat) (w : World) (hx : x < 256) :
    Calls Try.prog 57 #[.int .u64 (x : Int)] w fun e w' => e = .returned (.int .i64 (popc x : Int)) ∧ w = w' := by
  have H := Lib.hid (oc_small x hx)
  go_enter Try.func57, Try.ntmps57
  go_wp2_with fail
  go_ret
  refine ⟨?_, rfl⟩
  rw [← H.out]
  rfl

set_option maxHeartbeats 4000000 in
theorem ones_any (x : Nat) (w : World) (hx : x < 256) :
    Calls Try.prog 40 #[.int .u64 (x : Int)] w fun e w' => e = .returned (.int .i64 (popc x : Int)) ∧ w = w' := by
  go_enter Try.func40, Try.ntmps40
  go_wp2_with fail
  refine (ones64 x _ hx).mono ?_
  rintro e w' ⟨rfl, rfl⟩
  go_wp2_with fail
  go_ret
  exact ⟨rfl, rfl⟩
end Go.Proofs.Ytoeeklkebcgmaaa
