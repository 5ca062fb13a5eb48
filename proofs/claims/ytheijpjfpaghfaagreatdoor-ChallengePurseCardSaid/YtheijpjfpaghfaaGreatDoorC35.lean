/- Several texts in one: Hj. -/
import Derived.Test.YtheijpjfpaghfaaGreatDoorC34
import Derived.Test.YtheijpjfpaghfaaGreatDoorC8
import Derived.Deep.DeepCutAuto
/- ref01.Reader: Read, End. -/
namespace Go.Proofs.YtheijpjfpaghfaaGreatDoor
open Go Go.RowKit Gf Sha

/-- The reference's reader: its bytes, where it stands, its error. -/
def RfS (w : World) (g : Nat) (A : Option Addr) (n c : Nat) (b : List UInt8) (s : Rd) : Prop := (∃ l : Int, BL w g 97 [.slice A n c, .int .i64 (s.off : Int), .int .i64 l, .int .i64 s.err]) ∧ BS w A n c b ∧ FarB A n (· = g) ∧ s.off ≤ n
theorem RfS.kept {w w' : World} {g n c : Nat} {A : Option Addr} {b : List UInt8} {s : Rd} (h : RfS w g A n c b s) (hb : Below w.heap.size w w') : RfS w' g A n c b s := ⟨let ⟨_, hl⟩ := h.1; ⟨_, hl.kept hb⟩, h.2.1.kept hb, h.2.2⟩
end Go.Proofs.YtheijpjfpaghfaaGreatDoor
