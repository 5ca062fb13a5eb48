/- Several texts in one: Hn. -/
import Derived.Test.YtheijpjfpaghfaaGreatDoorC32
import Derived.Test.YtheijpjfpaghfaaGreatDoorC35
/- The reference's Decode. -/
namespace Go.Proofs.YtheijpjfpaghfaaGreatDoor
open Go Go.RowKit Gf Sha

theorem RfS.new {w0 w w' : World} {g n c : Nat} {A : Option Addr} {b : List UInt8} {s0 s : Rd} {S : Nat → Prop} (h0 : RfS w0 g A n c b s0) (h : RfS w g A n c b s) (hk : Kp S w w') (hS : ∀ k, S k → w0.heap.size ≤ k) : RfS w' g A n c b s :=
 ⟨let ⟨l, hl⟩ := h.1; ⟨l, hk.bl hl (fun e => by have := hS g e; obtain ⟨_, h9⟩ := h0.1; have := h9.lt; omega)⟩, h.2.1.kpf hk (h0.2.1.far_new hS), h.2.2⟩
theorem RfS.lt {w : World} {g n c : Nat} {A : Option Addr} {b : List UInt8} {s : Rd} (h : RfS w g A n c b s) : g < w.heap.size := h.1.elim (fun _ h => h.lt)
theorem bldEn (s : List UInt8) (i : Int) (w : World) : (Instr.build 54 #[(0, .agg #[.string (strB s), .int .i64 i])]).run Tryz.prog w = .ok (.agg [.string (strB s), .int .i64 i, nilV, nilV].toArray) w := by kernel_rfl
end Go.Proofs.YtheijpjfpaghfaaGreatDoor
