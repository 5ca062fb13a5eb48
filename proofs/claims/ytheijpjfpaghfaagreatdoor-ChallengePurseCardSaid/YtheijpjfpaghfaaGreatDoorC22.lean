/- Several texts in one: Free, G7, Ea. -/
import Derived.Test.YtheijpjfpaghfaaGreatDoorC4
import Derived.Test.YtheijpjfpaghfaaGreatDoorC3
import Derived.Test.YtheijpjfpaghfaaGreatDoorC20
import Derived.Test.YtheijpjfpaghfaaGreatDoorC21
import Derived.Test.YtheijpjfpaghfaaGreatDoorC15
import Derived.Lib.Hide
import Derived.LoopTactic
import Derived.Deep.QuietTactic
import Derived.BigQuiet
import Derived.OwnWalk
import Derived.IntWalk
import Derived.Deep.LoopGhost
/- A region that draws its order, whose first operations (the bag) each only add to the world, in whatever order: each is told by a relation on its value that stays while nothing old turns. Behind the bag the rest is walked as a text. For any program. -/
namespace Go.Proofs.YtheijpjfpaghfaaGreatDoor
open Go Go.RowKit

namespace Text
variable {P : Program} {ops : Array Oper} {Q : Exit → Act → World → Prop} {S : World → Prop}

theorem least {p : Nat → Prop} [DecidablePred p] : ∀ (n : Nat), p n → ∃ m, p m ∧ ∀ k, k < m → ¬ p k := by
 intro n
 induction n using Nat.strongRecOn with
 | _ n ih =>
  intro hn
  by_cases h : ∃ k, k < n ∧ p k
  ·
   obtain ⟨k, h1, h2⟩ := h
   exact ih k h1 h2
  ·
   exact ⟨n, hn, fun k hk hp => h ⟨k, hk, hp⟩⟩

section
variable {a' : Act} {w' : World} {o : Oper} {K : Act → World → Prop}
/-- An operation of the bag that yields a value, its run told. -/
theorem bag_run {v : Value} {w'' : World} (hr : (execOp a'.eval o).run P w' = .ok (.value v) w'') (h : K (a'.put o.dst v) w'') : o.wp P a' w' K Q := by
 unfold Oper.wp
 rw [hr]
 exact h
end
end Text
end Go.Proofs.YtheijpjfpaghfaaGreatDoor
/- General laws out of texts of chapter 49 (printed by bin/mk47.py). -/
namespace Go.Proofs.YtheijpjfpaghfaaGreatDoor
open Go Go.RowKit Go.ChangeMaps Gf Sha

section
variable {P : Program} (w : World) {ops : Array Oper} {rest : List Oper} {o : Oper} {a : Act} {Q : Exit → Act → World → Prop}
theorem wpList_want (hw : Region.wanted o (yielded ops a.tmps) = true)
  (h : ∀ K : Act → World → Prop, (∀ a w, wpList P ops Q rest a w → K a w) → o.wp P a w K Q) : wpList P ops Q (o :: rest) a w :=
 wpList_step fun K hK => by rw [if_pos hw]; exact h K hK
/-- A guarded load of many cells whose guard holds. -/
theorem wpList_loadvg (hw : Region.wanted o (yielded ops a.tmps) = true) (t : TypeId) (x : Operand) (hop : o.op = .load t x) (n : Nat) (ht : Agg P t n = true) (g p : Nat) (ms : List Value) (hx : a.eval x = .pointer (some ⟨g, p, none⟩))
  (hm : At w g p ms) (hn : ms.length = n) (h : wpList P ops Q rest (a.put o.dst (.agg ms.toArray)) w) : wpList P ops Q (o :: rest) a w :=
 wpList_want w hw fun K hK => by
  unfold Oper.wp execOp
  simp only [hop, hx]
  simp [run_loadAt w ht hm hn, Result.andThen]
  exact hK _ _ h
/-- A variable of one cell. -/
theorem wpList_alloc1 (hg : o.guard = none) (t : TypeId) (hop : o.op = .alloc t) (z : Value) (hz : (P.info? t).map (·.zero) = some (some z)) (hc : z.cells = #[z])
  (h : ∀ w', BL w' w.heap.size t [z] → Below w.heap.size w w' → w'.heap.size = w.heap.size + 1 → wpList P ops Q rest (a.put o.dst (.pointer (some ⟨w.heap.size, 0, none⟩))) w') : wpList P ops Q (o :: rest) a w :=
 wpList_plain hg fun K hK => by
  cases hi : P.info? t with
  | none => simp [hi] at hz
  | some i =>
   have hz' : i.zero = some z := by simpa [hi] using hz
   unfold Oper.wp execOp
   simp only [hop]
   simp [Instr.alloc, zeroValue, typeInfo, hi, hz', newVar, newRow, hc, Result.andThen]
   exact hK _ _ (h _ (BL.new w t [z]) ((Below.refl _ _).alloc (Nat.le_refl _) _) (by simp))
/-- A variable of one cell that holds a value. -/
theorem wpList_box1 (hg : o.guard = none) (t : TypeId) (x : Operand) (hop : o.op = .box t x) (v : Value) (hx : a.eval x = v) (hc : v.cells = #[v])
  (h : ∀ w', BL w' w.heap.size t [v] → Below w.heap.size w w' → w'.heap.size = w.heap.size + 1 → wpList P ops Q rest (a.put o.dst (.pointer (some ⟨w.heap.size, 0, none⟩))) w') : wpList P ops Q (o :: rest) a w :=
 wpList_plain hg fun K hK => by
  unfold Oper.wp execOp
  simp only [hop, hx]
  simp [Instr.box, newVar, newRow, hc, Result.andThen]
  exact hK _ _ (h _ (BL.new w t [v]) ((Below.refl _ _).alloc (Nat.le_refl _) _) (by simp))
end
theorem Kp.bl {S : Nat → Prop} {w w' : World} {g : Nat} {t : TypeId} {l : List Value} (h : Kp S w w') (hb : BL w g t l) (hn : ¬ S g) : BL w' g t l := (h.block g hb.lt hn).trans hb
theorem sz1 (t : TypeId) (hz : (Tryz.prog.info? t).map (·.size) = some 1) (w : World) : (sizeOf t).run Tryz.prog w = .ok 1 w := by
 cases hi : Tryz.prog.info? t with
 | none => simp [hi] at hz
 | some i =>
  have hz' : i.size = 1 := by simpa [hi] using hz
  simp [sizeOf, typeInfo, hi, hz']
end Go.Proofs.YtheijpjfpaghfaaGreatDoor
/- wire.Writer. -/
namespace Go.Proofs.YtheijpjfpaghfaaGreatDoor
open Go Go.RowKit Gf Sha

theorem own_kept {w w' : World} {base s n : Nat} {te : TypeId} {v : Value} {xs : List Value} (h : w.ownsRow base te s v n xs) (hb : Below w.heap.size w w') : w'.ownsRow base te s v n xs := by
 refine ⟨h.1, ?_⟩
 rcases h.2 with h9 | ⟨b, c, cur, rfl, h8, h10, h11⟩
 ·
  exact .inl h9
 ·
  refine .inr ⟨b, c, cur, rfl, h8, ?_, h11⟩
  have hlt : b < w.heap.size := (Array.getElem?_eq_some_iff.1 h10).1
  rw [hb.block b hlt]; exact h10
/-- A writer without an error, and its bytes. -/
def WrOk (w : World) (g : Nat) (l : List UInt8) : Prop := ∃ (v : Value) (n : Nat), BL w g 144 [v, .int .i64 0] ∧ w.ownsRow (g + 1) 5 1 v n (l.map B) ∧ l.length = n ∧ v.cells = #[v] ∧ v.oneCell' = true
theorem WrOk.kept {w w' : World} {g : Nat} {l : List UInt8} (h : WrOk w g l) (hb : Below w.heap.size w w') : WrOk w' g l := by
 obtain ⟨v, n, h1, h2, h3, h4, h5⟩ := h
 exact ⟨v, n, h1.kept hb, own_kept h2 hb, h3, h4, h5⟩
theorem WrOk.lt {w : World} {g : Nat} {l : List UInt8} (h : WrOk w g l) : g < w.heap.size := let ⟨_, _, h1, _⟩ := h; h1.lt
theorem bldWr (w : World) : (Instr.build 144 #[]).run Tryz.prog w = .ok (.agg [.slice none 0 0, .int .i64 0].toArray) w := by kernel_rfl
theorem bsl0 (w : World) : (Instr.buildSlice 22 0 #[]).run Tryz.prog w = .ok (.slice (some ⟨w.heap.size, 0, none⟩) 0 0) (w.alloc (.cells ([] : List Value).toArray 5)) := by kernel_rfl
end Go.Proofs.YtheijpjfpaghfaaGreatDoor
