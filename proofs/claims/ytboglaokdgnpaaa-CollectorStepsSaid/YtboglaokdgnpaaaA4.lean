/- Several texts in one: Join, Cel2, Tkr. -/
import Derived.Test.YtboglaokdgnpaaaA3
/- Slices of strings. -/
namespace Sha
end Sha
namespace Go.Proofs.Ytboglaokdgnpaaa
open Go.RowKit Gf Sha

/-- Strings. -/
def TS (w : World) (A : Option Addr) (n c : Nat) (m : List (List UInt8)) : Prop :=
 m.length = n ∧ n ≤ c ∧ n * 16 ≤ lim ∧ Cells w A n (fun k => .string (strB (gR m k)))
theorem TS.kept {w w' : World} {A : Option Addr} {n c : Nat} {m : List (List UInt8)} (h : TS w A n c m) (hb : Below w.heap.size w w') : TS w' A n c m := ⟨h.1, h.2.1, h.2.2.1, h.2.2.2.kept hb⟩
theorem TS.drew {w : World} {A : Option Addr} {n c : Nat} {m : List (List UInt8)} (h : TS w A n c m) : TS w.drew A n c m := h
theorem TS.at_ {w w' : World} {A : Option Addr} {n c : Nat} {m : List (List UInt8)} (h : TS w A n c m) (hb : Below w.heap.size w w') {k : Nat} (hk : k < n) : ∃ g o, A = some ⟨g, o, none⟩ ∧ w'.cell? ⟨g, o + k, none⟩ = some (.string (strB (gR m k))) := (h.kept hb).2.2.2 k hk
theorem TS.nil {w : World} : TS w none 0 0 [] := ⟨rfl, Nat.le_refl _, by decide, fun k hk => absurd hk (by omega)⟩
theorem TS.of_blk {w : World} {g : Nat} {t : TypeId} {m : List (List UInt8)} (h : BL w g t (m.map fun l => .string (strB l))) {n : Nat} (hn : m.length = n) (hl : n * 16 ≤ lim) : TS w (some ⟨g, 0, none⟩) n n m :=
 ⟨hn, Nat.le_refl _, hl, fun k hk => ⟨g, 0, rfl, by
  rw [Nat.zero_add]
  refine h.get ?_
  rw [List.getElem?_map, List.getElem?_eq_getElem (by omega)]
  show some (Value.string _) = some (.string (strB (gR m k)))
  rw [gR_eq (by omega)]⟩⟩
end Go.Proofs.Ytboglaokdgnpaaa
/- copy from a string; struct values built of parts of many cells. -/
namespace Go.Proofs.Ytboglaokdgnpaaa
open Go Go.RowKit Gf

section
variable {P : Program} (w : World)
end

section
variable {P : Program} {w : World} {o : Oper} {a : Act} {Q : Exit → Act → World → Prop} {K : Act → World → Prop}
theorem wp_box (t : TypeId) (x : Operand) (hop : o.op = .box t x) (l : List Value) (hx : a.eval x = .agg l.toArray)
  (h : ∀ w', BL w' w.heap.size t l → Below w.heap.size w w' → w'.heap.size = w.heap.size + 1 → K (a.put o.dst (.pointer (some ⟨w.heap.size, 0, none⟩))) w') : o.wp P a w K Q := by
 unfold Oper.wp execOp
 simp only [hop, hx]
 simp [Instr.box, newVar, newRow, Value.cells, Result.andThen]
 exact h _ (BL.new w t l) ((Below.refl _ _).alloc (Nat.le_refl _) _) (by simp)
theorem exec_build {t : TypeId} {parts : Array (Nat × Operand)} (hop : o.op = .build t parts) {ps : Array (Nat × Value)} (hps : (parts.map fun (i, x) => (i, a.eval x)) = ps) {v : Value} (hr : (Instr.build t ps).run P w = .ok v w) : (execOp a.eval o).run P w = .ok (.value v) w := by
 unfold execOp
 simp only [hop, hps]
 simp [hr, Result.andThen]
end
section
variable {P : Program} {w : World}
end
end Go.Proofs.Ytboglaokdgnpaaa
/- Rows of elements of many cells: tokens. Plain, but for the words on memory. -/
namespace Go.Proofs.Ytboglaokdgnpaaa
open Go Go.RowKit Gf

section
variable {α : Type} {f : α → List Value} {s : Nat}
theorem flat_length (hf : ∀ x, (f x).length = s) (l : List α) : (l.flatMap f).length = l.length * s := by
 induction l with
 | nil => simp
 | cons x l ih => rw [List.flatMap_cons, List.length_append, hf, ih, List.length_cons, Nat.succ_mul]; omega
theorem splice_mid (A X C vs : List Value) (o : Nat) (ho : o = A.length) (h : vs.length = X.length) : splice (A ++ X ++ C) o vs = A ++ vs ++ C := by
 subst ho
 unfold splice
 have e1 : (A ++ X ++ C).take A.length = A := by rw [List.append_assoc, List.take_left]
 have e2 : (A ++ X ++ C).drop (A.length + vs.length) = C := by rw [h, ← List.length_append, List.drop_left]
 rw [e1, e2]
end

section
variable {P : Program} {w : World} {o : Oper} {a : Act} {Q : Exit → Act → World → Prop} {K : Act → World → Prop}
theorem wp_storev (t : TypeId) (x y : Operand) (hop : o.op = .store t x y) (n : Nat) (ht : Agg P t n = true) (g p : Nat) (te : TypeId) (l vs : List Value) (hx : a.eval x = .pointer (some ⟨g, p, none⟩)) (hy : a.eval y = .agg vs.toArray)
  (hb : BL w g te l) (hn : vs.length = n) (h1 : ∀ v ∈ vs, v.oneCell' = true) (ho : p + n ≤ l.length)
  (h : ∀ w', BL w' g te (splice l p vs) → Kp (· = g) w w' → w'.heap.size = w.heap.size → K (a.put o.dst undef) w') : o.wp P a w K Q := by
 obtain ⟨w', hr, h2, h3, h4⟩ := run_storeAt w ht hb hn h1 ho
 unfold Oper.wp execOp
 simp only [hop, hx, hy]
 simp [hr, Result.andThen]
 exact h w' h2 h3 h4
end
end Go.Proofs.Ytboglaokdgnpaaa
