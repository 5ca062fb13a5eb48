/- Several texts in one: Cel. -/
import Derived.Test.YtheijpjfpaghfaaGreatDoorC2
import Derived.Laws.Cells
import Derived.OwnWalk
import Derived.WalkKit
/- Loads, stores and new variables of many cells (arrays, structs): a block's cells as a list. Proved for any program. -/
namespace Go.Proofs.YtheijpjfpaghfaaGreatDoor
open Go Go.RowKit Gf
abbrev OpW (k : Nat) {P : Program} {ops : Array Oper} {Q : Exit → Act → World → Prop} {op : Op} {ty : TypeId} {pos : String} {after : Array Edge} {guard : Option (Nat × Bool)} {rest : List Oper} {a : Act} {w : World} : Prop := wpList P ops Q (⟨some k, op, ty, pos, after, guard⟩ :: rest) a w
abbrev OpN {P : Program} {ops : Array Oper} {Q : Exit → Act → World → Prop} {op : Op} {ty : TypeId} {pos : String} {after : Array Edge} {guard : Option (Nat × Bool)} {rest : List Oper} {a : Act} {w : World} : Prop := wpList P ops Q (⟨none, op, ty, pos, after, guard⟩ :: rest) a w

theorem Kp.after {S S' : Nat → Prop} {w w1 w2 : World} (h : Kp S w w1) (k : Kp S' w1 w2) (hs : ∀ i, i < w.heap.size → S' i → S i) : Kp S w w2 :=
 ⟨k.os.trans h.os, k.tape.trans h.tape, k.output.trans h.output, Nat.le_trans h.size k.size, fun i hi hn => (k.block i (Nat.lt_of_lt_of_le hi h.size) (fun h' => hn (hs i hi h'))).trans (h.block i hi hn)⟩

/-- The cells of block g from o on are ms. -/
def At (w : World) (g o : Nat) (ms : List Value) : Prop := ∀ j v, ms[j]? = some v → w.cell? ⟨g, o + j, none⟩ = some v
/-- Block g is just the cells l of element type t, none frozen. -/
def BL (w : World) (g : Nat) (t : TypeId) (l : List Value) : Prop := Blk w g t l.toArray

section
variable {w w' : World} {g o : Nat} {t : TypeId} {l ms : List Value}
theorem At.kept (h : At w g o ms) (hb : Below w.heap.size w w') : At w' g o ms := fun j v hj => cell_kept hb (h j v hj)
theorem At.kp {S : Nat → Prop} (h : At w g o ms) (hb : Kp S w w') (hn : ¬ S g) : At w' g o ms := fun j v hj => hb.cell (h j v hj) hn
theorem At.drew (h : At w g o ms) : At w.drew g o ms := h
theorem At.drewN (h : At w g o ms) (n : Nat) : At (w.drewN n) g o ms := h
theorem At.alloc (h : At w g o ms) (ob : Obj) : At (w.alloc ob) g o ms := h.kept ((Below.refl _ _).alloc (Nat.le_refl _) _)
theorem At.left {xs : List Value} (h : At w g o (ms ++ xs)) : At w g o ms := fun j v hj => h j v (by rw [List.getElem?_append_left (List.getElem?_eq_some_iff.1 hj).1]; exact hj)
theorem At.get (h : At w g o ms) {j : Nat} {v : Value} (hj : ms[j]? = some v) {p : Nat} (hp : p = o + j) : w.cell? ⟨g, p, none⟩ = some v := by subst hp; exact h j v hj
theorem BL.at_ {l' : List Value} (h : BL w g t (l ++ ms ++ l')) (ho : o = l.length) : At w g o ms := fun j v hj => by
 subst ho
 rw [Blk.cell h]
 simp only [List.getElem?_toArray]
 rw [List.append_assoc, List.getElem?_append_right (by omega), show l.length + j - l.length = j by omega]
 obtain ⟨h1, h2⟩ := List.getElem?_eq_some_iff.1 hj
 rw [List.getElem?_append_left h1]; exact hj
theorem BL.get (h : BL w g t l) {j : Nat} {v : Value} (hj : l[j]? = some v) : w.cell? ⟨g, j, none⟩ = some v := by
 rw [Blk.cell h]; simpa using hj
theorem BL.all (h : BL w g t l) : At w g 0 l := fun j v hj => by rw [Nat.zero_add]; exact h.get hj
theorem BL.new (w : World) (t : TypeId) (l : List Value) : BL (w.alloc (.cells l.toArray t)) w.heap.size t l := Blk.new w t l.toArray
theorem BL.lt (h : BL w g t l) : g < w.heap.size := Blk.lt h
theorem BL.kept (h : BL w g t l) (hb : Below w.heap.size w w') : BL w' g t l := Blk.kept h hb
theorem BL.kp {S : Nat → Prop} (h : BL w g t l) (hb : Kp S w w') (hn : ¬ S g) : BL w' g t l := hb.blk h hn
theorem BL.drew (h : BL w g t l) : BL w.drew g t l := h
theorem BL.drewN (h : BL w g t l) (n : Nat) : BL (w.drewN n) g t l := h
theorem BL.alloc (h : BL w g t l) (ob : Obj) : BL (w.alloc ob) g t l := Blk.alloc h ob
theorem BL.set_ (h : BL w g t l) (i : Nat) (u : Value) : BL (w.setCell ⟨g, i, none⟩ u) g t (l.set i u) := by
 have := Blk.set_ h i u
 simpa [BL] using this
theorem BL.far (h : BL w g t l) {p : Addr} (hp : g ≠ p.block) (u : Value) : BL (w.setCell p u) g t l := Blk.far h hp u
theorem BL.frozen (h : BL w g t l) (i : Nat) : w.frozen? ⟨g, i, none⟩ = false := Blk.frozen h i
end

theorem addr_add (g o j : Nat) : (⟨g, o, none⟩ : Addr).add j = ⟨g, o + j, none⟩ := by
 unfold Addr.add; split
 ·
  rename_i h; subst h; rfl
 ·
  rfl

/-- May type t be read cell by cell, n of them? -/
def Agg (P : Program) (t : TypeId) (n : Nat) : Bool :=
 (match P.underlying t with | some (.struct _) => true | some (.array _ _) => true | _ => false) && (match P.info? t with | some i => i.size == n | none => false)

section
variable {P : Program} {t : TypeId} {n : Nat} (w : World)
theorem agg_isAgg (h : Agg P t n = true) : (isAgg t).run P w = .ok true w := by
 unfold Agg at h
 rw [Bool.and_eq_true] at h
 have h1 := h.1
 unfold Go.isAgg
 cases hu : P.underlying t with
 | none => simp [hu] at h1
 | some d => rw [Sem.run_bind, run_underlying hu w]; cases d <;> simp_all
theorem agg_size (h : Agg P t n = true) : (sizeOf t).run P w = .ok n w := by
 unfold Agg at h
 rw [Bool.and_eq_true] at h
 have h1 := h.2
 cases hi : P.info? t with
 | none => simp [hi] at h1
 | some i => simp [hi] at h1; simp [sizeOf, typeInfo, hi, h1]

theorem run_loadAt (h : Agg P t n = true) {g o : Nat} {ms : List Value} (hm : At w g o ms) (hn : ms.length = n) :
  (Instr.loadAt t (.pointer (some ⟨g, o, none⟩))).run P w = .ok (.agg ms.toArray) w := by
 have hl := run_loadCells_list (P := P) w ⟨g, o, none⟩ ms (fun j v hv => by rw [addr_add]; exact hm j v hv)
 rw [hn] at hl
 simp [Instr.loadAt, Instr.sureAddr, loadVar, Sem.run_bind, agg_isAgg w h, agg_size w h, hl]

theorem run_loadVar_at (h : Agg P t n = true) {g o : Nat} {ms : List Value} (hm : At w g o ms) (hn : ms.length = n) :
  (loadVar t ⟨g, o, none⟩).run P w = .ok (.agg ms.toArray) w := by
 have hl := run_loadCells_list (P := P) w ⟨g, o, none⟩ ms (fun j v hv => by rw [addr_add]; exact hm j v hv)
 rw [hn] at hl
 simp [loadVar, Sem.run_bind, agg_isAgg w h, agg_size w h, hl]
/-- The result lies in a variable of many cells. -/
theorem results_at {fn : Func} {p : Tmp} (hf : fn.results = #[.cell p t]) (h : Agg P t n = true) {tmps : Array Value} {g o : Nat} {ms : List Value} (hp : tmps.getD p undef = .pointer (some ⟨g, o, none⟩)) (hm : At w g o ms) (hn : ms.length = n) :
  (results fn tmps).run P w = .ok (.agg ms.toArray) w := by
 have hp' : tmps[p]?.getD undef = .pointer (some ⟨g, o, none⟩) := by simpa using hp
 simp [results, hf, hp', asAddr, run_loadVar_at w h hm hn]

/-- Element k of an array value, its elements of one cell each. -/
theorem run_index {ta e : TypeId} {m : Nat} (hu : P.underlying ta = some (.array m e)) (he : (match P.underlying e with | some (.struct _) => false | some (.array _ _) => false | some _ => true | none => false) = true)
  (hs : (match P.info? e with | some i => i.size == 1 | none => false) = true) {cs : Array Value} {k : Nat} {v : Value} (hk : k < m) (hv : cs[k]? = some v) :
  (Instr.index ta (.agg cs) (.int .i64 (k : Int))).run P w = .ok v w := by
 have h1 : (isAgg e).run P w = .ok false w := by
  unfold isAgg
  cases hq : P.underlying e with
  | none => simp [hq] at he
  | some d => rw [Sem.run_bind, run_underlying hq w]; cases d <;> simp_all
 have h2 : (sizeOf e).run P w = .ok 1 w := by
  cases hi : P.info? e with
  | none => simp [hi] at hs
  | some i => simp [hi] at hs; simp [sizeOf, typeInfo, hi, hs]
 simp [Instr.index, run_underlying hu, asIntOf, Go.part, h1, h2, hv, hk, Result.andThen]

/-- vs laid over l from o on. -/
def splice (l : List Value) (o : Nat) (vs : List Value) : List Value := l.take o ++ vs ++ l.drop (o + vs.length)

theorem run_storeCells {g : Nat} {te : TypeId} (vs : List Value) (h1 : ∀ v ∈ vs, v.oneCell' = true) (o : Nat) : ∀ (k i : Nat) (l : List Value) (w : World), i + k = vs.length → BL w g te l → o + vs.length ≤ l.length →
  ∃ w', (storeCells ⟨g, o, none⟩ (vs.drop i) i).run P w = .ok () w' ∧ BL w' g te (l.take (o + i) ++ vs.drop i ++ l.drop (o + vs.length)) ∧ Kp (· = g) w w' ∧ w'.heap.size = w.heap.size := by
 intro k
 induction k with
 | zero =>
  intro i l w hi hb ho
  refine ⟨w, ?_, ?_, Kp.refl _ _, rfl⟩
  ·
   rw [List.drop_eq_nil_of_le (by omega)]; rfl
  ·
   rw [List.drop_eq_nil_of_le (by omega), show o + i = o + vs.length by omega, List.append_nil, List.take_append_drop]; exact hb
 | succ k ih =>
  intro i l w hi hb ho
  have hlt : i < vs.length := by omega
  have hd : vs.drop i = vs[i] :: vs.drop (i + 1) := List.drop_eq_getElem_cons hlt
  have hc : w.cell? ⟨g, o + i, none⟩ = some (l[o + i]'(by omega)) := hb.get (by rw [List.getElem?_eq_getElem])
  have hf := hb.frozen (o + i)
  have hb1 := hb.set_ (o + i) vs[i]
  obtain ⟨w', hr, hb', hk, hz⟩ := ih (i + 1) (l.set (o + i) vs[i]) _ (by omega) hb1 (by rw [List.length_set]; exact ho)
  refine ⟨w', ?_, ?_, ((Kp.refl (· = g) w).set (.inl rfl) vs[i]).trans hk, by rw [hz, World.size_setCell]⟩
  ·
   rw [hd]
   simp only [storeCells, Sem.run_bind, addr_add, run_store P w _ vs[i] .plain (h1 _ (List.getElem_mem hlt)), hc, hf, Result.andThen, Bool.false_eq_true, if_false]
   exact hr
  ·
   have e1 : (l.set (o + i) vs[i]).take (o + (i + 1)) = l.take (o + i) ++ [vs[i]] := by
    rw [show o + (i + 1) = o + i + 1 by omega, List.take_succ_eq_append_getElem (by rw [List.length_set]; omega), List.take_set_of_le (Nat.le_refl _), List.getElem_set_self]
   have e2 : (l.set (o + i) vs[i]).drop (o + vs.length) = l.drop (o + vs.length) := List.drop_set_of_lt (by omega)
   rw [e1, e2] at hb'
   rw [hd]
   simpa using hb'

theorem run_storeAt (h : Agg P t n = true) {g o : Nat} {te : TypeId} {l vs : List Value} (hb : BL w g te l) (hn : vs.length = n) (h1 : ∀ v ∈ vs, v.oneCell' = true) (ho : o + n ≤ l.length) :
  ∃ w', (Instr.storeAt t (.pointer (some ⟨g, o, none⟩)) (.agg vs.toArray)).run P w = .ok () w' ∧ BL w' g te (splice l o vs) ∧ Kp (· = g) w w' ∧ w'.heap.size = w.heap.size := by
 obtain ⟨w', hr, hb', hk, hz⟩ := run_storeCells (P := P) vs h1 o vs.length 0 l w (by omega) hb (by omega)
 refine ⟨w', ?_, ?_, hk, hz⟩
 ·
  rw [List.drop_zero] at hr
  simp [Instr.storeAt, Instr.sureAddr, storeVar, Sem.run_bind, agg_size w h, Value.cells, hn, hr]
 ·
  rw [List.drop_zero] at hb'; exact hb'
end

section
variable {P : Program} (w : World) {ops : Array Oper} {rest : List Oper} {o : Oper} {a : Act} {Q : Exit → Act → World → Prop}

/-- 'var x T', T of many cells. -/
theorem wpList_alloc (hg : o.guard = none) (t : TypeId) (hop : o.op = .alloc t) (l : List Value) (hz : (P.info? t).map (·.zero) = some (some (.agg l.toArray)))
  (h : ∀ w', BL w' w.heap.size t l → Below w.heap.size w w' → w'.heap.size = w.heap.size + 1 → wpList P ops Q rest (a.put o.dst (.pointer (some ⟨w.heap.size, 0, none⟩))) w') : wpList P ops Q (o :: rest) a w :=
 wpList_plain hg fun K hK => by
  cases hi : P.info? t with
  | none => simp [hi] at hz
  | some i =>
   have hz' : i.zero = some (.agg l.toArray) := by simpa [hi] using hz
   unfold Oper.wp execOp
   simp only [hop]
   simp [Instr.alloc, zeroValue, typeInfo, hi, hz', newVar, newRow, Value.cells, Result.andThen]
   exact hK _ _ (h _ (BL.new w t l) ((Below.refl _ _).alloc (Nat.le_refl _) _) (by simp))

/-- '&T{..}', T of many cells. -/
theorem wpList_box (hg : o.guard = none) (t : TypeId) (x : Operand) (hop : o.op = .box t x) (l : List Value) (hx : a.eval x = .agg l.toArray)
  (h : ∀ w', BL w' w.heap.size t l → Below w.heap.size w w' → w'.heap.size = w.heap.size + 1 → wpList P ops Q rest (a.put o.dst (.pointer (some ⟨w.heap.size, 0, none⟩))) w') : wpList P ops Q (o :: rest) a w :=
 wpList_plain hg fun K hK => by
  unfold Oper.wp execOp
  simp only [hop, hx]
  simp [Instr.box, newVar, newRow, Value.cells, Result.andThen]
  exact hK _ _ (h _ (BL.new w t l) ((Below.refl _ _).alloc (Nat.le_refl _) _) (by simp))
/-- 'T{..}' of many cells, its run told. -/
theorem wpList_build (hg : o.guard = none) (t : TypeId) (parts : Array (Nat × Operand)) (hop : o.op = .build t parts) (ps : Array (Nat × Value)) (hps : (parts.map fun (i, x) => (i, a.eval x)) = ps) (v : Value) (hr : (Instr.build t ps).run P w = .ok v w)
  (h : wpList P ops Q rest (a.put o.dst v) w) : wpList P ops Q (o :: rest) a w :=
 wpList_plain hg fun K hK => by
  unfold Oper.wp execOp
  simp only [hop, hps]
  simp [hr, Result.andThen]
  exact hK _ _ h

/-- A load of many cells. -/
theorem wpList_loadv (hg : o.guard = none) (t : TypeId) (x : Operand) (hop : o.op = .load t x) (n : Nat) (ht : Agg P t n = true) (g p : Nat) (ms : List Value) (hx : a.eval x = .pointer (some ⟨g, p, none⟩))
  (hm : At w g p ms) (hn : ms.length = n) (h : wpList P ops Q rest (a.put o.dst (.agg ms.toArray)) w) : wpList P ops Q (o :: rest) a w :=
 wpList_plain hg fun K hK => by
  unfold Oper.wp execOp
  simp only [hop, hx]
  simp [run_loadAt w ht hm hn, Result.andThen]
  exact hK _ _ h

/-- A store of many cells. -/
theorem wpList_storev (hg : o.guard = none) (t : TypeId) (x y : Operand) (hop : o.op = .store t x y) (n : Nat) (ht : Agg P t n = true) (g p : Nat) (te : TypeId) (l vs : List Value) (hx : a.eval x = .pointer (some ⟨g, p, none⟩)) (hy : a.eval y = .agg vs.toArray)
  (hb : BL w g te l) (hn : vs.length = n) (h1 : ∀ v ∈ vs, v.oneCell' = true) (ho : p + n ≤ l.length)
  (h : ∀ w', BL w' g te (splice l p vs) → Kp (· = g) w w' → w'.heap.size = w.heap.size → wpList P ops Q rest (a.put o.dst undef) w') : wpList P ops Q (o :: rest) a w :=
 wpList_plain hg fun K hK => by
  obtain ⟨w', hr, h2, h3, h4⟩ := run_storeAt w ht hb hn h1 ho
  unfold Oper.wp execOp
  simp only [hop, hx, hy]
  simp [hr, Result.andThen]
  exact hK _ _ (h w' h2 h3 h4)
end
end Go.Proofs.YtheijpjfpaghfaaGreatDoor
