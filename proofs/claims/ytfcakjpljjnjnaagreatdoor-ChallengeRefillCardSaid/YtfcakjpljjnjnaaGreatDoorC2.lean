/- Several texts in one: Cel, Map, Mf. -/
import Derived.Test.YtfcakjpljjnjnaaGreatDoorC1
import Derived.Laws.Cells
import Derived.OwnWalk
import Derived.WalkKit
import Derived.Maps.OwnSet
/- Loads, stores and new variables of many cells (arrays, structs): a block's cells as a list. Proved for any program. -/
namespace Go.Proofs.YtfcakjpljjnjnaaGreatDoor
open Go Go.RowKit Gf
abbrev OpW (k : Nat) {P : Program} {ops : Array Oper} {Q : Exit → Act → World → Prop} {op : Op} {ty : TypeId} {pos : String} {after : Array Edge} {guard : Option (Nat × Bool)} {rest : List Oper} {a : Act} {w : World} : Prop := wpList P ops Q (⟨some k, op, ty, pos, after, guard⟩ :: rest) a w
abbrev OpN {P : Program} {ops : Array Oper} {Q : Exit → Act → World → Prop} {op : Op} {ty : TypeId} {pos : String} {after : Array Edge} {guard : Option (Nat × Bool)} {rest : List Oper} {a : Act} {w : World} : Prop := wpList P ops Q (⟨none, op, ty, pos, after, guard⟩ :: rest) a w

theorem Kp.after {S S' : Nat → Prop} {w w1 w2 : World} (h : Kp S w w1) (k : Kp S' w1 w2) (hs : ∀ i, i < w.heap.size → S' i → S i) : Kp S w w2 :=
 ⟨k.os.trans h.os, k.tape.trans h.tape, k.output.trans h.output, Nat.le_trans h.size k.size, fun i hi hn => (k.block i (Nat.lt_of_lt_of_le hi h.size) (fun h' => hn (hs i hi h'))).trans (h.block i hi hn)⟩

/-- The cells of block g from o on are ms. -/
def At (w : World) (g o : Nat) (ms : List Value) : Prop := ∀ j v, ms[j]? = some v → w.cell? ⟨g, o + j, none⟩ = some v
/-- Block g is just the cells l of element type t, none frozen. -/
def BL (w : World) (g : Nat) (t : TypeId) (l : List Value) : Prop := Blk w g t l.toArray

section
variable {w w' : World} {g o : Nat} {t : TypeId} {l ms : List Value}
theorem At.kept (h : At w g o ms) (hb : Below w.heap.size w w') : At w' g o ms := fun j v hj => cell_kept hb (h j v hj)
theorem At.kp {S : Nat → Prop} (h : At w g o ms) (hb : Kp S w w') (hn : ¬ S g) : At w' g o ms := fun j v hj => hb.cell (h j v hj) hn
theorem At.drew (h : At w g o ms) : At w.drew g o ms := h
theorem At.drewN (h : At w g o ms) (n : Nat) : At (w.drewN n) g o ms := h
theorem At.alloc (h : At w g o ms) (ob : Obj) : At (w.alloc ob) g o ms := h.kept ((Below.refl _ _).alloc (Nat.le_refl _) _)
theorem At.left {xs : List Value} (h : At w g o (ms ++ xs)) : At w g o ms := fun j v hj => h j v (by rw [List.getElem?_append_left (List.getElem?_eq_some_iff.1 hj).1]; exact hj)
theorem At.get (h : At w g o ms) {j : Nat} {v : Value} (hj : ms[j]? = some v) {p : Nat} (hp : p = o + j) : w.cell? ⟨g, p, none⟩ = some v := by subst hp; exact h j v hj
theorem BL.at_ {l' : List Value} (h : BL w g t (l ++ ms ++ l')) (ho : o = l.length) : At w g o ms := fun j v hj => by
 subst ho
 rw [Blk.cell h]
 simp only [List.getElem?_toArray]
 rw [List.append_assoc, List.getElem?_append_right (by omega), show l.length + j - l.length = j by omega]
 obtain ⟨h1, h2⟩ := List.getElem?_eq_some_iff.1 hj
 rw [List.getElem?_append_left h1]; exact hj
theorem BL.get (h : BL w g t l) {j : Nat} {v : Value} (hj : l[j]? = some v) : w.cell? ⟨g, j, none⟩ = some v := by
 rw [Blk.cell h]; simpa using hj
theorem BL.all (h : BL w g t l) : At w g 0 l := fun j v hj => by rw [Nat.zero_add]; exact h.get hj
theorem BL.new (w : World) (t : TypeId) (l : List Value) : BL (w.alloc (.cells l.toArray t)) w.heap.size t l := Blk.new w t l.toArray
theorem BL.lt (h : BL w g t l) : g < w.heap.size := Blk.lt h
theorem BL.kept (h : BL w g t l) (hb : Below w.heap.size w w') : BL w' g t l := Blk.kept h hb
theorem BL.kp {S : Nat → Prop} (h : BL w g t l) (hb : Kp S w w') (hn : ¬ S g) : BL w' g t l := hb.blk h hn
theorem BL.drew (h : BL w g t l) : BL w.drew g t l := h
theorem BL.drewN (h : BL w g t l) (n : Nat) : BL (w.drewN n) g t l := h
theorem BL.alloc (h : BL w g t l) (ob : Obj) : BL (w.alloc ob) g t l := Blk.alloc h ob
theorem BL.set_ (h : BL w g t l) (i : Nat) (u : Value) : BL (w.setCell ⟨g, i, none⟩ u) g t (l.set i u) := by
 have := Blk.set_ h i u
 simpa [BL] using this
theorem BL.far (h : BL w g t l) {p : Addr} (hp : g ≠ p.block) (u : Value) : BL (w.setCell p u) g t l := Blk.far h hp u
theorem BL.frozen (h : BL w g t l) (i : Nat) : w.frozen? ⟨g, i, none⟩ = false := Blk.frozen h i
end

theorem addr_add (g o j : Nat) : (⟨g, o, none⟩ : Addr).add j = ⟨g, o + j, none⟩ := by
 unfold Addr.add; split
 ·
  rename_i h; subst h; rfl
 ·
  rfl

/-- May type t be read cell by cell, n of them? -/
def Agg (P : Program) (t : TypeId) (n : Nat) : Bool :=
 (match P.underlying t with | some (.struct _) => true | some (.array _ _) => true | _ => false) && (match P.info? t with | some i => i.size == n | none => false)

section
variable {P : Program} {t : TypeId} {n : Nat} (w : World)
theorem agg_isAgg (h : Agg P t n = true) : (isAgg t).run P w = .ok true w := by
 unfold Agg at h
 rw [Bool.and_eq_true] at h
 have h1 := h.1
 unfold Go.isAgg
 cases hu : P.underlying t with
 | none => simp [hu] at h1
 | some d => rw [Sem.run_bind, run_underlying hu w]; cases d <;> simp_all
theorem agg_size (h : Agg P t n = true) : (sizeOf t).run P w = .ok n w := by
 unfold Agg at h
 rw [Bool.and_eq_true] at h
 have h1 := h.2
 cases hi : P.info? t with
 | none => simp [hi] at h1
 | some i => simp [hi] at h1; simp [sizeOf, typeInfo, hi, h1]

theorem run_loadAt (h : Agg P t n = true) {g o : Nat} {ms : List Value} (hm : At w g o ms) (hn : ms.length = n) :
  (Instr.loadAt t (.pointer (some ⟨g, o, none⟩))).run P w = .ok (.agg ms.toArray) w := by
 have hl := run_loadCells_list (P := P) w ⟨g, o, none⟩ ms (fun j v hv => by rw [addr_add]; exact hm j v hv)
 rw [hn] at hl
 simp [Instr.loadAt, Instr.sureAddr, loadVar, Sem.run_bind, agg_isAgg w h, agg_size w h, hl]

theorem run_loadVar_at (h : Agg P t n = true) {g o : Nat} {ms : List Value} (hm : At w g o ms) (hn : ms.length = n) :
  (loadVar t ⟨g, o, none⟩).run P w = .ok (.agg ms.toArray) w := by
 have hl := run_loadCells_list (P := P) w ⟨g, o, none⟩ ms (fun j v hv => by rw [addr_add]; exact hm j v hv)
 rw [hn] at hl
 simp [loadVar, Sem.run_bind, agg_isAgg w h, agg_size w h, hl]
/-- The result lies in a variable of many cells. -/
theorem results_at {fn : Func} {p : Tmp} (hf : fn.results = #[.cell p t]) (h : Agg P t n = true) {tmps : Array Value} {g o : Nat} {ms : List Value} (hp : tmps.getD p undef = .pointer (some ⟨g, o, none⟩)) (hm : At w g o ms) (hn : ms.length = n) :
  (results fn tmps).run P w = .ok (.agg ms.toArray) w := by
 have hp' : tmps[p]?.getD undef = .pointer (some ⟨g, o, none⟩) := by simpa using hp
 simp [results, hf, hp', asAddr, run_loadVar_at w h hm hn]

/-- Element k of an array value, its elements of one cell each. -/
theorem run_index {ta e : TypeId} {m : Nat} (hu : P.underlying ta = some (.array m e)) (he : (match P.underlying e with | some (.struct _) => false | some (.array _ _) => false | some _ => true | none => false) = true)
  (hs : (match P.info? e with | some i => i.size == 1 | none => false) = true) {cs : Array Value} {k : Nat} {v : Value} (hk : k < m) (hv : cs[k]? = some v) :
  (Instr.index ta (.agg cs) (.int .i64 (k : Int))).run P w = .ok v w := by
 have h1 : (isAgg e).run P w = .ok false w := by
  unfold isAgg
  cases hq : P.underlying e with
  | none => simp [hq] at he
  | some d => rw [Sem.run_bind, run_underlying hq w]; cases d <;> simp_all
 have h2 : (sizeOf e).run P w = .ok 1 w := by
  cases hi : P.info? e with
  | none => simp [hi] at hs
  | some i => simp [hi] at hs; simp [sizeOf, typeInfo, hi, hs]
 simp [Instr.index, run_underlying hu, asIntOf, Go.part, h1, h2, hv, hk, Result.andThen]

/-- vs laid over l from o on. -/
def splice (l : List Value) (o : Nat) (vs : List Value) : List Value := l.take o ++ vs ++ l.drop (o + vs.length)

theorem run_storeCells {g : Nat} {te : TypeId} (vs : List Value) (h1 : ∀ v ∈ vs, v.oneCell' = true) (o : Nat) : ∀ (k i : Nat) (l : List Value) (w : World), i + k = vs.length → BL w g te l → o + vs.length ≤ l.length →
  ∃ w', (storeCells ⟨g, o, none⟩ (vs.drop i) i).run P w = .ok () w' ∧ BL w' g te (l.take (o + i) ++ vs.drop i ++ l.drop (o + vs.length)) ∧ Kp (· = g) w w' ∧ w'.heap.size = w.heap.size := by
 intro k
 induction k with
 | zero =>
  intro i l w hi hb ho
  refine ⟨w, ?_, ?_, Kp.refl _ _, rfl⟩
  ·
   rw [List.drop_eq_nil_of_le (by omega)]; rfl
  ·
   rw [List.drop_eq_nil_of_le (by omega), show o + i = o + vs.length by omega, List.append_nil, List.take_append_drop]; exact hb
 | succ k ih =>
  intro i l w hi hb ho
  have hlt : i < vs.length := by omega
  have hd : vs.drop i = vs[i] :: vs.drop (i + 1) := List.drop_eq_getElem_cons hlt
  have hc : w.cell? ⟨g, o + i, none⟩ = some (l[o + i]'(by omega)) := hb.get (by rw [List.getElem?_eq_getElem])
  have hf := hb.frozen (o + i)
  have hb1 := hb.set_ (o + i) vs[i]
  obtain ⟨w', hr, hb', hk, hz⟩ := ih (i + 1) (l.set (o + i) vs[i]) _ (by omega) hb1 (by rw [List.length_set]; exact ho)
  refine ⟨w', ?_, ?_, ((Kp.refl (· = g) w).set (.inl rfl) vs[i]).trans hk, by rw [hz, World.size_setCell]⟩
  ·
   rw [hd]
   simp only [storeCells, Sem.run_bind, addr_add, run_store P w _ vs[i] .plain (h1 _ (List.getElem_mem hlt)), hc, hf, Result.andThen, Bool.false_eq_true, if_false]
   exact hr
  ·
   have e1 : (l.set (o + i) vs[i]).take (o + (i + 1)) = l.take (o + i) ++ [vs[i]] := by
    rw [show o + (i + 1) = o + i + 1 by omega, List.take_succ_eq_append_getElem (by rw [List.length_set]; omega), List.take_set_of_le (Nat.le_refl _), List.getElem_set_self]
   have e2 : (l.set (o + i) vs[i]).drop (o + vs.length) = l.drop (o + vs.length) := List.drop_set_of_lt (by omega)
   rw [e1, e2] at hb'
   rw [hd]
   simpa using hb'

theorem run_storeAt (h : Agg P t n = true) {g o : Nat} {te : TypeId} {l vs : List Value} (hb : BL w g te l) (hn : vs.length = n) (h1 : ∀ v ∈ vs, v.oneCell' = true) (ho : o + n ≤ l.length) :
  ∃ w', (Instr.storeAt t (.pointer (some ⟨g, o, none⟩)) (.agg vs.toArray)).run P w = .ok () w' ∧ BL w' g te (splice l o vs) ∧ Kp (· = g) w w' ∧ w'.heap.size = w.heap.size := by
 obtain ⟨w', hr, hb', hk, hz⟩ := run_storeCells (P := P) vs h1 o vs.length 0 l w (by omega) hb (by omega)
 refine ⟨w', ?_, ?_, hk, hz⟩
 ·
  rw [List.drop_zero] at hr
  simp [Instr.storeAt, Instr.sureAddr, storeVar, Sem.run_bind, agg_size w h, Value.cells, hn, hr]
 ·
  rw [List.drop_zero] at hb'; exact hb'
end

section
variable {P : Program} (w : World) {ops : Array Oper} {rest : List Oper} {o : Oper} {a : Act} {Q : Exit → Act → World → Prop}

/-- 'var x T', T of many cells. -/
theorem wpList_alloc (hg : o.guard = none) (t : TypeId) (hop : o.op = .alloc t) (l : List Value) (hz : (P.info? t).map (·.zero) = some (some (.agg l.toArray)))
  (h : ∀ w', BL w' w.heap.size t l → Below w.heap.size w w' → w'.heap.size = w.heap.size + 1 → wpList P ops Q rest (a.put o.dst (.pointer (some ⟨w.heap.size, 0, none⟩))) w') : wpList P ops Q (o :: rest) a w :=
 wpList_plain hg fun K hK => by
  cases hi : P.info? t with
  | none => simp [hi] at hz
  | some i =>
   have hz' : i.zero = some (.agg l.toArray) := by simpa [hi] using hz
   unfold Oper.wp execOp
   simp only [hop]
   simp [Instr.alloc, zeroValue, typeInfo, hi, hz', newVar, newRow, Value.cells, Result.andThen]
   exact hK _ _ (h _ (BL.new w t l) ((Below.refl _ _).alloc (Nat.le_refl _) _) (by simp))

/-- '&T{..}', T of many cells. -/
theorem wpList_box (hg : o.guard = none) (t : TypeId) (x : Operand) (hop : o.op = .box t x) (l : List Value) (hx : a.eval x = .agg l.toArray)
  (h : ∀ w', BL w' w.heap.size t l → Below w.heap.size w w' → w'.heap.size = w.heap.size + 1 → wpList P ops Q rest (a.put o.dst (.pointer (some ⟨w.heap.size, 0, none⟩))) w') : wpList P ops Q (o :: rest) a w :=
 wpList_plain hg fun K hK => by
  unfold Oper.wp execOp
  simp only [hop, hx]
  simp [Instr.box, newVar, newRow, Value.cells, Result.andThen]
  exact hK _ _ (h _ (BL.new w t l) ((Below.refl _ _).alloc (Nat.le_refl _) _) (by simp))
/-- 'T{..}' of many cells, its run told. -/
theorem wpList_build (hg : o.guard = none) (t : TypeId) (parts : Array (Nat × Operand)) (hop : o.op = .build t parts) (ps : Array (Nat × Value)) (hps : (parts.map fun (i, x) => (i, a.eval x)) = ps) (v : Value) (hr : (Instr.build t ps).run P w = .ok v w)
  (h : wpList P ops Q rest (a.put o.dst v) w) : wpList P ops Q (o :: rest) a w :=
 wpList_plain hg fun K hK => by
  unfold Oper.wp execOp
  simp only [hop, hps]
  simp [hr, Result.andThen]
  exact hK _ _ h

/-- A load of many cells. -/
theorem wpList_loadv (hg : o.guard = none) (t : TypeId) (x : Operand) (hop : o.op = .load t x) (n : Nat) (ht : Agg P t n = true) (g p : Nat) (ms : List Value) (hx : a.eval x = .pointer (some ⟨g, p, none⟩))
  (hm : At w g p ms) (hn : ms.length = n) (h : wpList P ops Q rest (a.put o.dst (.agg ms.toArray)) w) : wpList P ops Q (o :: rest) a w :=
 wpList_plain hg fun K hK => by
  unfold Oper.wp execOp
  simp only [hop, hx]
  simp [run_loadAt w ht hm hn, Result.andThen]
  exact hK _ _ h

/-- A store of many cells. -/
theorem wpList_storev (hg : o.guard = none) (t : TypeId) (x y : Operand) (hop : o.op = .store t x y) (n : Nat) (ht : Agg P t n = true) (g p : Nat) (te : TypeId) (l vs : List Value) (hx : a.eval x = .pointer (some ⟨g, p, none⟩)) (hy : a.eval y = .agg vs.toArray)
  (hb : BL w g te l) (hn : vs.length = n) (h1 : ∀ v ∈ vs, v.oneCell' = true) (ho : p + n ≤ l.length)
  (h : ∀ w', BL w' g te (splice l p vs) → Kp (· = g) w w' → w'.heap.size = w.heap.size → wpList P ops Q rest (a.put o.dst undef) w') : wpList P ops Q (o :: rest) a w :=
 wpList_plain hg fun K hK => by
  obtain ⟨w', hr, h2, h3, h4⟩ := run_storeAt w ht hb hn h1 ho
  unfold Oper.wp execOp
  simp only [hop, hx, hy]
  simp [hr, Result.andThen]
  exact hK _ _ (h w' h2 h3 h4)
end
end Go.Proofs.YtfcakjpljjnjnaaGreatDoor
/- Maps of the call's own, as lists of keys with values; look-ups and stores as laws at the operation. Proved for any program. -/
namespace Go.Proofs.YtfcakjpljjnjnaaGreatDoor
open Go Go.RowKit Go.ChangeMaps Go.MapKept Gf
open Go.Maps (Keyed)

/-- Block b is a map with just the entries L. -/
def MB (P : Program) (k : TypeId) (w : World) (b : Nat) (L : List (Value × Value)) : Prop :=
 ∃ es clock, w.heap[b]? = some (.map es clock) ∧ Stamped es clock ∧ (∀ x ∈ es.toList, ∃ l, keyOf P k x.key = some l) ∧ es.toList.map (fun e => (e.key, e.val)) = L

section
variable {P : Program} {k : TypeId} {w w' : World} {b : Nat} {L : List (Value × Value)}
theorem MB.lt (h : MB P k w b L) : b < w.heap.size := by
 obtain ⟨es, clock, hb, _⟩ := h
 exact (Array.getElem?_eq_some_iff.1 hb).1
theorem MB.kept (h : MB P k w b L) (hb : Below w.heap.size w w') : MB P k w' b L := by
 have hl := h.lt
 obtain ⟨es, clock, h1, h2⟩ := h
 exact ⟨es, clock, (hb.block b hl).trans h1, h2⟩
theorem MB.kp {S : Nat → Prop} (h : MB P k w b L) (hb : Kp S w w') (hn : ¬ S b) : MB P k w' b L := by
 have hl := h.lt
 obtain ⟨es, clock, h1, h2⟩ := h
 exact ⟨es, clock, (hb.block b hl hn).trans h1, h2⟩
theorem MB.drew (h : MB P k w b L) : MB P k w.drew b L := h
theorem MB.drewN (h : MB P k w b L) (n : Nat) : MB P k (w.drewN n) b L := h
theorem MB.new (P : Program) (k : TypeId) (w : World) : MB P k (w.alloc (.map #[] 0)) w.heap.size [] :=
 ⟨#[], 0, (MapKept.heap_alloc w _).1, stamped_empty 0, by simp, rfl⟩
theorem MB.nodup (h : MB P k w b L) : (L.map (·.1)).Nodup := by
 obtain ⟨es, clock, _, h2, _, rfl⟩ := h
 rw [List.map_map]
 exact h2.2.2

theorem run_makeMap' (t : TypeId) (w : World) : (Instr.makeMap t none).run P w = .ok (.map (some w.heap.size)) (w.alloc (.map #[] 0)) := rfl

/-- The value of a key, the zero value where there is none. -/
inductive Found (L : List (Value × Value)) (x z : Value) : Value → Bool → Prop
 | yes (i : Nat) (v : Value) (h : L[i]? = some (x, v)) : Found L x z v true
 | no (h : ∀ p ∈ L, p.1 ≠ x) : Found L x z z false

theorem MB.look {t e : TypeId} (h : MB P k w b L) (K : Keyed P k) (ht : P.underlying t = some (.map k e)) {z : Value} (hz : (P.info? e).map (·.zero) = some (some z)) {x : Value} {lx : Lit} (hx : keyOf P k x = some lx) (c : Bool) :
  ∃ v f, Found L x z v f ∧ (Instr.lookup t (.map (some b)) x c).run P w = .ok (if c then .tuple #[v, .bool f] else v) w := by
 obtain ⟨es, clock, hb, _, hk, rfl⟩ := h
 have hzv : (zeroValue e).run P w = .ok z w := by
  cases hi : P.info? e with
  | none => simp [hi] at hz
  | some i =>
   have hz' : i.zero = some z := by simpa [hi] using hz
   simp [zeroValue, typeInfo, hi, hz']
 rcases K.find w hx es.toList hk with ⟨f1, f2⟩ | ⟨j, e0, f1, f2, f3⟩
 ·
  refine ⟨z, false, .no (by intro p hp; obtain ⟨y, hy, rfl⟩ := List.mem_map.1 hp; exact f2 y hy), ?_⟩
  simp [Instr.lookup, run_underlying ht, MapKept.run_getObj_map hb, K.check w _ hx, f1, hzv, Result.andThen]
 ·
  refine ⟨e0.val, true, .yes j e0.val (by rw [List.getElem?_map, f2]; simp [f3]), ?_⟩
  simp [Instr.lookup, run_underlying ht, MapKept.run_getObj_map hb, K.check w _ hx, f1, Result.andThen]

/-- The list behind a store. -/
inductive Stored (L : List (Value × Value)) (x v : Value) : List (Value × Value) → Prop
 | old (i : Nat) (u : Value) (h : L[i]? = some (x, u)) : Stored L x v (L.set i (x, v))
 | new (h : ∀ p ∈ L, p.1 ≠ x) : Stored L x v (L ++ [(x, v)])

theorem MB.store {t e : TypeId} (h : MB P k w b L) (K : Keyed P k) (ht : P.underlying t = some (.map k e)) {x : Value} {lx : Lit} (hx : keyOf P k x = some lx) (v : Value) :
  ∃ w' L', Stored L x v L' ∧ (Instr.mapUpdate t (.map (some b)) x v).run P w = .ok () w' ∧ MB P k w' b L' ∧ Kp (· = b) w w' ∧ w'.heap.size = w.heap.size := by
 obtain ⟨es, clock, hb, hst, hk, rfl⟩ := h
 have kp : ∀ o, Kp (· = b) w (setBlock w b o) := fun o => ⟨rfl, rfl, rfl, by simp [setBlock], fun i _ hi => heap_setBlock_other hb o hi⟩
 rcases K.find w hx es.toList hk with ⟨f1, f2⟩ | ⟨j, e0, f1, f2, f3⟩
 ·
  refine ⟨setBlock w b (.map (es.push { key := x, val := v, born := clock }) (clock + 1)), _, .new (by intro p hp; obtain ⟨y, hy, rfl⟩ := List.mem_map.1 hp; exact f2 y hy), ?_, ⟨_, _, heap_setBlock_same hb _, stamped_push hst (fun y hy => f2 y hy), ?_, ?_⟩, kp _, by simp [setBlock]⟩
  ·
   simp [Instr.mapUpdate, run_underlying ht, MapKept.run_getObj_map hb, K.check w _ hx, f1, MapKept.run_setObj_map _ hb, Result.andThen, setBlock]
  ·
   intro y hy
   simp only [Array.toList_push, List.mem_append, List.mem_singleton] at hy
   rcases hy with hy | rfl
   ·
    exact hk y hy
   ·
    exact ⟨lx, hx⟩
  ·
   simp
 ·
  have f2' : es[j]? = some e0 := by simpa using f2
  have hkey : ((es[j]?.map (·.key)).getD x) = x := by rw [f2']; simp [f3]
  refine ⟨setBlock w b (.map (es.modify j fun e => { e with key := x, val := v }) clock), _, .old j e0.val (by rw [List.getElem?_map, f2]; simp [f3]), ?_, ⟨_, _, heap_setBlock_same hb _, stamped_modify hst j _ (fun _ _ => rfl) (fun y _ hj => by rw [f2'] at hj; cases hj; exact f3.symm), ?_, ?_⟩, kp _, by simp [setBlock]⟩
  ·
   simp only [Instr.mapUpdate, Sem.run_bind, run_underlying ht, MapKept.run_getObj_map hb, K.check w _ hx, f1, Result.andThen_ok, hkey, K.stays w hx, MapKept.run_setObj_map _ hb]
   rfl
  ·
   intro y hy
   obtain ⟨i, hi, rfl⟩ := List.mem_iff_getElem.1 hy
   by_cases hij : j = i
   ·
    subst hij
    refine ⟨lx, ?_⟩
    simp only [Array.length_toList, Array.size_modify] at hi
    simp [hx]
   ·
    simp only [Array.length_toList, Array.size_modify] at hi
    have := hk es[i] (by simp)
    simpa [Array.getElem_modify, hij] using this
  ·
   apply List.ext_getElem?
   intro i
   rw [List.getElem?_map, Array.getElem?_toList, Array.getElem?_modify, List.getElem?_set]
   by_cases hij : j = i
   ·
    subst hij
    have hjs : j < es.size := (Array.getElem?_eq_some_iff.1 f2').1
    simp [hjs]
   ·
    simp [hij]
end

section
variable {P : Program} (w : World) {ops : Array Oper} {rest : List Oper} {o : Oper} {a : Act} {Q : Exit → Act → World → Prop}
theorem wpList_makeMap (hg : o.guard = none) (t k : TypeId) (hop : o.op = .makeMap t none)
  (h : ∀ w', MB P k w' w.heap.size [] → Below w.heap.size w w' → w'.heap.size = w.heap.size + 1 → wpList P ops Q rest (a.put o.dst (.map (some w.heap.size))) w') : wpList P ops Q (o :: rest) a w :=
 wpList_plain hg fun K hK => by
  unfold Oper.wp execOp
  simp only [hop]
  simp [run_makeMap', Result.andThen]
  exact hK _ _ (h _ (MB.new P k w) ((Below.refl _ _).alloc (Nat.le_refl _) _) (by simp))
theorem wpList_look (hg : o.guard = none) (m x : Operand) (t k e : TypeId) (hop : o.op = .lookup t m x false) (K : Keyed P k) (ht : P.underlying t = some (.map k e)) (z : Value) (hz : (P.info? e).map (·.zero) = some (some z))
  (b : Nat) (L : List (Value × Value)) (hm : a.eval m = .map (some b)) (hb : MB P k w b L) (xv : Value) (hx : a.eval x = xv) (hk : ∃ lx, keyOf P k xv = some lx)
  (h : ∀ v f, Found L xv z v f → wpList P ops Q rest (a.put o.dst v) w) : wpList P ops Q (o :: rest) a w :=
 wpList_plain hg fun K' hK' => by
  obtain ⟨lx, hlx⟩ := hk
  obtain ⟨v, f, hf, hr⟩ := hb.look K ht hz hlx false
  unfold Oper.wp execOp
  simp only [hop, hm, hx]
  simp [hr, Result.andThen]
  exact hK' _ _ (h v f hf)
theorem wpList_lookok (hg : o.guard = none) (m x : Operand) (t k e : TypeId) (hop : o.op = .lookup t m x true) (K : Keyed P k) (ht : P.underlying t = some (.map k e)) (z : Value) (hz : (P.info? e).map (·.zero) = some (some z))
  (b : Nat) (L : List (Value × Value)) (hm : a.eval m = .map (some b)) (hb : MB P k w b L) (xv : Value) (hx : a.eval x = xv) (hk : ∃ lx, keyOf P k xv = some lx)
  (h : ∀ v f, Found L xv z v f → wpList P ops Q rest (a.put o.dst (.tuple #[v, .bool f])) w) : wpList P ops Q (o :: rest) a w :=
 wpList_plain hg fun K' hK' => by
  obtain ⟨lx, hlx⟩ := hk
  obtain ⟨v, f, hf, hr⟩ := hb.look K ht hz hlx true
  unfold Oper.wp execOp
  simp only [hop, hm, hx]
  simp [hr, Result.andThen]
  exact hK' _ _ (h v f hf)
theorem wpList_upd (hg : o.guard = none) (m x v : Operand) (t k e : TypeId) (hop : o.op = .mapUpdate t m x v) (K : Keyed P k) (ht : P.underlying t = some (.map k e))
  (b : Nat) (L : List (Value × Value)) (hm : a.eval m = .map (some b)) (hb : MB P k w b L) (xv vv : Value) (hx : a.eval x = xv) (hv : a.eval v = vv) (hk : ∃ lx, keyOf P k xv = some lx)
  (h : ∀ w' L', Stored L xv vv L' → MB P k w' b L' → Kp (· = b) w w' → w'.heap.size = w.heap.size → wpList P ops Q rest (a.put o.dst undef) w') : wpList P ops Q (o :: rest) a w :=
 wpList_plain hg fun K' hK' => by
  obtain ⟨lx, hlx⟩ := hk
  obtain ⟨w', L', hs, hr, h1, h2, h3⟩ := hb.store K ht hlx vv
  unfold Oper.wp execOp
  simp only [hop, hm, hx, hv]
  simp [hr, Result.andThen]
  exact hK' _ _ (h w' L' hs h1 h2 h3)
end
end Go.Proofs.YtfcakjpljjnjnaaGreatDoor
/- Maps of the call's own as functions from keys to values. For any program. -/
namespace Go.Proofs.YtfcakjpljjnjnaaGreatDoor
open Go Go.RowKit Go.ChangeMaps Go.MapKept Gf
open Go.Maps (Keyed)

/-- Block b is a map that has for the key enc x the value f x, where there is one, and no other keys. -/
def MF {κ : Type} (P : Program) (k : TypeId) (enc : κ → Value) (w : World) (b : Nat) (f : κ → Option Value) : Prop :=
 ∃ L, MB P k w b L ∧ (∀ x v, (enc x, v) ∈ L ↔ f x = some v) ∧ ∀ p ∈ L, ∃ x, p.1 = enc x

section
variable {κ : Type} {P : Program} {k : TypeId} {enc : κ → Value} {w w' : World} {b : Nat} {f : κ → Option Value}
theorem MF.lt (h : MF P k enc w b f) : b < w.heap.size := let ⟨_, h1, _⟩ := h; h1.lt
theorem MF.kept (h : MF P k enc w b f) (hb : Below w.heap.size w w') : MF P k enc w' b f := let ⟨L, h1, h2⟩ := h; ⟨L, h1.kept hb, h2⟩
theorem MF.kp {S : Nat → Prop} (h : MF P k enc w b f) (hb : Kp S w w') (hn : ¬ S b) : MF P k enc w' b f := let ⟨L, h1, h2⟩ := h; ⟨L, h1.kp hb hn, h2⟩
theorem MF.new (h : MB P k w b []) : MF P k enc w b (fun _ => none) := ⟨[], h, (fun x v => by simp), (fun p hp => by cases hp)⟩
theorem mf_found {L : List (Value × Value)} (h2 : ∀ x v, (enc x, v) ∈ L ↔ f x = some v) {x : κ} {z v : Value} {fl : Bool} (h : Found L (enc x) z v fl) : v = (f x).getD z ∧ fl = (f x).isSome := by
 cases h with
 | yes i v h =>
  have := (h2 x v).1 (List.mem_of_getElem? h)
  rw [this]; exact ⟨rfl, rfl⟩
 | no h =>
  have : f x = none := by
   cases hf : f x with
   | none => rfl
   | some u => exact absurd rfl (h _ ((h2 x u).2 hf))
  rw [this]; exact ⟨rfl, rfl⟩
theorem mf_stored [DecidableEq κ] (hinj : ∀ x y, enc x = enc y → x = y) {L L' : List (Value × Value)} (hn : (L.map (·.1)).Nodup) (h2 : ∀ x v, (enc x, v) ∈ L ↔ f x = some v) (h3 : ∀ p ∈ L, ∃ x, p.1 = enc x) {x : κ} {v : Value} (h : Stored L (enc x) v L') :
  (∀ y u, (enc y, u) ∈ L' ↔ (if y = x then some v else f y) = some u) ∧ ∀ p ∈ L', ∃ y, p.1 = enc y := by
 cases h with
 | new h =>
  refine ⟨fun y u => ?_, fun p hp => ?_⟩
  ·
   rw [List.mem_append, List.mem_singleton]
   by_cases hy : y = x
   ·
    subst hy
    rw [if_pos rfl]
    constructor
    ·
     rintro (h9 | h9)
     ·
      exact absurd rfl (h _ h9)
     ·
      injection h9 with _ h9; rw [h9]
    ·
     intro h9; injection h9 with h9; rw [h9]; exact .inr rfl
   ·
    rw [if_neg hy, ← h2]
    constructor
    ·
     rintro (h9 | h9)
     ·
      exact h9
     ·
      injection h9 with h9 _; exact absurd (hinj _ _ h9) hy
    ·
     exact .inl
  ·
   rcases List.mem_append.1 hp with hp | hp
   ·
    exact h3 p hp
   ·
    rw [List.mem_singleton.1 hp]; exact ⟨x, rfl⟩
 | old i u0 h =>
  obtain ⟨hi, hu⟩ := List.getElem?_eq_some_iff.1 h
  have hmem : ∀ q, q ∈ L.set i (enc x, v) ↔ q = (enc x, v) ∨ (q ∈ L ∧ q.1 ≠ enc x) := by
   intro q
   constructor
   ·
    intro hq
    obtain ⟨j, hj, e⟩ := List.getElem_of_mem hq
    rw [List.length_set] at hj
    by_cases hij : i = j
    ·
     subst hij; rw [List.getElem_set_self] at e; exact .inl e.symm
    ·
     rw [List.getElem_set_ne hij] at e
     refine .inr ⟨by rw [← e]; exact List.getElem_mem hj, fun hk => hij ?_⟩
     have hp := List.pairwise_iff_getElem.1 (show (L.map (·.1)).Pairwise (· ≠ ·) from hn)
     rcases Nat.lt_trichotomy i j with hlt | he | hlt
     ·
      exact absurd (by rw [List.getElem_map, List.getElem_map, hu, e]; exact hk.symm) (hp i j (by simpa using hi) (by simpa using hj) hlt)
     ·
      exact he
     ·
      exact absurd (by rw [List.getElem_map, List.getElem_map, hu, e]; exact hk) (hp j i (by simpa using hj) (by simpa using hi) hlt)
   ·
    rintro (rfl | ⟨hq, hne⟩)
    ·
     exact List.mem_iff_getElem.2 ⟨i, by rw [List.length_set]; exact hi, List.getElem_set_self _⟩
    ·
     obtain ⟨j, hj, e⟩ := List.getElem_of_mem hq
     have hij : i ≠ j := fun e9 => by subst e9; rw [hu] at e; rw [← e] at hne; exact hne rfl
     exact List.mem_iff_getElem.2 ⟨j, by rw [List.length_set]; exact hj, by rw [List.getElem_set_ne hij]; exact e⟩
  refine ⟨fun y u => ?_, fun p hp => ?_⟩
  ·
   rw [hmem]
   by_cases hy : y = x
   ·
    subst hy
    rw [if_pos rfl]
    constructor
    ·
     rintro (h9 | ⟨_, h9⟩)
     ·
      injection h9 with _ h9; rw [h9]
     ·
      exact absurd rfl h9
    ·
     intro h9; injection h9 with h9; rw [h9]; exact .inl rfl
   ·
    rw [if_neg hy, ← h2]
    constructor
    ·
     rintro (h9 | h9)
     ·
      injection h9 with h9 _; exact absurd (hinj _ _ h9) hy
     ·
      exact h9.1
    ·
     intro h9; exact .inr ⟨h9, fun e => hy (hinj _ _ e)⟩
  ·
   rcases (hmem p).1 hp with rfl | hp
   ·
    exact ⟨x, rfl⟩
   ·
    exact h3 p hp.1
end

section
variable {κ : Type} {P : Program} (w : World) {ops : Array Oper} {rest : List Oper} {o : Oper} {a : Act} {Q : Exit → Act → World → Prop} {enc : κ → Value}
end
end Go.Proofs.YtfcakjpljjnjnaaGreatDoor
