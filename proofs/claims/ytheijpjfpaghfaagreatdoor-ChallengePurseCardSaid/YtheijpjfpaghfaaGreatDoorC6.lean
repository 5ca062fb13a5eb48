/- Several texts in one: Cel2, Sha3, Slc, Wr, Mk. -/
import Derived.Test.YtheijpjfpaghfaaGreatDoorC5
import Derived.Test.YtheijpjfpaghfaaGreatDoorC2
import Derived.Test.YtheijpjfpaghfaaGreatDoorC3
import Derived.Test.YtheijpjfpaghfaaGreatDoorChecked
import Derived.WalkKit
/- copy from a string; struct values built of parts of many cells. -/
namespace Go.Proofs.YtheijpjfpaghfaaGreatDoor
open Go Go.RowKit Gf

section
variable {P : Program} (w : World)
/-- copy(dst, s), s a string. -/
theorem run_copyS {ty te rt : TypeId} {t2 : TypeId} (hu : P.underlying ty = some (.slice te)) (hsz : (match P.info? te with | some i => i.size == 1 | none => false) = true)
  {g o m mc : Nat} {tb : TypeId} {l : List Value} (hb : BL w g tb l) {x : List UInt8} (ho : o + m ≤ l.length) :
  ∃ w', (Builtin.copy_ #[ty, t2] rt #[.slice (some ⟨g, o, none⟩) m mc, .string (strB x)]).run P w = .ok (.int .i64 ((min x.length m : Nat) : Int)) w' ∧ BL w' g tb (splice l o ((x.take (min x.length m)).map B)) ∧ Kp (· = g) w w' ∧ w'.heap.size = w.heap.size := by
 have h2 : (sizeOf te).run P w = .ok 1 w := by
  cases hi : P.info? te with
  | none => simp [hi] at hsz
  | some i => simp [hi] at hsz; simp [sizeOf, typeInfo, hi, hsz]
 have hxl : ((x.take (min x.length m)).map B).length = min x.length m := by simp
 have h1 : ∀ v ∈ (x.take (min x.length m)).map B, v.oneCell' = true := by
  intro v hv
  obtain ⟨b, _, rfl⟩ := List.mem_map.1 hv
  rfl
 obtain ⟨w', hr, hb', hk, hz⟩ := run_storeCells (P := P) ((x.take (min x.length m)).map B) h1 o (min x.length m) 0 l w (by omega) hb (by omega)
 refine ⟨w', ?_, hb', hk, hz⟩
 have hf : (Builtin.firstCells 1 (min x.length m) (.string (strB x))).run P w = .ok ((x.take (min x.length m)).map B).toArray w := by
  have e : ((strB x).extract 0 (min x.length m)).data.map (fun b => Value.int .u8 (b.toNat : Int)) = ((x.take (min x.length m)).map B).toArray := by
   have e2 : ((strB x).extract 0 (min x.length m)).data = (x.take (min x.length m)).toArray := by
    rw [ByteArray.data_extract]
    simp [strB]
   rw [e2]
   simp
   rfl
  simp only [Builtin.firstCells, e]
  rfl
 rw [List.drop_zero] at hr
 have e1 : Nat.min x.length m = min x.length m := rfl
 have e3 : (strB x).size = x.length := rfl
 generalize (x.take (min x.length m)).map B = ys at hf hr
 simp [Builtin.copy_, run_underlying hu, Builtin.lenOf, e1, e3, h2, hf, hr, goInt, Result.andThen]

theorem wpList_copyS {ops : Array Oper} {rest : List Oper} {o : Oper} {a : Act} {Q : Exit → Act → World → Prop} (hg : o.guard = none) (s x : Operand) (ty t2 te : TypeId) (hop : o.op = .call { callee := .builtin .copy, args := #[s, x], argTypes := #[ty, t2] })
  (hu : P.underlying ty = some (.slice te)) (hsz : (match P.info? te with | some i => i.size == 1 | none => false) = true)
  (g p m mc : Nat) (tb : TypeId) (l : List Value) (hs : a.eval s = .slice (some ⟨g, p, none⟩) m mc) (hb : BL w g tb l) (xs : List UInt8) (hx : a.eval x = .string (strB xs)) (ho : p + m ≤ l.length)
  (h : ∀ w', BL w' g tb (splice l p ((xs.take (min xs.length m)).map B)) → Kp (· = g) w w' → w'.heap.size = w.heap.size → wpList P ops Q rest (a.put o.dst (.int .i64 ((min xs.length m : Nat) : Int))) w') : wpList P ops Q (o :: rest) a w :=
 wpList_plain hg fun K hK => by
  obtain ⟨w', hr, h2, h3, h4⟩ := run_copyS w (rt := o.type) (t2 := t2) hu hsz hb (mc := mc) (x := xs) ho
  unfold Oper.wp execOp
  simp only [hop, resolve, invoke, builtin, Sem.run_bind, Sem.run_pure, Result.andThen_ok, List.map_toArray, List.map_cons, List.map_nil, hs, hx, hr]
  exact hK _ _ (h w' h2 h3 h4)
end

theorem fold_set (off : Nat) : ∀ (vs : List Value) (i : Nat) (cs : Array Value), off + i + vs.length ≤ cs.size →
  (vs.zipIdx i).foldl (fun (cs : Array Value) (x : Value × Nat) => cs.setIfInBounds (off + x.2) x.1) cs = (splice cs.toList (off + i) vs).toArray
 | [], i, cs, _ => by simp [splice]
 | v :: vs, i, cs, h => by
  rw [List.length_cons] at h
  rw [List.zipIdx_cons, List.foldl_cons, fold_set off vs (i + 1) _ (by rw [Array.size_setIfInBounds]; omega)]
  congr 1
  have hl : off + i < cs.toList.length := by rw [Array.length_toList]; omega
  rw [Array.toList_setIfInBounds]
  unfold splice
  have e1 : (cs.toList.set (off + i) v).take (off + (i + 1)) = cs.toList.take (off + i) ++ [v] := by
   rw [show off + (i + 1) = off + i + 1 by omega, List.take_succ_eq_append_getElem (by rw [List.length_set]; omega), List.take_set_of_le (Nat.le_refl _), List.getElem_set_self]
  have e2 : (cs.toList.set (off + i) v).drop (off + (i + 1) + vs.length) = cs.toList.drop (off + i + (vs.length + 1)) := by
   rw [List.drop_set_of_lt (by omega)]; congr 1; omega
  rw [e1, e2, List.length_cons]
  simp
theorem fill_one (place : Nat → Option (Nat × Nat)) (cs : Array Value) (i : Nat) (vs : List Value) (rest : List (Nat × Value)) (off : Nat) (hp : place i = some (off, vs.length)) (h : off + vs.length ≤ cs.size) :
  Instr.fill place cs ((i, .agg vs.toArray) :: rest) = Instr.fill place (splice cs.toList off vs).toArray rest := by
 have e := fold_set off vs 0 cs (by omega)
 rw [Nat.add_zero] at e
 rw [Instr.fill, hp]
 simp only [Value.cells, List.size_toArray]
 rw [if_neg (by simp; omega)]
 congr 1
 rw [← e]
 simp

section
variable {P : Program} {w : World} {o : Oper} {a : Act} {Q : Exit → Act → World → Prop} {K : Act → World → Prop}
theorem wp_loadv (t : TypeId) (x : Operand) (hop : o.op = .load t x) (n : Nat) (ht : Agg P t n = true) (g p : Nat) (ms : List Value) (hx : a.eval x = .pointer (some ⟨g, p, none⟩))
  (hm : At w g p ms) (hn : ms.length = n) (h : K (a.put o.dst (.agg ms.toArray)) w) : o.wp P a w K Q := by
 unfold Oper.wp execOp
 simp only [hop, hx]
 simp [run_loadAt w ht hm hn, Result.andThen]
 exact h
theorem wp_box (t : TypeId) (x : Operand) (hop : o.op = .box t x) (l : List Value) (hx : a.eval x = .agg l.toArray)
  (h : ∀ w', BL w' w.heap.size t l → Below w.heap.size w w' → w'.heap.size = w.heap.size + 1 → K (a.put o.dst (.pointer (some ⟨w.heap.size, 0, none⟩))) w') : o.wp P a w K Q := by
 unfold Oper.wp execOp
 simp only [hop, hx]
 simp [Instr.box, newVar, newRow, Value.cells, Result.andThen]
 exact h _ (BL.new w t l) ((Below.refl _ _).alloc (Nat.le_refl _) _) (by simp)
theorem exec_build {t : TypeId} {parts : Array (Nat × Operand)} (hop : o.op = .build t parts) {ps : Array (Nat × Value)} (hps : (parts.map fun (i, x) => (i, a.eval x)) = ps) {v : Value} (hr : (Instr.build t ps).run P w = .ok v w) : (execOp a.eval o).run P w = .ok (.value v) w := by
 unfold execOp
 simp only [hop, hps]
 simp [hr, Result.andThen]
end
theorem splice_right (l1 l2 vs : List Value) (o : Nat) (ho : o = l1.length) (h : vs.length = l2.length) : splice (l1 ++ l2) o vs = l1 ++ vs := by
 subst ho; simp [splice, h]

section
variable {P : Program} {w : World}
theorem run_zero {t : TypeId} {z : Value} (h : (P.info? t).map (·.zero) = some (some z)) : (zeroValue t).run P w = .ok z w := by
 cases hi : P.info? t with
 | none => simp [hi] at h
 | some i =>
  have hz : i.zero = some z := by simpa [hi] using h
  simp [zeroValue, typeInfo, hi, hz]
/-- A struct of two parts of many cells, both given. -/
theorem build_two {t : TypeId} {f0 f1 : Field} {n1 n2 : Nat} (hu : P.underlying t = some (.struct #[f0, f1])) (h0 : f0.offset = 0) (h1 : f1.offset = n1) (hs0 : (sizeOf f0.type).run P w = .ok n1 w) (hs1 : (sizeOf f1.type).run P w = .ok n2 w)
  (z : Value) (hz : (zeroValue t).run P w = .ok z w) (hzs : z.cells.size = n1 + n2) (a b : List Value) (ha : a.length = n1) (hb : b.length = n2) :
  (Instr.build t #[(0, .agg a.toArray), (1, .agg b.toArray)]).run P w = .ok (.agg (a ++ b).toArray) w := by
 have hf : Instr.fill (fun x => [(0, n1), (n1, n2)][x]?) z.cells [(0, .agg a.toArray), (1, .agg b.toArray)] = some (a ++ b).toArray := by
  have hl : z.cells.toList.length = n1 + n2 := by rw [Array.length_toList]; exact hzs
  have e1 : (splice z.cells.toList 0 a).length = n1 + n2 := by
   unfold splice
   rw [List.length_append, List.length_append, List.length_take, List.length_drop, hl, ha]; omega
  rw [fill_one _ _ 0 _ _ 0 (by rw [ha]; rfl) (by rw [ha, hzs]; omega), fill_one _ _ 1 _ _ n1 (by rw [hb]; rfl) (by rw [hb, List.size_toArray, e1]; omega), Instr.fill]
  congr 2
  rw [List.toList_toArray]
  have e2 : splice z.cells.toList 0 a = a ++ z.cells.toList.drop n1 := by
   unfold splice; rw [List.take_zero, List.nil_append, Nat.zero_add, ha]
  rw [e2, splice_right _ _ _ _ ha.symm (by rw [hb, List.length_drop, hl]; omega)]
 unfold Instr.build
 simp [hz, run_underlying hu, hs0, hs1, h0, h1, Result.andThen, hf]
theorem build_one {t : TypeId} {f0 : Field} {n1 : Nat} (hu : P.underlying t = some (.struct #[f0])) (h0 : f0.offset = 0) (hs0 : (sizeOf f0.type).run P w = .ok n1 w)
  (z : Value) (hz : (zeroValue t).run P w = .ok z w) (hzs : z.cells.size = n1) (a : List Value) (ha : a.length = n1) :
  (Instr.build t #[(0, .agg a.toArray)]).run P w = .ok (.agg a.toArray) w := by
 have hf : Instr.fill (fun x => [(0, n1)][x]?) z.cells [(0, .agg a.toArray)] = some a.toArray := by
  have hl : z.cells.toList.length = n1 := by rw [Array.length_toList]; exact hzs
  rw [fill_one _ _ 0 _ _ 0 (by rw [ha]; rfl) (by rw [ha, hzs]; omega), Instr.fill]
  congr 2
  unfold splice
  rw [List.take_zero, List.nil_append, Nat.zero_add, ha, List.drop_eq_nil_of_le (by omega), List.append_nil]
 unfold Instr.build
 simp [hz, run_underlying hu, hs0, h0, Result.andThen, hf]
end
end Go.Proofs.YtheijpjfpaghfaaGreatDoor
/- A sum in progress: what the words, the buffer and the length say of the bytes so far. No program in sight. -/
namespace Go.Proofs.YtheijpjfpaghfaaGreatDoor
open Go Go.RowKit Gf

namespace Sha
theorem hk_append (l x : List UInt8) (k : Nat) (h : 64 * k ≤ l.length) : hk k (l ++ x) = hk k l := by
 induction k with
 | zero => rfl
 | succ k ih =>
  rw [hk, hk, ih (by omega), List.drop_append_of_le_length (by omega), List.take_append_of_le_length (by simp; omega)]
theorem hs_append (l x : List UInt8) (h : (l ++ x).length / 64 = l.length / 64) : hs (l ++ x) = hs l := by
 rw [hs, hs, h, hk_append l x _ (by omega)]
/-- A block more. -/
theorem hs_block (l x : List UInt8) (h : l.length % 64 = 0) (hx : x.length = 64) : hs (l ++ x) = comp (hs l) x := by
 have e : (l ++ x).length / 64 = l.length / 64 + 1 := by simp; omega
 have e2 : 64 * (l.length / 64) = l.length := by omega
 rw [hs, hs, e, hk, hk_append l x _ (by omega), e2, List.drop_append_of_le_length (Nat.le_refl _), List.drop_length, List.nil_append, List.take_of_length_le (by omega)]
/-- The last block is filled up. -/
theorem hs_fill (l x : List UInt8) (hx : l.length % 64 + x.length = 64) : hs (l ++ x) = comp (hs l) (l.drop (64 * (l.length / 64)) ++ x) := by
 have e : (l ++ x).length / 64 = l.length / 64 + 1 := by simp; omega
 rw [hs, hs, e, hk, hk_append l x _ (by omega), List.drop_append_of_le_length (by omega), List.take_of_length_le (by simp; omega)]

/-- The cells of a sum in progress. -/
def stv (s : St) (buf : List UInt8) (n : Nat) (rest : List Value) : List Value := s.cells ++ (buf.map B ++ (.int .i64 (n : Int) :: rest))
/-- The tail of l that is no whole block. -/
def tl64 (l : List UInt8) : List UInt8 := l.drop (64 * (l.length / 64))
theorem tl64_length (l : List UInt8) : (tl64 l).length = l.length % 64 := by simp [tl64]; omega
/-- Block g holds a sum in progress of l, and rest behind it. -/
def Hs (w : World) (g : Nat) (t : TypeId) (rest : List Value) (l : List UInt8) : Prop :=
 ∃ buf : List UInt8, buf.length = 64 ∧ BL w g t (stv (hs l) buf l.length rest) ∧ buf.take (l.length % 64) = tl64 l

theorem stv_len (s : St) (buf : List UInt8) (n : Nat) (rest : List Value) (h : buf.length = 64) : (stv s buf n rest)[72]? = some (.int .i64 (n : Int)) := by
 unfold stv
 rw [List.getElem?_append_right (by rw [cells_length]; omega), cells_length, List.getElem?_append_right (by simp [h])]
 simp [h]
theorem stv_length (s : St) (buf : List UInt8) (n : Nat) (rest : List Value) (h : buf.length = 64) : (stv s buf n rest).length = 73 + rest.length := by
 simp [stv, cells_length, h]; omega
theorem stv_setlen (s : St) (buf : List UInt8) (n m : Nat) (rest : List Value) (h : buf.length = 64) : (stv s buf n rest).set 72 (.int .i64 (m : Int)) = stv s buf m rest := by
 unfold stv
 rw [List.set_append, if_neg (by rw [cells_length]; omega), cells_length, List.set_append, if_neg (by simp [h])]
 simp [h]
/-- Bytes laid into the buffer. -/
def bufw (buf : List UInt8) (u : Nat) (x : List UInt8) : List UInt8 := buf.take u ++ x ++ buf.drop (u + x.length)
theorem bufw_length (buf : List UInt8) (u : Nat) (x : List UInt8) (h : buf.length = 64) (hx : u + x.length ≤ 64) : (bufw buf u x).length = 64 := by
 simp [bufw, h]; omega
theorem stv_splice (s : St) (buf : List UInt8) (n u : Nat) (x : List UInt8) (rest : List Value) (h : buf.length = 64) (hx : u + x.length ≤ 64) :
  splice (stv s buf n rest) (8 + u) (x.map B) = stv s (bufw buf u x) n rest := by
 unfold splice stv bufw
 have e1 : (s.cells ++ (buf.map B ++ (.int .i64 (n : Int) :: rest))).take (8 + u) = s.cells ++ (buf.take u).map B := by
  rw [List.take_append, cells_length, List.take_of_length_le (by rw [cells_length]; omega), show 8 + u - 8 = u by omega, List.take_append_of_le_length (by simp [h]; omega), List.map_take]
 have e2 : (s.cells ++ (buf.map B ++ (.int .i64 (n : Int) :: rest))).drop (8 + u + (x.map B).length) = (buf.drop (u + x.length)).map B ++ (.int .i64 (n : Int) :: rest) := by
  rw [List.length_map, List.drop_append, cells_length, List.drop_eq_nil_of_le (by rw [cells_length]; omega), List.nil_append, show 8 + u + x.length - 8 = u + x.length by omega, List.drop_append_of_le_length (by simp [h]; omega), List.map_drop]
 rw [e1, e2]
 simp
theorem bufw_take (buf : List UInt8) (u : Nat) (x : List UInt8) (h : buf.length = 64) (hx : u + x.length ≤ 64) : (bufw buf u x).take (u + x.length) = buf.take u ++ x := by
 unfold bufw
 rw [List.take_append_of_le_length (by simp [h]; omega), List.take_of_length_le (by simp [h]; omega)]
theorem bufw_full (buf : List UInt8) (u : Nat) (x : List UInt8) (h : buf.length = 64) (hx : u + x.length = 64) : bufw buf u x = buf.take u ++ x := by
 rw [← bufw_take buf u x h (by omega), List.take_of_length_le (by rw [bufw_length buf u x h (by omega)]; omega)]
theorem BL.buf {w : World} {g : Nat} {t : TypeId} {s : St} {buf : List UInt8} {n : Nat} {rest : List Value} (hb : BL w g t (stv s buf n rest)) (h : buf.length = 64) : BS w (some ⟨g, 8, none⟩) 64 64 buf :=
 ⟨h, Nat.le_refl _, by decide, fun k hk => ⟨g, 8, rfl, hb.get (by
  unfold stv
  rw [List.getElem?_append_right (by rw [cells_length]; omega), cells_length, show 8 + k - 8 = k by omega, List.getElem?_append_left (by simp [h, hk])]
  rw [List.getElem?_map, List.getElem?_eq_getElem (by rw [h]; exact hk)]
  show some (B _) = some (B (gB buf k))
  rw [gB_eq (by rw [h]; exact hk)])⟩⟩

section
variable {w w' : World} {g : Nat} {t : TypeId} {rest : List Value} {l : List UInt8}
theorem Hs.kept (h : Hs w g t rest l) (hb : Below w.heap.size w w') : Hs w' g t rest l := let ⟨b, h1, h2, h3⟩ := h; ⟨b, h1, h2.kept hb, h3⟩
theorem Hs.kp {S : Nat → Prop} (h : Hs w g t rest l) (hb : Kp S w w') (hn : ¬ S g) : Hs w' g t rest l := let ⟨b, h1, h2, h3⟩ := h; ⟨b, h1, h2.kp hb hn, h3⟩
theorem Hs.drew (h : Hs w g t rest l) : Hs w.drew g t rest l := h
theorem Hs.lt (h : Hs w g t rest l) : g < w.heap.size := let ⟨_, _, h2, _⟩ := h; h2.lt
end
theorem tl64_append (l x : List UInt8) (h : (l ++ x).length / 64 = l.length / 64) : tl64 (l ++ x) = tl64 l ++ x := by
 unfold tl64
 rw [h, List.drop_append_of_le_length (by omega)]
theorem tl64_zero (l : List UInt8) (h : l.length % 64 = 0) : tl64 l = [] := List.eq_nil_of_length_eq_zero (by rw [tl64_length, h])
end Sha
end Go.Proofs.YtheijpjfpaghfaaGreatDoor
/- x[k:], x[:k] of byte slices and of arrays of bytes, as laws at the operation. Proved for any program. -/
namespace Go.Proofs.YtheijpjfpaghfaaGreatDoor
open Go Go.RowKit Gf

/-- The address of x[k:]. -/
def cutA (A : Option Addr) (c k : Nat) : Option Addr := if c = k then A else A.map (·.add k)
/-- The bytes lie in no block of S. -/
def FarB (A : Option Addr) (n : Nat) (S : Nat → Prop) : Prop := ∀ g o, 0 < n → A = some ⟨g, o, none⟩ → ¬ S g
theorem BS.kpf {w w' : World} {A : Option Addr} {n c : Nat} {l : List UInt8} {S : Nat → Prop} (h : BS w A n c l) (hk : Kp S w w') (hf : FarB A n S) : BS w' A n c l :=
 ⟨h.1, h.2.1, h.2.2.1, fun k hk2 => by
  obtain ⟨g, o, e, hc⟩ := h.2.2.2 k hk2
  exact ⟨g, o, e, hk.cell hc (hf g o (by omega) e)⟩⟩
theorem FarB.cut {w : World} {A : Option Addr} {n c : Nat} {l : List UInt8} {S : Nat → Prop} (h : BS w A n c l) (hf : FarB A n S) {k : Nat} (hk : k ≤ n) : FarB (cutA A c k) (n - k) S := by
 intro g o hn e
 have h2 := h.2.1
 obtain ⟨g0, o0, rfl, _⟩ := h.2.2.2 0 (by omega)
 unfold cutA at e
 rw [if_neg (by omega), Option.map_some, addr_add] at e
 cases e
 exact hf _ _ (by omega) rfl
theorem FarB.pre {A : Option Addr} {n : Nat} {S : Nat → Prop} (hf : FarB A n S) {k : Nat} (hk : k ≤ n) : FarB A k S := fun g o hn e => hf g o (by omega) e
/-- What is old lies in no new block. -/
theorem BS.far_new {w : World} {A : Option Addr} {n c : Nat} {l : List UInt8} (h : BS w A n c l) {S : Nat → Prop} (hS : ∀ k, S k → w.heap.size ≤ k) : FarB A n S := fun g o hn e hs => by
 obtain ⟨g0, o0, e0, hc⟩ := h.2.2.2 0 hn
 rw [e] at e0
 cases e0
 have h1 := cell_lt hc
 have h2 := hS g hs
 simp at h1
 omega
theorem BS.cut {w : World} {A : Option Addr} {n c : Nat} {l : List UInt8} (h : BS w A n c l) {k : Nat} (hk : k ≤ n) : BS w (cutA A c k) (n - k) (c - k) (l.drop k) := by
 obtain ⟨h1, h2, h3, h4⟩ := h
 refine ⟨by simp [h1], by omega, by omega, fun j hj => ?_⟩
 obtain ⟨g, o, rfl, hc⟩ := h4 (k + j) (by omega)
 refine ⟨g, o + k, ?_, ?_⟩
 ·
  unfold cutA
  rw [if_neg (by omega), Option.map_some, addr_add]
 ·
  rw [Nat.add_assoc, hc]
  show some (B (gB l (k + j))) = some (B (gB (l.drop k) j))
  rw [gB, gB, List.getD_eq_getElem?_getD, List.getD_eq_getElem?_getD, List.getElem?_drop]
theorem BS.pre {w : World} {A : Option Addr} {n c : Nat} {l : List UInt8} (h : BS w A n c l) {k : Nat} (hk : k ≤ n) : BS w A k c (l.take k) := by
 obtain ⟨h1, h2, h3, h4⟩ := h
 refine ⟨by simp [h1]; omega, by omega, by omega, fun j hj => ?_⟩
 obtain ⟨g, o, rfl, hc⟩ := h4 j (by omega)
 refine ⟨g, o, rfl, ?_⟩
 rw [hc]
 show some (B (gB l j)) = some (B (gB (l.take k) j))
 rw [gB, gB, List.getD_eq_getElem?_getD, List.getD_eq_getElem?_getD, List.getElem?_take_of_lt hj]

section
variable {P : Program} (w : World) {ops : Array Oper} {rest : List Oper} {o : Oper} {a : Act} {Q : Exit → Act → World → Prop}

theorem one_size {te : TypeId} (hsz : (match P.info? te with | some i => i.size == 1 | none => false) = true) : (sizeOf te).run P w = .ok 1 w := by
 cases hi : P.info? te with
 | none => simp [hi] at hsz
 | some i => simp [hi] at hsz; simp [sizeOf, typeInfo, hi, hsz]

/-- x[k:] of a slice of one-cell elements. -/
theorem wpList_cut (hg : o.guard = none) (s lo : Operand) (ty te : TypeId) (hop : o.op = .slice ty s (some lo) none none) (hu : P.underlying ty = some (.slice te)) (hsz : (match P.info? te with | some i => i.size == 1 | none => false) = true)
  (A : Option Addr) (n c k : Nat) (z : Int) (hs : a.eval s = .slice A n c) (hlo : a.eval lo = .int .i64 z) (hz : z = (k : Int)) (hk : k ≤ n)
  (h : wpList P ops Q rest (a.put o.dst (.slice (cutA A c k) (n - k) (c - k))) w) : wpList P ops Q (o :: rest) a w :=
 wpList_plain hg fun K hK => by
  subst hz
  have h2 := one_size (P := P) w hsz
  unfold Oper.wp execOp
  simp only [hop, Option.map_some, Option.map_none, hs, hlo]
  simp [Instr.sliceAt, Instr.slice, run_underlying hu, Instr.sliceBounds, Instr.sliceBound, asIntOf, hk, h2, Result.andThen]
  exact hK _ _ h

/-- p[k:] of a pointer to an array of one-cell elements. -/
theorem wpList_cutarr (hg : o.guard = none) (s lo : Operand) (ty te : TypeId) (m : Nat) (hop : o.op = .slice ty s (some lo) none none) (hu : P.underlying ty = some (.array m te)) (hsz : (match P.info? te with | some i => i.size == 1 | none => false) = true)
  (g p k : Nat) (z : Int) (hs : a.eval s = .pointer (some ⟨g, p, none⟩)) (hlo : a.eval lo = .int .i64 z) (hz : z = (k : Int)) (hk : k < m)
  (h : wpList P ops Q rest (a.put o.dst (.slice (some ⟨g, p + k, none⟩) (m - k) (m - k))) w) : wpList P ops Q (o :: rest) a w :=
 wpList_plain hg fun K hK => by
  subst hz
  have h2 := one_size (P := P) w hsz
  unfold Oper.wp execOp
  simp only [hop, Option.map_some, Option.map_none, hs, hlo]
  simp [Instr.sliceAt, run_underlying hu, Instr.sureAddr, Instr.sliceBounds, Instr.sliceBound, asIntOf, Nat.le_of_lt hk, h2, Result.andThen, addr_add, show ¬ m = k by omega]
  exact hK _ _ h
end
end Go.Proofs.YtheijpjfpaghfaaGreatDoor
/- Contract of (*sha256.State).Write. -/
namespace Go.Proofs.YtheijpjfpaghfaaGreatDoor
open Go.RowKit Gf Sha

def lenV : Value → Nat
 | .slice _ n _ => n
 | _ => 0
theorem Tabs.size {w : World} (h : Tabs w) : 2 < w.heap.size := by
 have := cell_lt (h.con 0 _ rfl)
 simpa using this
/-- What was written into the sum in block g. -/
def WrPost (w : World) (g : Nat) (t : TypeId) (rest : List Value) (l : List UInt8) (e : Ending) (w' : World) : Prop := e = .returned (.tuple #[]) ∧ Hs w' g t rest l ∧ Kp (· = g) w w'
/-- In the midst: P is done, x1 is to come. -/
structure WrMid (w : World) (g : Nat) (t : TypeId) (rest : List Value) (T P : List UInt8) (A : Option Addr) (n c : Nat) (x : List UInt8) (w' : World) : Prop where
 all : P ++ x = T
 whole : P.length % 64 = 0
 src : BS w' A n c x
 far : FarB A n (· = g)
 st : ∃ buf : List UInt8, buf.length = 64 ∧ BL w' g t (stv (hs P) buf T.length rest)
 kp : Kp (· = g) w w'
theorem WrMid.next {r : List Value} {w : World} {g : Nat} {t : TypeId} {rest : List Value} {T P : List UInt8} {A : Option Addr} {n c : Nat} {x : List UInt8} {w1 w2 : World} (h : WrMid w g t rest T P A n c x w1) (hn : 64 ≤ n)
  (hb : BL w2 g t ((comp (hs P) (x.take 64)).cells ++ r)) (hr : ∃ buf : List UInt8, buf.length = 64 ∧ r = buf.map B ++ (.int .i64 (T.length : Int) :: rest)) (hk : Kp (· = g) w1 w2) : WrMid w g t rest T (P ++ x.take 64) (cutA A c 64) (n - 64) (c - 64) (x.drop 64) w2 := by
 have hl : (x.take 64).length = 64 := by simp [h.src.1]; omega
 obtain ⟨buf, h1, rfl⟩ := hr
 refine ⟨by rw [List.append_assoc, List.take_append_drop]; exact h.all, by rw [List.length_append, hl]; have := h.whole; omega, (h.src.kpf hk h.far).cut hn, FarB.cut h.src h.far hn, ⟨buf, h1, ?_⟩, h.kp.trans hk⟩
 rw [hs_block _ _ h.whole hl]
 exact hb
theorem WrMid.last {w : World} {g : Nat} {t : TypeId} {rest : List Value} {T P : List UInt8} {A : Option Addr} {n c : Nat} {x : List UInt8} {w1 w2 : World} (h : WrMid w g t rest T P A n c x w1) (hn : n < 64) {buf : List UInt8} (hb1 : buf.length = 64)
  (hb : BL w2 g t (splice (stv (hs P) buf T.length rest) 8 ((x.take (min n 64)).map B))) (hk : Kp (· = g) w1 w2) : WrPost w g t rest T (.returned (.tuple #[])) w2 := by
 have hl := h.src.1
 have ht : T.length = P.length + n := by rw [← h.all, List.length_append, hl]
 have hw := h.whole
 rw [Nat.min_eq_left (by omega), List.take_of_length_le (by omega)] at hb
 have e := stv_splice (hs P) buf T.length 0 x rest hb1 (by omega)
 rw [Nat.add_zero] at e
 rw [e] at hb
 have h2 : T.length / 64 = P.length / 64 := by omega
 refine ⟨rfl, ⟨bufw buf 0 x, bufw_length _ _ _ hb1 (by omega), ?_, ?_⟩, h.kp.trans hk⟩
 ·
  rw [← h.all] at h2 ⊢
  rw [hs_append P x h2, h.all]; exact hb
 ·
  have h3 := bufw_take buf 0 x hb1 (by omega)
  rw [Nat.zero_add, List.take_zero, List.nil_append] at h3
  rw [show T.length % 64 = x.length by omega, h3]
  rw [← h.all] at h2 ⊢
  rw [tl64_append P x h2, tl64_zero P hw, List.nil_append]

set_option maxRecDepth 100000 in
set_option maxHeartbeats 8000000 in
theorem write_any (g n c : Nat) (A : Option Addr) (t : TypeId) (l x : List UInt8) (rest : List Value) (w : World) (hs0 : Hs w g t rest l) (h : BS w A n c x) (hT : Tabs w) (hg : 2 < g) (hA : FarB A n (· = g)) (hN : l.length + n ≤ 1152921504606846976) :
  Calls Tryz.prog 103 #[.pointer (some ⟨g, 0, none⟩), .slice A n c] w (WrPost w g t rest (l ++ x)) := by
 have HX := Lib.hid h
 have HT := Lib.hid hT
 have HA := Lib.hid hA
 have hn := h.len_le
 obtain ⟨buf, hb1, hb2, hb3⟩ := hs0
 have HB1 := Lib.hid hb1
 have HB2 := Lib.hid hb2
 have HB3 := Lib.hid hb3
 have q1 := hb2.get (stv_len _ _ _ _ hb1)
 have q2 := hb2.frozen 72
 obtain ⟨m, hm⟩ : ∃ m, m = l.length := ⟨_, rfl⟩
 have HW1 : Hid (BL (w.setCell ⟨g, 72, none⟩ (.int .i64 ((m : Int) + (n : Int)))) g t (stv (hs l) buf (l ++ x).length rest)) := Lib.hid (by
  have := hb2.set_ 72 (.int .i64 ((l.length + n : Nat) : Int))
  rw [stv_setlen _ _ _ _ _ hb1] at this
  rw [List.length_append, h.1, hm]
  exact this)
 have HK1 : Hid (Kp (· = g) w (w.setCell ⟨g, 72, none⟩ (.int .i64 ((m : Int) + (n : Int))))) := Lib.hid ((Kp.refl (· = g) _).set (.inl rfl) _)
 clear h hT hb1 hb2 hb3 hA
 rw [← hm] at q1 hN
 have HM := Lib.hid hm
 clear hm
 by_cases hu : 0 < m % 64
 ·
  have hu1 : 0 < (m : Int) % 64 := by omega
  obtain ⟨u, hu2⟩ : ∃ u, u = m % 64 := ⟨_, rfl⟩
  have HUZ : Hid ((m : Int) % 64 = (u : Int)) := Lib.hid (by omega)
  have HUL : Hid (u < 64) := Lib.hid (by omega)
  have HU := Lib.hid hu2
  have HL1 : Hid (8 + u + (64 - u) ≤ (stv (hs l) buf (l ++ x).length rest).length) := Lib.hid (by rw [stv_length _ _ _ _ HB1.out]; omega)
  have HXK := Lib.hid (HX.out.kpf HK1.out HA.out)
  by_cases hnu : n < 64 - u
  ·
   have HMIN : Hid (min n (64 - u) = n) := Lib.hid (by omega)
   have hA1 : (m : Int) % 64 + (n : Int) < 64 := by omega
   have HEND : Hid (∀ w2, BL w2 g t (splice (stv (hs l) buf (l ++ x).length rest) (8 + u) ((x.take n).map B)) → Kp (· = g) (w.setCell ⟨g, 72, none⟩ (.int .i64 ((m : Int) + (n : Int)))) w2 → WrPost w g t rest (l ++ x) (.returned (.tuple #[])) w2) := Lib.hid (fun w2 b1 b2 => by
    have hxl := HX.out.1
    have hml := HM.out
    rw [List.take_of_length_le (by omega), stv_splice _ _ _ _ _ _ HB1.out (by omega)] at b1
    have h2 : (l ++ x).length / 64 = l.length / 64 := by rw [List.length_append]; omega
    refine ⟨rfl, ⟨bufw buf u x, bufw_length _ _ _ HB1.out (by omega), by rw [hs_append l x h2]; exact b1, ?_⟩, HK1.out.trans b2⟩
    rw [tl64_append l x h2, show (l ++ x).length % 64 = u + x.length by rw [List.length_append]; omega, bufw_take _ _ _ HB1.out (by omega)]
    have h3 := HB3.out
    rw [← hml, ← hu2] at h3
    rw [h3])
   clear hu2
   go_enter Tryz.func103, Tryz.ntmps103
   go_wp2_with (first
    | ((with_reducible show OpW 26); refine wpList_cutarr _ rfl (.tmp 24) (.tmp 25) 168 5 64 rfl Tryz.underlying168 (by kernel_rfl) g 8 u _ rfl rfl HUZ.out HUL.out ?_)
    | ((with_reducible show OpW 28); refine wpList_copyB _ rfl (.tmp 26) (.tmp 27) 22 5 rfl Tryz.underlying22 (by kernel_rfl) g (8 + u) (64 - u) (64 - u) t _ rfl HW1.out A n c x rfl HXK.out HL1.out ?_; intro w2 b1 b2 b3; rw [HMIN.out] at b1; rw [HMIN.out])
    | ((with_reducible show OpW 31); refine wpList_cut _ rfl (.tmp 29) _ 22 5 rfl Tryz.underlying22 (by kernel_rfl) A n c n _ rfl rfl rfl (Nat.le_refl _) ?_))
   go_end0
   exact HEND.out w2 b1 b2
  ·
   obtain ⟨kk, hkk⟩ : ∃ kk, kk = 64 - u := ⟨_, rfl⟩
   have HMIN : Hid (min n (64 - u) = kk) := Lib.hid (by omega)
   have hB1 : 64 ≤ (m : Int) % 64 + (kk : Int) := by omega
   have hkn : kk ≤ n := by omega
   have HKK := Lib.hid hkk
   have HB : Hid (∀ w2, BL w2 g t (splice (stv (hs l) buf (l ++ x).length rest) (8 + u) ((x.take kk).map B)) → BL w2 g t (stv (hs l) (tl64 l ++ x.take kk) (l ++ x).length rest) ∧ (tl64 l ++ x.take kk).length = 64) := Lib.hid (fun w2 b1 => by
    have hxl := HX.out.1
    have hml := HM.out
    have hk2 : (x.take kk).length = kk := by simp; omega
    have h3 := HB3.out
    rw [← hml, ← hu2] at h3
    rw [stv_splice _ _ _ _ _ _ HB1.out (by omega), bufw_full _ _ _ HB1.out (by omega), h3] at b1
    refine ⟨b1, ?_⟩
    rw [List.length_append, tl64_length, ← hml, ← hu2, hk2]; omega)
   have HN3 : Hid (∀ w2 w3, Kp (· = g) (w.setCell ⟨g, 72, none⟩ (.int .i64 ((m : Int) + (n : Int)))) w2 → BL w3 g t ((comp (hs l) (tl64 l ++ x.take kk)).cells ++ ((tl64 l ++ x.take kk).map B ++ (.int .i64 ((l ++ x).length : Int) :: rest))) → Kp (· = g) w2 w3 → WrMid w g t rest (l ++ x) (l ++ x.take kk) (cutA A c kk) (n - kk) (c - kk) (x.drop kk) w3) := Lib.hid (fun w2 w3 k2 b3 k3 => by
    have hxl := HX.out.1
    have hml := HM.out
    have hk2 : (x.take kk).length = kk := by simp; omega
    have k9 := HK1.out.trans (k2.trans k3)
    refine ⟨by rw [List.append_assoc, List.take_append_drop], by rw [List.length_append, hk2]; omega, (HX.out.kpf k9 HA.out).cut hkn, FarB.cut HX.out HA.out hkn, ⟨tl64 l ++ x.take kk, ?_, ?_⟩, k9⟩
    ·
     rw [List.length_append, tl64_length, ← hml, ← hu2, hk2]; omega
    ·
     rw [hs_fill l _ (by omega)]
     exact b3)
   clear hu2 hkk
   go_enter Tryz.func103, Tryz.ntmps103
   go_wp2_with (first
    | ((with_reducible show OpW 26); refine wpList_cutarr _ rfl (.tmp 24) (.tmp 25) 168 5 64 rfl Tryz.underlying168 (by kernel_rfl) g 8 u _ rfl rfl HUZ.out HUL.out ?_)
    | ((with_reducible show OpW 28); refine wpList_copyB _ rfl (.tmp 26) (.tmp 27) 22 5 rfl Tryz.underlying22 (by kernel_rfl) g (8 + u) (64 - u) (64 - u) t _ rfl HW1.out A n c x rfl HXK.out HL1.out ?_; intro w2 b1 b2 b3; rw [HMIN.out] at b1; rw [HMIN.out]; obtain ⟨b4, b5⟩ := HB.out w2 b1; have HB4 := Lib.hid b4; have HB5 := Lib.hid b5; have HB2k := Lib.hid b2; clear b1 b2 b3 b4 b5)
    | ((with_reducible show OpW 31); refine wpList_cut _ rfl (.tmp 29) _ 22 5 rfl Tryz.underlying22 (by kernel_rfl) A n c kk _ rfl rfl rfl hkn ?_)
    | (go_at_call 135; refine (process_any g 64 (some ⟨g, 8, none⟩) t (hs l) (tl64 l ++ x.take kk) _ w2 (BL.buf HB4.out HB5.out) HB4.out (HT.out.kp (HK1.out.trans HB2k.out) (by rintro k rfl; exact hg))).mono ?_; rintro e w3 ⟨rfl, p1, p2⟩; have HM1 := Lib.hid (HN3.out w2 w3 HB2k.out p1 p2); clear p1 p2))
   have hn1 : n - kk ≤ 140737488355328 := by omega
   go_loopw [1] (fun v wr => ∃ (P x1 : List UInt8) (A1 : Option Addr) (n1 c1 : Nat), v = .slice A1 n1 c1 ∧ n1 ≤ 140737488355328 ∧ Hid (WrMid w g t rest (l ++ x) P A1 n1 c1 x1 wr)) (fun v _ => lenV v)
   case atStart => exact ⟨_, _, _, _, _, rfl, hn1, HM1⟩
   case round =>
    obtain ⟨P, x1, A1, n1, c1, rfl, hn1, hmid⟩ := hrel
    obtain ⟨bf, f1, f2⟩ := hmid.out.st
    have hsz := hmid.out.kp.size
    have hTr := hmid.out.kp
    by_cases h64 : 64 ≤ n1
    ·
     have hcc : 64 ≤ c1 := by have := hmid.out.src.2.1; omega
     have HP : Hid (∀ (e : Ending) (w2 : World), (e = .returned (.tuple #[]) ∧ BL w2 g t ((comp (hs P) (x1.take 64)).cells ++ (bf.map B ++ (.int .i64 ((l ++ x).length : Int) :: rest))) ∧ Kp (· = g) wr w2) → e = .returned (.tuple #[]) ∧ Hid (WrMid w g t rest (l ++ x) (P ++ x1.take 64) (cutA A1 c1 64) (n1 - 64) (c1 - 64) (x1.drop 64) w2)) := Lib.hid (fun e w2 hp => ⟨hp.1, Lib.hid (hmid.out.next h64 hp.2.1 ⟨bf, f1, rfl⟩ hp.2.2)⟩)
     have HF2 := Lib.hid f2
     have HTr : Hid (Tabs wr) := Lib.hid (HT.out.kp hTr (by rintro k rfl; exact hg))
     clear f1 f2 hTr
     go_wp2_with (first
      | (go_at_call 135; refine (process_any g c1 A1 t (hs P) (x1.take 64) _ wr (hmid.out.src.pre h64) HF2.out HTr.out).mono ?_; intro e w2 hp; obtain ⟨rfl, HM2⟩ := HP.out e w2 hp; clear hp)
      | ((with_reducible show OpW 50); refine wpList_cut _ rfl (.tmp 49) _ 22 5 rfl Tryz.underlying22 (by kernel_rfl) A1 n1 c1 64 64 rfl rfl rfl h64 ?_))
     go_roundw
     case rel => exact ⟨_, _, _, _, _, rfl, by omega, HM2⟩
     case measure => simp [lenV]; omega
    ·
     have HF2 := Lib.hid f2
     have HS := Lib.hid hmid.out.src
     have HLA : Hid (∀ w2, BL w2 g t (splice (stv (hs P) bf (l ++ x).length rest) 8 ((x1.take (min n1 64)).map B)) → Kp (· = g) wr w2 → WrPost w g t rest (l ++ x) (.returned (.tuple #[])) w2) := Lib.hid (fun w2 b1 b2 => hmid.out.last (by omega) f1 b1 b2)
     have HLn : Hid (8 + 64 ≤ (stv (hs P) bf (l ++ x).length rest).length) := Lib.hid (by rw [stv_length _ _ _ _ f1]; omega)
     clear f1 f2 hTr
     go_wp2_with ((with_reducible show OpW 56); refine wpList_copyB _ rfl (.tmp 54) (.tmp 55) 22 5 rfl Tryz.underlying22 (by kernel_rfl) g 8 64 64 t _ rfl HF2.out A1 n1 c1 x1 rfl HS.out HLn.out ?_; intro w2 b1 b2 b3)
     go_end0
     exact HLA.out w2 b1 b2
 ·
  have hu1 : (m : Int) % 64 ≤ 0 := by omega
  have HM1 : Hid (WrMid w g t rest (l ++ x) l A n c x (w.setCell ⟨g, 72, none⟩ (.int .i64 ((m : Int) + (n : Int))))) := Lib.hid ⟨rfl, by rw [← HM.out]; omega, HX.out.kpf HK1.out HA.out, HA.out, ⟨buf, HB1.out, HW1.out⟩, HK1.out⟩
  have hn1 := hn
  go_enter Tryz.func103, Tryz.ntmps103
  go_wp2_with fail
  go_loopw [1] (fun v wr => ∃ (P x1 : List UInt8) (A1 : Option Addr) (n1 c1 : Nat), v = .slice A1 n1 c1 ∧ n1 ≤ 140737488355328 ∧ Hid (WrMid w g t rest (l ++ x) P A1 n1 c1 x1 wr)) (fun v _ => lenV v)
  case atStart => exact ⟨_, _, _, _, _, rfl, hn1, HM1⟩
  case round =>
   obtain ⟨P, x1, A1, n1, c1, rfl, hn1, hmid⟩ := hrel
   obtain ⟨bf, f1, f2⟩ := hmid.out.st
   have hsz := hmid.out.kp.size
   have hTr := hmid.out.kp
   by_cases h64 : 64 ≤ n1
   ·
    have hcc : 64 ≤ c1 := by have := hmid.out.src.2.1; omega
    have HP : Hid (∀ (e : Ending) (w2 : World), (e = .returned (.tuple #[]) ∧ BL w2 g t ((comp (hs P) (x1.take 64)).cells ++ (bf.map B ++ (.int .i64 ((l ++ x).length : Int) :: rest))) ∧ Kp (· = g) wr w2) → e = .returned (.tuple #[]) ∧ Hid (WrMid w g t rest (l ++ x) (P ++ x1.take 64) (cutA A1 c1 64) (n1 - 64) (c1 - 64) (x1.drop 64) w2)) := Lib.hid (fun e w2 hp => ⟨hp.1, Lib.hid (hmid.out.next h64 hp.2.1 ⟨bf, f1, rfl⟩ hp.2.2)⟩)
    have HF2 := Lib.hid f2
    have HTr : Hid (Tabs wr) := Lib.hid (HT.out.kp hTr (by rintro k rfl; exact hg))
    clear f1 f2 hTr
    go_wp2_with (first
     | (go_at_call 135; refine (process_any g c1 A1 t (hs P) (x1.take 64) _ wr (hmid.out.src.pre h64) HF2.out HTr.out).mono ?_; intro e w2 hp; obtain ⟨rfl, HM2⟩ := HP.out e w2 hp; clear hp)
     | ((with_reducible show OpW 50); refine wpList_cut _ rfl (.tmp 49) _ 22 5 rfl Tryz.underlying22 (by kernel_rfl) A1 n1 c1 64 64 rfl rfl rfl h64 ?_))
    go_roundw
    case rel => exact ⟨_, _, _, _, _, rfl, by omega, HM2⟩
    case measure => simp [lenV]; omega
   ·
    have HF2 := Lib.hid f2
    have HS := Lib.hid hmid.out.src
    have HLA : Hid (∀ w2, BL w2 g t (splice (stv (hs P) bf (l ++ x).length rest) 8 ((x1.take (min n1 64)).map B)) → Kp (· = g) wr w2 → WrPost w g t rest (l ++ x) (.returned (.tuple #[])) w2) := Lib.hid (fun w2 b1 b2 => hmid.out.last (by omega) f1 b1 b2)
    have HLn : Hid (8 + 64 ≤ (stv (hs P) bf (l ++ x).length rest).length) := Lib.hid (by rw [stv_length _ _ _ _ f1]; omega)
    clear f1 f2 hTr
    go_wp2_with ((with_reducible show OpW 56); refine wpList_copyB _ rfl (.tmp 54) (.tmp 55) 22 5 rfl Tryz.underlying22 (by kernel_rfl) g 8 64 64 t _ rfl HF2.out A1 n1 c1 x1 rfl HS.out HLn.out ?_; intro w2 b1 b2 b3)
    go_end0
    exact HLA.out w2 b1 b2
end Go.Proofs.YtheijpjfpaghfaaGreatDoor
/- Closed facts about the program's tables, and 'make' of the element types that the chapter uses. -/
namespace Go.Proofs.YtheijpjfpaghfaaGreatDoor
open Go Go.RowKit Gf

theorem infoU8 : (Tryz.prog.info? 5).map (fun i => (i.zero, i.size, i.bytes)) = some (some (.int .u8 0), 1, 1) := by kernel_rfl
theorem infoInt : (Tryz.prog.info? 3).map (fun i => (i.zero, i.size, i.bytes)) = some (some (.int .i64 0), 1, 8) := by kernel_rfl

theorem infoStr : (Tryz.prog.info? 9).map (fun i => (i.zero, i.size, i.bytes)) = some (some (.string ByteArray.empty), 1, 16) := by kernel_rfl

theorem made_one (z : Value) (n : Nat) : madeCells #[z] n = (List.replicate n z).toArray := by
 rw [← toList_madeCells_one]

end Go.Proofs.YtheijpjfpaghfaaGreatDoor
