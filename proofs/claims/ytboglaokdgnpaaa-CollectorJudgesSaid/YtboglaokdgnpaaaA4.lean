/- Several texts in one: Join, Cel2, Tkr. -/
import Derived.Test.YtboglaokdgnpaaaA3
/- Slices of strings. -/
namespace Sha
theorem here : True := trivial
end Sha
namespace Go.Proofs.Ytboglaokdgnpaaa
open Go.RowKit Gf Sha

/-- Strings. -/
def TS (w : World) (A : Option Addr) (n c : Nat) (m : List (List UInt8)) : Prop :=
 m.length = n ∧ n ≤ c ∧ n * 16 ≤ lim ∧ Cells w A n (fun k => .string (strB (gR m k)))
theorem TS.kept {w w' : World} {A : Option Addr} {n c : Nat} {m : List (List UInt8)} (h : TS w A n c m) (hb : Below w.heap.size w w') : TS w' A n c m := ⟨h.1, h.2.1, h.2.2.1, h.2.2.2.kept hb⟩
theorem TS.drew {w : World} {A : Option Addr} {n c : Nat} {m : List (List UInt8)} (h : TS w A n c m) : TS w.drew A n c m := h
theorem TS.at_ {w w' : World} {A : Option Addr} {n c : Nat} {m : List (List UInt8)} (h : TS w A n c m) (hb : Below w.heap.size w w') {k : Nat} (hk : k < n) : ∃ g o, A = some ⟨g, o, none⟩ ∧ w'.cell? ⟨g, o + k, none⟩ = some (.string (strB (gR m k))) := (h.kept hb).2.2.2 k hk
theorem TS.nil {w : World} : TS w none 0 0 [] := ⟨rfl, Nat.le_refl _, by decide, fun k hk => absurd hk (by omega)⟩
theorem TS.of_blk {w : World} {g : Nat} {t : TypeId} {m : List (List UInt8)} (h : BL w g t (m.map fun l => .string (strB l))) {n : Nat} (hn : m.length = n) (hl : n * 16 ≤ lim) : TS w (some ⟨g, 0, none⟩) n n m :=
 ⟨hn, Nat.le_refl _, hl, fun k hk => ⟨g, 0, rfl, by
  rw [Nat.zero_add]
  refine h.get ?_
  rw [List.getElem?_map, List.getElem?_eq_getElem (by omega)]
  show some (Value.string _) = some (.string (strB (gR m k)))
  rw [gR_eq (by omega)]⟩⟩
theorem flat_take {m : List (List UInt8)} {k : Nat} (h : k < m.length) : (m.take (k + 1)).flatten = (m.take k).flatten ++ gR m k := by
 rw [List.take_succ_eq_append_getElem h, List.flatten_append, gR_eq h]; simp
theorem flat_le (m : List (List UInt8)) (k : Nat) : (m.take k).flatten.length ≤ m.flatten.length := by
 conv => rhs; rw [← List.take_append_drop k m]
 rw [List.flatten_append, List.length_append]; omega

end Go.Proofs.Ytboglaokdgnpaaa
/- copy from a string; struct values built of parts of many cells. -/
namespace Go.Proofs.Ytboglaokdgnpaaa
open Go Go.RowKit Gf

section
variable {P : Program} (w : World)
/-- copy(dst, s), s a string. -/
theorem run_copyS {ty te rt : TypeId} {t2 : TypeId} (hu : P.underlying ty = some (.slice te)) (hsz : (match P.info? te with | some i => i.size == 1 | none => false) = true)
  {g o m mc : Nat} {tb : TypeId} {l : List Value} (hb : BL w g tb l) {x : List UInt8} (ho : o + m ≤ l.length) :
  ∃ w', (Builtin.copy_ #[ty, t2] rt #[.slice (some ⟨g, o, none⟩) m mc, .string (strB x)]).run P w = .ok (.int .i64 ((min x.length m : Nat) : Int)) w' ∧ BL w' g tb (splice l o ((x.take (min x.length m)).map B)) ∧ Kp (· = g) w w' ∧ w'.heap.size = w.heap.size := by
 have h2 : (sizeOf te).run P w = .ok 1 w := by
  cases hi : P.info? te with
  | none => simp [hi] at hsz
  | some i => simp [hi] at hsz; simp [sizeOf, typeInfo, hi, hsz]
 have hxl : ((x.take (min x.length m)).map B).length = min x.length m := by simp
 have h1 : ∀ v ∈ (x.take (min x.length m)).map B, v.oneCell' = true := by
  intro v hv
  obtain ⟨b, _, rfl⟩ := List.mem_map.1 hv
  rfl
 obtain ⟨w', hr, hb', hk, hz⟩ := run_storeCells (P := P) ((x.take (min x.length m)).map B) h1 o (min x.length m) 0 l w (by omega) hb (by omega)
 refine ⟨w', ?_, hb', hk, hz⟩
 have hf : (Builtin.firstCells 1 (min x.length m) (.string (strB x))).run P w = .ok ((x.take (min x.length m)).map B).toArray w := by
  have e : ((strB x).extract 0 (min x.length m)).data.map (fun b => Value.int .u8 (b.toNat : Int)) = ((x.take (min x.length m)).map B).toArray := by
   have e2 : ((strB x).extract 0 (min x.length m)).data = (x.take (min x.length m)).toArray := by
    rw [ByteArray.data_extract]
    simp [strB]
   rw [e2]
   simp
   rfl
  simp only [Builtin.firstCells, e]
  rfl
 rw [List.drop_zero] at hr
 have e1 : Nat.min x.length m = min x.length m := rfl
 have e3 : (strB x).size = x.length := rfl
 generalize (x.take (min x.length m)).map B = ys at hf hr
 simp [Builtin.copy_, run_underlying hu, Builtin.lenOf, e1, e3, h2, hf, hr, goInt, Result.andThen]

theorem wpList_copyS {ops : Array Oper} {rest : List Oper} {o : Oper} {a : Act} {Q : Exit → Act → World → Prop} (hg : o.guard = none) (s x : Operand) (ty t2 te : TypeId) (hop : o.op = .call { callee := .builtin .copy, args := #[s, x], argTypes := #[ty, t2] })
  (hu : P.underlying ty = some (.slice te)) (hsz : (match P.info? te with | some i => i.size == 1 | none => false) = true)
  (g p m mc : Nat) (tb : TypeId) (l : List Value) (hs : a.eval s = .slice (some ⟨g, p, none⟩) m mc) (hb : BL w g tb l) (xs : List UInt8) (hx : a.eval x = .string (strB xs)) (ho : p + m ≤ l.length)
  (h : ∀ w', BL w' g tb (splice l p ((xs.take (min xs.length m)).map B)) → Kp (· = g) w w' → w'.heap.size = w.heap.size → wpList P ops Q rest (a.put o.dst (.int .i64 ((min xs.length m : Nat) : Int))) w') : wpList P ops Q (o :: rest) a w :=
 wpList_plain hg fun K hK => by
  obtain ⟨w', hr, h2, h3, h4⟩ := run_copyS w (rt := o.type) (t2 := t2) hu hsz hb (mc := mc) (x := xs) ho
  unfold Oper.wp execOp
  simp only [hop, resolve, invoke, builtin, Sem.run_bind, Sem.run_pure, Result.andThen_ok, List.map_toArray, List.map_cons, List.map_nil, hs, hx, hr]
  exact hK _ _ (h w' h2 h3 h4)
end

theorem fold_set (off : Nat) : ∀ (vs : List Value) (i : Nat) (cs : Array Value), off + i + vs.length ≤ cs.size →
  (vs.zipIdx i).foldl (fun (cs : Array Value) (x : Value × Nat) => cs.setIfInBounds (off + x.2) x.1) cs = (splice cs.toList (off + i) vs).toArray
 | [], i, cs, _ => by simp [splice]
 | v :: vs, i, cs, h => by
  rw [List.length_cons] at h
  rw [List.zipIdx_cons, List.foldl_cons, fold_set off vs (i + 1) _ (by rw [Array.size_setIfInBounds]; omega)]
  congr 1
  have hl : off + i < cs.toList.length := by rw [Array.length_toList]; omega
  rw [Array.toList_setIfInBounds]
  unfold splice
  have e1 : (cs.toList.set (off + i) v).take (off + (i + 1)) = cs.toList.take (off + i) ++ [v] := by
   rw [show off + (i + 1) = off + i + 1 by omega, List.take_succ_eq_append_getElem (by rw [List.length_set]; omega), List.take_set_of_le (Nat.le_refl _), List.getElem_set_self]
  have e2 : (cs.toList.set (off + i) v).drop (off + (i + 1) + vs.length) = cs.toList.drop (off + i + (vs.length + 1)) := by
   rw [List.drop_set_of_lt (by omega)]; congr 1; omega
  rw [e1, e2, List.length_cons]
  simp
theorem fill_one (place : Nat → Option (Nat × Nat)) (cs : Array Value) (i : Nat) (vs : List Value) (rest : List (Nat × Value)) (off : Nat) (hp : place i = some (off, vs.length)) (h : off + vs.length ≤ cs.size) :
  Instr.fill place cs ((i, .agg vs.toArray) :: rest) = Instr.fill place (splice cs.toList off vs).toArray rest := by
 have e := fold_set off vs 0 cs (by omega)
 rw [Nat.add_zero] at e
 rw [Instr.fill, hp]
 simp only [Value.cells, List.size_toArray]
 rw [if_neg (by simp; omega)]
 congr 1
 rw [← e]
 simp

section
variable {P : Program} {w : World} {o : Oper} {a : Act} {Q : Exit → Act → World → Prop} {K : Act → World → Prop}
theorem wp_loadv (t : TypeId) (x : Operand) (hop : o.op = .load t x) (n : Nat) (ht : Agg P t n = true) (g p : Nat) (ms : List Value) (hx : a.eval x = .pointer (some ⟨g, p, none⟩))
  (hm : At w g p ms) (hn : ms.length = n) (h : K (a.put o.dst (.agg ms.toArray)) w) : o.wp P a w K Q := by
 unfold Oper.wp execOp
 simp only [hop, hx]
 simp [run_loadAt w ht hm hn, Result.andThen]
 exact h
theorem wp_box (t : TypeId) (x : Operand) (hop : o.op = .box t x) (l : List Value) (hx : a.eval x = .agg l.toArray)
  (h : ∀ w', BL w' w.heap.size t l → Below w.heap.size w w' → w'.heap.size = w.heap.size + 1 → K (a.put o.dst (.pointer (some ⟨w.heap.size, 0, none⟩))) w') : o.wp P a w K Q := by
 unfold Oper.wp execOp
 simp only [hop, hx]
 simp [Instr.box, newVar, newRow, Value.cells, Result.andThen]
 exact h _ (BL.new w t l) ((Below.refl _ _).alloc (Nat.le_refl _) _) (by simp)
theorem exec_build {t : TypeId} {parts : Array (Nat × Operand)} (hop : o.op = .build t parts) {ps : Array (Nat × Value)} (hps : (parts.map fun (i, x) => (i, a.eval x)) = ps) {v : Value} (hr : (Instr.build t ps).run P w = .ok v w) : (execOp a.eval o).run P w = .ok (.value v) w := by
 unfold execOp
 simp only [hop, hps]
 simp [hr, Result.andThen]
end
theorem splice_left (l1 l2 vs : List Value) (h : vs.length = l1.length) : splice (l1 ++ l2) 0 vs = vs ++ l2 := by
 simp [splice, h]
theorem splice_right (l1 l2 vs : List Value) (o : Nat) (ho : o = l1.length) (h : vs.length = l2.length) : splice (l1 ++ l2) o vs = l1 ++ vs := by
 subst ho; simp [splice, h]

section
variable {P : Program} {w : World}
theorem run_zero {t : TypeId} {z : Value} (h : (P.info? t).map (·.zero) = some (some z)) : (zeroValue t).run P w = .ok z w := by
 cases hi : P.info? t with
 | none => simp [hi] at h
 | some i =>
  have hz : i.zero = some z := by simpa [hi] using h
  simp [zeroValue, typeInfo, hi, hz]
/-- A struct of two parts of many cells, both given. -/
theorem build_two {t : TypeId} {f0 f1 : Field} {n1 n2 : Nat} (hu : P.underlying t = some (.struct #[f0, f1])) (h0 : f0.offset = 0) (h1 : f1.offset = n1) (hs0 : (sizeOf f0.type).run P w = .ok n1 w) (hs1 : (sizeOf f1.type).run P w = .ok n2 w)
  (z : Value) (hz : (zeroValue t).run P w = .ok z w) (hzs : z.cells.size = n1 + n2) (a b : List Value) (ha : a.length = n1) (hb : b.length = n2) :
  (Instr.build t #[(0, .agg a.toArray), (1, .agg b.toArray)]).run P w = .ok (.agg (a ++ b).toArray) w := by
 have hf : Instr.fill (fun x => [(0, n1), (n1, n2)][x]?) z.cells [(0, .agg a.toArray), (1, .agg b.toArray)] = some (a ++ b).toArray := by
  have hl : z.cells.toList.length = n1 + n2 := by rw [Array.length_toList]; exact hzs
  have e1 : (splice z.cells.toList 0 a).length = n1 + n2 := by
   unfold splice
   rw [List.length_append, List.length_append, List.length_take, List.length_drop, hl, ha]; omega
  rw [fill_one _ _ 0 _ _ 0 (by rw [ha]; rfl) (by rw [ha, hzs]; omega), fill_one _ _ 1 _ _ n1 (by rw [hb]; rfl) (by rw [hb, List.size_toArray, e1]; omega), Instr.fill]
  congr 2
  rw [List.toList_toArray]
  have e2 : splice z.cells.toList 0 a = a ++ z.cells.toList.drop n1 := by
   unfold splice; rw [List.take_zero, List.nil_append, Nat.zero_add, ha]
  rw [e2, splice_right _ _ _ _ ha.symm (by rw [hb, List.length_drop, hl]; omega)]
 unfold Instr.build
 simp [hz, run_underlying hu, hs0, hs1, h0, h1, Result.andThen, hf]
theorem build_one {t : TypeId} {f0 : Field} {n1 : Nat} (hu : P.underlying t = some (.struct #[f0])) (h0 : f0.offset = 0) (hs0 : (sizeOf f0.type).run P w = .ok n1 w)
  (z : Value) (hz : (zeroValue t).run P w = .ok z w) (hzs : z.cells.size = n1) (a : List Value) (ha : a.length = n1) :
  (Instr.build t #[(0, .agg a.toArray)]).run P w = .ok (.agg a.toArray) w := by
 have hf : Instr.fill (fun x => [(0, n1)][x]?) z.cells [(0, .agg a.toArray)] = some a.toArray := by
  have hl : z.cells.toList.length = n1 := by rw [Array.length_toList]; exact hzs
  rw [fill_one _ _ 0 _ _ 0 (by rw [ha]; rfl) (by rw [ha, hzs]; omega), Instr.fill]
  congr 2
  unfold splice
  rw [List.take_zero, List.nil_append, Nat.zero_add, ha, List.drop_eq_nil_of_le (by omega), List.append_nil]
 unfold Instr.build
 simp [hz, run_underlying hu, hs0, h0, Result.andThen, hf]
end
end Go.Proofs.Ytboglaokdgnpaaa
/- Rows of elements of many cells: tokens. Plain, but for the words on memory. -/
namespace Go.Proofs.Ytboglaokdgnpaaa
open Go Go.RowKit Gf

section
variable {α : Type} {f : α → List Value} {s : Nat}
theorem flat_length (hf : ∀ x, (f x).length = s) (l : List α) : (l.flatMap f).length = l.length * s := by
 induction l with
 | nil => simp
 | cons x l ih => rw [List.flatMap_cons, List.length_append, hf, ih, List.length_cons, Nat.succ_mul]; omega
theorem flat_split (l : List α) (k : Nat) (h : k < l.length) : l.flatMap f = (l.take k).flatMap f ++ f l[k] ++ (l.drop (k + 1)).flatMap f := by
 conv => lhs; rw [← List.take_append_drop k l, List.drop_eq_getElem_cons h]
 rw [List.flatMap_append, List.flatMap_cons, List.append_assoc]
theorem splice_mid (A X C vs : List Value) (o : Nat) (ho : o = A.length) (h : vs.length = X.length) : splice (A ++ X ++ C) o vs = A ++ vs ++ C := by
 subst ho
 unfold splice
 have e1 : (A ++ X ++ C).take A.length = A := by rw [List.append_assoc, List.take_left]
 have e2 : (A ++ X ++ C).drop (A.length + vs.length) = C := by rw [h, ← List.length_append, List.drop_left]
 rw [e1, e2]
theorem flat_splice (hf : ∀ x, (f x).length = s) (l : List α) (k : Nat) (h : k < l.length) (x : α) : splice (l.flatMap f) (k * s) (f x) = (l.set k x).flatMap f := by
 have h2 : (l.set k x).length = l.length := List.length_set
 rw [flat_split (f := f) l k h, flat_split (f := f) (l.set k x) k (by omega), List.getElem_set_self, List.take_set_of_le (Nat.le_refl _), List.drop_set_of_lt (by omega)]
 exact splice_mid _ _ _ _ _ (by rw [flat_length hf, List.length_take, Nat.min_eq_left (by omega)]) (by rw [hf, hf])
theorem BL.elem {w : World} {g : Nat} {t : TypeId} {l : List α} (hf : ∀ x, (f x).length = s) (h : BL w g t (l.flatMap f)) {k : Nat} (hk : k < l.length) : At w g (k * s) (f l[k]) := by
 rw [flat_split (f := f) l k hk] at h
 exact BL.at_ h (by rw [flat_length hf, List.length_take, Nat.min_eq_left (by omega)])
end

theorem madeCells_flat (z : List Value) (n : Nat) (hz : z ≠ []) : madeCells z.toArray (n * z.length) = ((List.replicate n ()).flatMap fun _ => z).toArray := by
 have hl : ((List.replicate n ()).flatMap fun _ => z).length = n * z.length := by rw [flat_length (s := z.length) (fun _ => rfl), List.length_replicate]
 have hz0 : 0 < z.length := List.length_pos_iff.2 hz
 apply Array.ext'
 rw [madeCells, Array.toList_map, Array.toList_range]
 apply List.ext_getElem?
 intro i
 by_cases hi : i < n * z.length
 ·
  rw [List.getElem?_map, List.getElem?_range hi]
  have hk : i / z.length < n := Nat.div_lt_of_lt_mul (by rw [Nat.mul_comm]; exact hi)
  have hs := flat_split (f := fun _ : Unit => z) (List.replicate n ()) (i / z.length) (by rw [List.length_replicate]; exact hk)
  have h1 : (((List.replicate n ()).take (i / z.length)).flatMap fun _ => z).length = i / z.length * z.length := by rw [flat_length (s := z.length) (fun _ => rfl), List.length_take, List.length_replicate, Nat.min_eq_left (by omega)]
  have hdm := Nat.div_add_mod i z.length
  have hm := Nat.mod_lt i hz0
  rw [Nat.mul_comm] at hdm
  rw [List.toList_toArray, hs, List.append_assoc, List.getElem?_append_right (by omega), h1, List.getElem?_append_left (by omega), show i - i / z.length * z.length = i % z.length by omega]
  simp [hm]
 ·
  rw [List.getElem?_eq_none (by simp; omega), List.getElem?_eq_none (by rw [List.toList_toArray, hl]; omega)]

/-- make([]T, k, n), T of many cells. -/
theorem wpList_mkv {P : Program} (w : World) {ops : Array Oper} {rest : List Oper} {o : Oper} {a : Act} {Q : Exit → Act → World → Prop} (hg : o.guard = none) (t te : TypeId) (x y : Operand) (hop : o.op = .makeSlice t x y) (z : List Value) (hz : z ≠ []) (bytes : Nat) (ht : P.underlying t = some (.slice te))
  (hinfo : (P.info? te).map (fun i => (i.zero, i.size, i.bytes)) = some (some (.agg z.toArray), z.length, bytes)) (k n : Nat) (zx zy : Int) (hx : a.eval x = .int .i64 zx) (hy : a.eval y = .int .i64 zy) (hzx : zx = (k : Int)) (hzy : zy = (n : Int)) (hk : k ≤ n) (hb : bytes * n ≤ 281474976710656) (hn : n ≤ 9223372036854775807)
  (h : ∀ w', BL w' w.heap.size te ((List.replicate n ()).flatMap fun _ => z) → Below w.heap.size w w' → w'.heap.size = w.heap.size + 1 → wpList P ops Q rest (a.put o.dst (.slice (some ⟨w.heap.size, 0, none⟩) k n)) w') : wpList P ops Q (o :: rest) a w :=
 wpList_plain hg fun K hK => by
  subst hzx hzy
  obtain ⟨i, hi, hzz, hs, hby⟩ := info_parts hinfo
  have hbb : (i.bytes : Int) * (n : Int) ≤ 281474976710656 := by rw [hby, ← Int.natCast_mul]; exact Int.ofNat_le.2 hb
  have hr := run_make (P := P) w t te i _ ht hi hzz .i64 .i64 (k : Int) (n : Int) (by omega) (by omega) hbb (by omega)
  rw [hs] at hr
  simp only [Int.toNat_natCast, Value.cells, madeCells_flat z n hz] at hr
  unfold Oper.wp execOp
  simp only [hop, hx, hy]
  simp [hr, Result.andThen]
  exact hK _ _ (h _ (BL.new w te _) ((Below.refl _ _).alloc (Nat.le_refl _) _) (by simp))

section
variable {P : Program} {w : World} {o : Oper} {a : Act} {Q : Exit → Act → World → Prop} {K : Act → World → Prop}
theorem wp_storev (t : TypeId) (x y : Operand) (hop : o.op = .store t x y) (n : Nat) (ht : Agg P t n = true) (g p : Nat) (te : TypeId) (l vs : List Value) (hx : a.eval x = .pointer (some ⟨g, p, none⟩)) (hy : a.eval y = .agg vs.toArray)
  (hb : BL w g te l) (hn : vs.length = n) (h1 : ∀ v ∈ vs, v.oneCell' = true) (ho : p + n ≤ l.length)
  (h : ∀ w', BL w' g te (splice l p vs) → Kp (· = g) w w' → w'.heap.size = w.heap.size → K (a.put o.dst undef) w') : o.wp P a w K Q := by
 obtain ⟨w', hr, h2, h3, h4⟩ := run_storeAt w ht hb hn h1 ho
 unfold Oper.wp execOp
 simp only [hop, hx, hy]
 simp [hr, Result.andThen]
 exact h w' h2 h3 h4
end
end Go.Proofs.Ytboglaokdgnpaaa
