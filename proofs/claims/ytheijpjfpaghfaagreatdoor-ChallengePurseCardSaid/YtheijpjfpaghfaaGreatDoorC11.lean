/- Several texts in one: Map, Pu0, Pu1, Pu2. -/
import Derived.Test.YtheijpjfpaghfaaGreatDoorC3
import Derived.Maps.OwnSet
import Derived.Test.YtheijpjfpaghfaaGreatDoorC10
import Derived.DeepKeys4
import Derived.Test.YtheijpjfpaghfaaGreatDoorC9
import Derived.Test.YtheijpjfpaghfaaGreatDoorC8
/- Maps of the call's own, as lists of keys with values; look-ups and stores as laws at the operation. Proved for any program. -/
namespace Go.Proofs.YtheijpjfpaghfaaGreatDoor
open Go Go.RowKit Go.ChangeMaps Go.MapKept Gf
open Go.Maps (Keyed)

/-- Block b is a map with just the entries L. -/
def MB (P : Program) (k : TypeId) (w : World) (b : Nat) (L : List (Value × Value)) : Prop :=
 ∃ es clock, w.heap[b]? = some (.map es clock) ∧ Stamped es clock ∧ (∀ x ∈ es.toList, ∃ l, keyOf P k x.key = some l) ∧ es.toList.map (fun e => (e.key, e.val)) = L

section
variable {P : Program} {k : TypeId} {w w' : World} {b : Nat} {L : List (Value × Value)}
theorem MB.lt (h : MB P k w b L) : b < w.heap.size := by
 obtain ⟨es, clock, hb, _⟩ := h
 exact (Array.getElem?_eq_some_iff.1 hb).1
theorem MB.kept (h : MB P k w b L) (hb : Below w.heap.size w w') : MB P k w' b L := by
 have hl := h.lt
 obtain ⟨es, clock, h1, h2⟩ := h
 exact ⟨es, clock, (hb.block b hl).trans h1, h2⟩
theorem MB.kp {S : Nat → Prop} (h : MB P k w b L) (hb : Kp S w w') (hn : ¬ S b) : MB P k w' b L := by
 have hl := h.lt
 obtain ⟨es, clock, h1, h2⟩ := h
 exact ⟨es, clock, (hb.block b hl hn).trans h1, h2⟩
theorem MB.drew (h : MB P k w b L) : MB P k w.drew b L := h
theorem MB.drewN (h : MB P k w b L) (n : Nat) : MB P k (w.drewN n) b L := h
theorem MB.new (P : Program) (k : TypeId) (w : World) : MB P k (w.alloc (.map #[] 0)) w.heap.size [] :=
 ⟨#[], 0, (MapKept.heap_alloc w _).1, stamped_empty 0, by simp, rfl⟩
theorem MB.nodup (h : MB P k w b L) : (L.map (·.1)).Nodup := by
 obtain ⟨es, clock, _, h2, _, rfl⟩ := h
 rw [List.map_map]
 exact h2.2.2

theorem run_makeMap' (t : TypeId) (w : World) : (Instr.makeMap t none).run P w = .ok (.map (some w.heap.size)) (w.alloc (.map #[] 0)) := rfl

/-- The value of a key, the zero value where there is none. -/
inductive Found (L : List (Value × Value)) (x z : Value) : Value → Bool → Prop
 | yes (i : Nat) (v : Value) (h : L[i]? = some (x, v)) : Found L x z v true
 | no (h : ∀ p ∈ L, p.1 ≠ x) : Found L x z z false

theorem MB.look {t e : TypeId} (h : MB P k w b L) (K : Keyed P k) (ht : P.underlying t = some (.map k e)) {z : Value} (hz : (P.info? e).map (·.zero) = some (some z)) {x : Value} {lx : Lit} (hx : keyOf P k x = some lx) (c : Bool) :
  ∃ v f, Found L x z v f ∧ (Instr.lookup t (.map (some b)) x c).run P w = .ok (if c then .tuple #[v, .bool f] else v) w := by
 obtain ⟨es, clock, hb, _, hk, rfl⟩ := h
 have hzv : (zeroValue e).run P w = .ok z w := by
  cases hi : P.info? e with
  | none => simp [hi] at hz
  | some i =>
   have hz' : i.zero = some z := by simpa [hi] using hz
   simp [zeroValue, typeInfo, hi, hz']
 rcases K.find w hx es.toList hk with ⟨f1, f2⟩ | ⟨j, e0, f1, f2, f3⟩
 ·
  refine ⟨z, false, .no (by intro p hp; obtain ⟨y, hy, rfl⟩ := List.mem_map.1 hp; exact f2 y hy), ?_⟩
  simp [Instr.lookup, run_underlying ht, MapKept.run_getObj_map hb, K.check w _ hx, f1, hzv, Result.andThen]
 ·
  refine ⟨e0.val, true, .yes j e0.val (by rw [List.getElem?_map, f2]; simp [f3]), ?_⟩
  simp [Instr.lookup, run_underlying ht, MapKept.run_getObj_map hb, K.check w _ hx, f1, Result.andThen]

/-- The list behind a store. -/
inductive Stored (L : List (Value × Value)) (x v : Value) : List (Value × Value) → Prop
 | old (i : Nat) (u : Value) (h : L[i]? = some (x, u)) : Stored L x v (L.set i (x, v))
 | new (h : ∀ p ∈ L, p.1 ≠ x) : Stored L x v (L ++ [(x, v)])

theorem MB.store {t e : TypeId} (h : MB P k w b L) (K : Keyed P k) (ht : P.underlying t = some (.map k e)) {x : Value} {lx : Lit} (hx : keyOf P k x = some lx) (v : Value) :
  ∃ w' L', Stored L x v L' ∧ (Instr.mapUpdate t (.map (some b)) x v).run P w = .ok () w' ∧ MB P k w' b L' ∧ Kp (· = b) w w' ∧ w'.heap.size = w.heap.size := by
 obtain ⟨es, clock, hb, hst, hk, rfl⟩ := h
 have kp : ∀ o, Kp (· = b) w (setBlock w b o) := fun o => ⟨rfl, rfl, rfl, by simp [setBlock], fun i _ hi => heap_setBlock_other hb o hi⟩
 rcases K.find w hx es.toList hk with ⟨f1, f2⟩ | ⟨j, e0, f1, f2, f3⟩
 ·
  refine ⟨setBlock w b (.map (es.push { key := x, val := v, born := clock }) (clock + 1)), _, .new (by intro p hp; obtain ⟨y, hy, rfl⟩ := List.mem_map.1 hp; exact f2 y hy), ?_, ⟨_, _, heap_setBlock_same hb _, stamped_push hst (fun y hy => f2 y hy), ?_, ?_⟩, kp _, by simp [setBlock]⟩
  ·
   simp [Instr.mapUpdate, run_underlying ht, MapKept.run_getObj_map hb, K.check w _ hx, f1, MapKept.run_setObj_map _ hb, Result.andThen, setBlock]
  ·
   intro y hy
   simp only [Array.toList_push, List.mem_append, List.mem_singleton] at hy
   rcases hy with hy | rfl
   ·
    exact hk y hy
   ·
    exact ⟨lx, hx⟩
  ·
   simp
 ·
  have f2' : es[j]? = some e0 := by simpa using f2
  have hkey : ((es[j]?.map (·.key)).getD x) = x := by rw [f2']; simp [f3]
  refine ⟨setBlock w b (.map (es.modify j fun e => { e with key := x, val := v }) clock), _, .old j e0.val (by rw [List.getElem?_map, f2]; simp [f3]), ?_, ⟨_, _, heap_setBlock_same hb _, stamped_modify hst j _ (fun _ _ => rfl) (fun y _ hj => by rw [f2'] at hj; cases hj; exact f3.symm), ?_, ?_⟩, kp _, by simp [setBlock]⟩
  ·
   simp only [Instr.mapUpdate, Sem.run_bind, run_underlying ht, MapKept.run_getObj_map hb, K.check w _ hx, f1, Result.andThen_ok, hkey, K.stays w hx, MapKept.run_setObj_map _ hb]
   rfl
  ·
   intro y hy
   obtain ⟨i, hi, rfl⟩ := List.mem_iff_getElem.1 hy
   by_cases hij : j = i
   ·
    subst hij
    refine ⟨lx, ?_⟩
    simp only [Array.length_toList, Array.size_modify] at hi
    simp [hx]
   ·
    simp only [Array.length_toList, Array.size_modify] at hi
    have := hk es[i] (by simp)
    simpa [Array.getElem_modify, hij] using this
  ·
   apply List.ext_getElem?
   intro i
   rw [List.getElem?_map, Array.getElem?_toList, Array.getElem?_modify, List.getElem?_set]
   by_cases hij : j = i
   ·
    subst hij
    have hjs : j < es.size := (Array.getElem?_eq_some_iff.1 f2').1
    simp [hjs]
   ·
    simp [hij]
end

section
variable {P : Program} (w : World) {ops : Array Oper} {rest : List Oper} {o : Oper} {a : Act} {Q : Exit → Act → World → Prop}
theorem wpList_makeMap (hg : o.guard = none) (t k : TypeId) (hop : o.op = .makeMap t none)
  (h : ∀ w', MB P k w' w.heap.size [] → Below w.heap.size w w' → w'.heap.size = w.heap.size + 1 → wpList P ops Q rest (a.put o.dst (.map (some w.heap.size))) w') : wpList P ops Q (o :: rest) a w :=
 wpList_plain hg fun K hK => by
  unfold Oper.wp execOp
  simp only [hop]
  simp [run_makeMap', Result.andThen]
  exact hK _ _ (h _ (MB.new P k w) ((Below.refl _ _).alloc (Nat.le_refl _) _) (by simp))
theorem wpList_look (hg : o.guard = none) (m x : Operand) (t k e : TypeId) (hop : o.op = .lookup t m x false) (K : Keyed P k) (ht : P.underlying t = some (.map k e)) (z : Value) (hz : (P.info? e).map (·.zero) = some (some z))
  (b : Nat) (L : List (Value × Value)) (hm : a.eval m = .map (some b)) (hb : MB P k w b L) (xv : Value) (hx : a.eval x = xv) (hk : ∃ lx, keyOf P k xv = some lx)
  (h : ∀ v f, Found L xv z v f → wpList P ops Q rest (a.put o.dst v) w) : wpList P ops Q (o :: rest) a w :=
 wpList_plain hg fun K' hK' => by
  obtain ⟨lx, hlx⟩ := hk
  obtain ⟨v, f, hf, hr⟩ := hb.look K ht hz hlx false
  unfold Oper.wp execOp
  simp only [hop, hm, hx]
  simp [hr, Result.andThen]
  exact hK' _ _ (h v f hf)
theorem wpList_lookok (hg : o.guard = none) (m x : Operand) (t k e : TypeId) (hop : o.op = .lookup t m x true) (K : Keyed P k) (ht : P.underlying t = some (.map k e)) (z : Value) (hz : (P.info? e).map (·.zero) = some (some z))
  (b : Nat) (L : List (Value × Value)) (hm : a.eval m = .map (some b)) (hb : MB P k w b L) (xv : Value) (hx : a.eval x = xv) (hk : ∃ lx, keyOf P k xv = some lx)
  (h : ∀ v f, Found L xv z v f → wpList P ops Q rest (a.put o.dst (.tuple #[v, .bool f])) w) : wpList P ops Q (o :: rest) a w :=
 wpList_plain hg fun K' hK' => by
  obtain ⟨lx, hlx⟩ := hk
  obtain ⟨v, f, hf, hr⟩ := hb.look K ht hz hlx true
  unfold Oper.wp execOp
  simp only [hop, hm, hx]
  simp [hr, Result.andThen]
  exact hK' _ _ (h v f hf)
theorem wpList_upd (hg : o.guard = none) (m x v : Operand) (t k e : TypeId) (hop : o.op = .mapUpdate t m x v) (K : Keyed P k) (ht : P.underlying t = some (.map k e))
  (b : Nat) (L : List (Value × Value)) (hm : a.eval m = .map (some b)) (hb : MB P k w b L) (xv vv : Value) (hx : a.eval x = xv) (hv : a.eval v = vv) (hk : ∃ lx, keyOf P k xv = some lx)
  (h : ∀ w' L', Stored L xv vv L' → MB P k w' b L' → Kp (· = b) w w' → w'.heap.size = w.heap.size → wpList P ops Q rest (a.put o.dst undef) w') : wpList P ops Q (o :: rest) a w :=
 wpList_plain hg fun K' hK' => by
  obtain ⟨lx, hlx⟩ := hk
  obtain ⟨w', L', hs, hr, h1, h2, h3⟩ := hb.store K ht hlx vv
  unfold Oper.wp execOp
  simp only [hop, hm, hx, hv]
  simp [hr, Result.andThen]
  exact hK' _ _ (h w' L' hs h1 h2 h3)
end
end Go.Proofs.YtheijpjfpaghfaaGreatDoor
/- Piece IDs as keys of maps. -/
namespace Go.Proofs.YtheijpjfpaghfaaGreatDoor
open Go Go.RowKit Go.WideMaps Gf
set_option maxRecDepth 100000

theorem laidOutT : laidOutB Tryz.prog = true := by kernel_rfl
theorem pidRow : (39 : TypeId) < Tryz.prog.types.size := of_decide_eq_true (by kernel_rfl)
theorem pidWide : (match Tryz.prog.underlying 39 with | some (.array _ _) | some (.struct _) => true | _ => false) = true := by kernel_rfl
theorem pidLaw : KeyLaw Tryz.prog 39 := deep_law_laid laidOutT (m := 2) (by omega) pidRow (by kernel_rfl) pidWide
theorem pidKeyed : Go.Maps.Keyed Tryz.prog 39 := Go.Maps.Keyed.of_law pidLaw
theorem strKeyed : Go.Maps.Keyed Tryz.prog 9 := Go.Maps.string_keyed Tryz.underlying9
theorem pidType : Tryz.prog.keyType 39 = true := by kernel_rfl
theorem keyPid (s : List UInt8) (i : Int) (hs : s.length ≤ 9223372036854775807) (hi : (Lit.int .i64 i).wf = true) : ∃ lx, keyOf Tryz.prog 39 (.agg #[.string (strB s), .int .i64 i]) = some lx := by
 have hc : Tryz.prog.cellsOf 39 = 2 := by kernel_rfl
 have hcs : Tryz.prog.cellsOf 9 = 1 := by kernel_rfl
 have hci : Tryz.prog.cellsOf 3 = 1 := by kernel_rfl
 have hm : (strB s).size ≤ maxLen := by rw [strB_size]; exact hs
 have hf : (Value.agg #[.string (strB s), .int .i64 i]).formed Tryz.prog 39 = true := by
  simp [Value.formed, Tryz.underlying39, hc]
 have hk : ∃ ls, Tryz.prog.keyLits (Tryz.prog.types.size + 1) 39 (Value.agg #[.string (strB s), .int .i64 i]).cells.toList = some ls := by
  obtain ⟨m, hm'⟩ : ∃ m, Tryz.prog.types.size = m + 1 := ⟨Tryz.prog.types.size - 1, by kernel_rfl⟩
  rw [hm']
  unfold Program.keyLits
  rw [Tryz.underlying39]
  simp only [Value.cells, hc]
  simp [Program.keyLits, Tryz.underlying9, Tryz.underlying3, hcs, hci, hm, hi]
 obtain ⟨ls, hk⟩ := hk
 exact ⟨.string (keyBytes ls), by
  unfold keyOf
  rw [Tryz.underlying39]
  simp only [pidType, hf, hk]
  rfl⟩
end Go.Proofs.YtheijpjfpaghfaaGreatDoor
/- Slices in a block alone, from anywhere in it, of elements of many cells: append and cut. Proved for any program. -/
namespace Go.Proofs.YtheijpjfpaghfaaGreatDoor
open Go Go.RowKit Gf

/-- v is a slice of n elements of s cells, its block whole from there on. -/
def RW (w : World) (te : TypeId) (s : Nat) (v : Value) (n : Nat) (l : List Value) : Prop :=
 l.length = n * s ∧ ((v = .slice none 0 0 ∧ n = 0) ∨ ∃ g o c cs, v = .slice (some ⟨g, o, none⟩) n c ∧ BL w g te cs ∧ n ≤ c ∧ c ≤ maxLen ∧ o + c * s ≤ cs.length ∧ (cs.drop o).take (n * s) = l)

section
variable {w w' : World} {te : TypeId} {s n : Nat} {v : Value} {l : List Value}
theorem RW.nil (w : World) (te : TypeId) (s : Nat) : RW w te s (.slice none 0 0) 0 [] := ⟨by simp, .inl ⟨rfl, rfl⟩⟩
theorem RW.kp {S : Nat → Prop} (h : RW w te s v n l) (hk : Kp S w w') (hn : ∀ b, v.ownBlock = some b → ¬ S b) : RW w' te s v n l := by
 refine ⟨h.1, ?_⟩
 rcases h.2 with h2 | ⟨g, o, c, cs, rfl, hb, r⟩
 ·
  exact .inl h2
 ·
  exact .inr ⟨g, o, c, cs, rfl, hb.kp hk (hn g rfl), r⟩
theorem RW.kept (h : RW w te s v n l) (hb : Below w.heap.size w w') : RW w' te s v n l := by
 refine ⟨h.1, ?_⟩
 rcases h.2 with h2 | ⟨g, o, c, cs, rfl, hb', r⟩
 ·
  exact .inl h2
 ·
  exact .inr ⟨g, o, c, cs, rfl, hb'.kept hb, r⟩
theorem RW.drew (h : RW w te s v n l) : RW w.drew te s v n l := h
theorem RW.lt (h : RW w te s v n l) {b : Nat} (hb : v.ownBlock = some b) : b < w.heap.size := by
 rcases h.2 with ⟨rfl, _⟩ | ⟨g, o, c, cs, rfl, hb', r⟩
 ·
  cases hb
 ·
  cases hb; exact hb'.lt
theorem RW.form (h : RW w te s v n l) : ∃ A c, v = .slice A n c ∧ n ≤ c := by
 rcases h.2 with ⟨rfl, rfl⟩ | ⟨g, o, c, cs, rfl, hb', hn, r⟩
 ·
  exact ⟨none, 0, rfl, Nat.le_refl _⟩
 ·
  exact ⟨_, c, rfl, hn⟩
theorem RW.at_ (h : RW w te s v n l) (hn : 0 < n) : ∃ g o c, v = .slice (some ⟨g, o, none⟩) n c ∧ n ≤ c ∧ At w g o l := by
 rcases h.2 with ⟨_, h0⟩ | ⟨g, o, c, cs, rfl, hb, h1, h2, h3, rfl⟩
 ·
  omega
 ·
  refine ⟨g, o, c, rfl, h1, fun j x hj => hb.get ?_⟩
  obtain ⟨hj1, _⟩ := List.getElem?_eq_some_iff.1 hj
  rw [List.getElem?_take_of_lt (by rw [List.length_take] at hj1; omega), List.getElem?_drop] at hj
  exact hj
theorem RW.of_blk {g : Nat} (h : BL w g te l) (hl : l.length = n * s) (hn : n ≤ maxLen) : RW w te s (.slice (some ⟨g, 0, none⟩) n n) n l :=
 ⟨hl, .inr ⟨g, 0, n, l, rfl, h, Nat.le_refl _, hn, by omega, by rw [List.drop_zero, ← hl, List.take_length]⟩⟩
theorem RW.firstCells {P : Program} {A : Option Addr} {c : Nat} (h : RW w te s (.slice A n c) n l) : (Builtin.firstCells s n (.slice A n c)).run P w = .ok l.toArray w := by
 rcases h.2 with ⟨e, h0⟩ | ⟨g, o, c', cs, e, hb, h1, h2, h3, h4⟩
 ·
  cases e
  have hl : l = [] := List.eq_nil_of_length_eq_zero (by rw [h.1]; omega)
  subst hl
  simp [Builtin.firstCells]
 ·
  cases e
  have ha : At w g o l := by
   subst h4
   intro j x hj
   obtain ⟨hj1, _⟩ := List.getElem?_eq_some_iff.1 hj
   rw [List.getElem?_take_of_lt (by rw [List.length_take] at hj1; omega), List.getElem?_drop] at hj
   exact hb.get hj
  have hl := run_loadCells_list (P := P) w ⟨g, o, none⟩ l (fun j x hj => by rw [addr_add]; exact ha j x hj)
  rw [h.1] at hl
  simp [Builtin.firstCells, hl]

theorem splice_row (cs : List Value) (o k m : Nat) (xs : List Value) (hx : xs.length = m) (h : o + (k + m) ≤ cs.length) : ((splice cs (o + k) xs).drop o).take (k + m) = (cs.drop o).take k ++ xs := by
 have e1 : (cs.take (o + k)).length = o + k := by rw [List.length_take]; omega
 have e2 : (splice cs (o + k) xs).drop o = (cs.drop o).take k ++ (xs ++ cs.drop (o + k + xs.length)) := by
  unfold splice
  rw [List.append_assoc, List.drop_append, e1, show o - (o + k) = 0 by omega, List.drop_zero, List.drop_take, show o + k - o = k by omega]
 rw [e2, ← List.append_assoc]
 have e3 : ((cs.drop o).take k ++ xs).length = k + m := by rw [List.length_append, List.length_take, List.length_drop, hx]; omega
 rw [← e3, List.take_left]
theorem splice_length (cs : List Value) (o : Nat) (xs : List Value) (h : o + xs.length ≤ cs.length) : (splice cs o xs).length = cs.length := by
 unfold splice
 rw [List.length_append, List.length_append, List.length_take, List.length_drop]; omega

/-- What an append leaves: the row is longer; it lies where it lay, or in a new block. -/
structure AppR (w : World) (te : TypeId) (s : Nat) (v : Value) (n m : Nat) (l xs : List Value) (v' : Value) (w' : World) : Prop where
 row : RW w' te s v' (n + m) (l ++ xs)
 kp : Kp (fun b => v.ownBlock = some b) w w'
 own : ∀ b, v'.ownBlock = some b → v.ownBlock = some b ∨ w.heap.size ≤ b

theorem run_appRW {P : Program} {t tx rt : TypeId} {i : TypeInfo} {z : Value} (ht : P.underlying t = some (.slice te)) (hi : P.info? te = some i) (hz : i.zero = some z) (hs : i.size = s) (hzs : z.cells.size = s) (h : RW w te s v n l) {x : Value} {m : Nat} {xs : List Value}
  (hx : Src P s tx x m xs w) (hm : 0 < m) (hb : (n + m) * i.bytes ≤ 140737488355328) (hn : n + m ≤ 140737488355328) :
  ∃ v' w', (Builtin.append_ #[t, tx] rt #[v, x]).run P w = .ok v' w' ∧ AppR w te s v n m l xs v' w' := by
 obtain ⟨A, c, rfl, hnc⟩ := h.form
 have hxl := hx.newsLen
 by_cases hroom : n + m ≤ c
 ·
  rcases h.2 with ⟨e, _⟩ | ⟨g, o, c', cs, e, hbl, h1, h2, h3, h4⟩
  ·
   cases e; omega
  ·
   cases e
   have hle : o + n * s + xs.length ≤ cs.length := by
    have : (n + m) * s ≤ c * s := Nat.mul_le_mul_right _ hroom
    rw [Nat.add_mul] at this
    omega
   obtain ⟨w', hr, hb', hk, hsz⟩ := run_storeCells (P := P) xs hx.one (o + n * s) xs.length 0 cs w (by omega) hbl hle
   rw [List.drop_zero] at hr hb'
   refine ⟨.slice (some ⟨g, o, none⟩) (n + m) c, w', ?_, ⟨⟨by rw [List.length_append, h.1, hxl, Nat.add_mul], .inr ⟨g, o, c, _, rfl, hb', hroom, h2, ?_, ?_⟩⟩, ⟨hk.os, hk.tape, hk.output, hk.size, fun j hj hn' => hk.block j hj (fun e => hn' (by subst e; rfl))⟩, fun b hb => .inl hb⟩⟩
   ·
    rcases hx.kind with ⟨e', hk'⟩ | hk' <;> simp [Builtin.append_, run_underlying ht, run_underlying hk', sizeOf, typeInfo, hi, hs, hx.len, hroom, hx.cells, Addr.add_lit, hr, Result.andThen]
   ·
    have e9 : (splice cs (o + n * s) xs).length = cs.length := splice_length _ _ _ hle
    rw [Nat.add_zero]
    exact Nat.le_trans h3 (Nat.le_of_eq e9.symm)
   ·
    rw [Nat.add_mul, ← hxl]
    have := splice_row cs o (n * s) xs.length xs rfl (by omega)
    rw [h4] at this
    exact this
 ·
  have hg : c < n + m := by omega
  have hf : (Builtin.firstCells i.size n (.slice A n c)).run P w.drew = .ok l.toArray w.drew := by rw [hs]; exact RW.firstCells h.drew
  have hx' : Src P i.size tx x m xs w := by rw [hs]; exact hx
  have hr := run_append_grow_src (P := P) w t tx rt te i z ht hi hz A n c l hf x m xs hx' hg (by omega) (growslice_fits hg hb)
  have hge := grownCap_ge w (n + m) c te
  have hcm : grownCap w (n + m) c te ≤ maxLen := grownCap_le_maxLen w (n + m) c te (by simp only [maxLen]; omega)
  have hlx : (l ++ xs).length = (n + m) * s := by rw [List.length_append, h.1, hxl, Nat.add_mul]
  refine ⟨_, _, hr, ⟨⟨hlx, .inr ⟨w.heap.size, 0, _, ((l ++ xs).toArray ++ Builtin.zeroCells z.cells (grownCap w (n + m) c te - (n + m))).toList, rfl, ?_, hge, hcm, ?_, ?_⟩⟩, Kp.of_below (((Below.refl _ _).drew).alloc (Nat.le_refl _) _), fun b hb => .inr (by cases hb; exact Nat.le_refl _)⟩⟩
  ·
   exact BL.new w.drew te _
  ·
   rw [Array.toList_append, List.length_append, hlx, Array.length_toList, size_zeroCells, hzs, Nat.zero_add, ← Nat.add_mul]
   exact Nat.le_of_eq (by congr 1; omega)
  ·
   rw [List.drop_zero, Array.toList_append, ← hlx]
   exact List.take_left
end

section
variable {P : Program} (w : World) {ops : Array Oper} {rest : List Oper} {o : Oper} {a : Act} {Q : Exit → Act → World → Prop}
/-- append(r, x), x boxed in a slice of one. -/
theorem wpList_appRW (hg : o.guard = none) (sl x : Operand) (t te : TypeId) (s : Nat) (i : TypeInfo) (z : Value) (hop : o.op = .call { callee := .builtin .append, args := #[sl, x], argTypes := #[t, t] })
  (ht : P.underlying t = some (.slice te)) (hi : P.info? te = some i) (hz : i.zero = some z) (hs : i.size = s) (hzs : z.cells.size = s) (v : Value) (n : Nat) (l : List Value) (hv : a.eval sl = v) (h : RW w te s v n l)
  (g : Nat) (xs : List Value) (hx : a.eval x = .slice (some ⟨g, 0, none⟩) 1 1) (hbl : BL w g te xs) (hxl : xs.length = s) (h1 : ∀ u ∈ xs, u.oneCell' = true) (hb : (n + 1) * i.bytes ≤ 140737488355328) (hn : n + 1 ≤ 140737488355328)
  (hK : ∀ v' w', AppR w te s v n 1 l xs v' w' → wpList P ops Q rest (a.put o.dst v') w') : wpList P ops Q (o :: rest) a w :=
 wpList_plain hg fun K hK' => by
  have hrow : RW w te s (.slice (some ⟨g, 0, none⟩) 1 1) 1 xs := RW.of_blk hbl (by omega) (by decide)
  have hsrc : Src P s t (.slice (some ⟨g, 0, none⟩) 1 1) 1 xs w := ⟨.inl ⟨_, ht⟩, fun _ => rfl, hrow.firstCells, RW.firstCells hrow.drew, by omega, h1⟩
  obtain ⟨v', w', hr, h2⟩ := run_appRW (rt := o.type) ht hi hz hs hzs h hsrc (by decide) hb hn
  unfold Oper.wp execOp
  simp only [hop, resolve, invoke, builtin, Sem.run_bind, Sem.run_pure, Result.andThen_ok, List.map_toArray, List.map_cons, List.map_nil, hv, hx, hr]
  exact hK' _ _ (hK v' w' h2)
/-- r[1:]. -/
theorem wpList_cutRW (hg : o.guard = none) (sl lo : Operand) (t te : TypeId) (s : Nat) (hop : o.op = .slice t sl (some lo) none none) (ht : P.underlying t = some (.slice te)) (hs : (sizeOf te).run P w = .ok s w)
  (v : Value) (n : Nat) (l : List Value) (hv : a.eval sl = v) (h : RW w te s v n l) (hlo : a.eval lo = .int .i64 1) (hn : 0 < n)
  (hK : ∀ v', RW w te s v' (n - 1) (l.drop s) → v'.ownBlock = v.ownBlock → wpList P ops Q rest (a.put o.dst v') w) : wpList P ops Q (o :: rest) a w :=
 wpList_plain hg fun K hK' => by
  rcases h.2 with ⟨_, h0⟩ | ⟨g, p, c, cs, rfl, hb, h1, h2, h3, h4⟩
  ·
   omega
  ·
   have e : (n - 1) * s = n * s - s := by rw [Nat.sub_mul, Nat.one_mul]
   have hsn : s ≤ n * s := Nat.le_mul_of_pos_left _ hn
   have hsc : s ≤ c * s := Nat.le_mul_of_pos_left _ (by omega)
   have e2 : (c - 1) * s = c * s - s := by rw [Nat.sub_mul, Nat.one_mul]
   have hd : ((cs.drop (p + s)).take ((n - 1) * s)) = l.drop s := by
    rw [← h4, List.drop_take, List.drop_drop, e]
   unfold Oper.wp execOp
   simp only [hop, Option.map_some, Option.map_none, hv, hlo]
   by_cases hc : c = 1
   ·
    subst hc
    obtain rfl : n = 1 := by omega
    simp [Instr.sliceAt, Instr.slice, run_underlying ht, Instr.sliceBounds, Instr.sliceBound, asIntOf, hs, Result.andThen]
    refine hK' _ _ (hK _ ⟨by rw [List.length_drop, h.1]; simp, .inr ⟨g, p, 0, cs, rfl, hb, Nat.le_refl _, by decide, by omega, ?_⟩⟩ rfl)
    have h0 : l.drop s = [] := List.drop_eq_nil_of_le (by rw [h.1]; omega)
    rw [h0]
    simp
   ·
    simp [Instr.sliceAt, Instr.slice, run_underlying ht, Instr.sliceBounds, Instr.sliceBound, asIntOf, hs, Result.andThen, addr_add, hc, show (1 : Int) ≤ (n : Int) by omega]
    refine hK' _ _ (hK _ ⟨by rw [List.length_drop, h.1, e], .inr ⟨g, p + s, c - 1, cs, rfl, hb, by omega, by omega, by omega, hd⟩⟩ rfl)
end
end Go.Proofs.YtheijpjfpaghfaaGreatDoor
/- Purses with at most one piece: what lies in memory; stock.size, Left, New. -/
namespace Go.Proofs.YtheijpjfpaghfaaGreatDoor
open Go Go.RowKit Gf

section
variable {P : Program} {w : World} {o : Oper} {a : Act} {Q : Exit → Act → World → Prop} {K : Act → World → Prop}
theorem wp_look (m x : Operand) (t k e : TypeId) (hop : o.op = .lookup t m x false) (Kd : Go.Maps.Keyed P k) (ht : P.underlying t = some (.map k e)) (z : Value) (hz : (P.info? e).map (·.zero) = some (some z))
  (b : Nat) (L : List (Value × Value)) (hm : a.eval m = .map (some b)) (hb : MB P k w b L) (xv : Value) (hx : a.eval x = xv) (hk : ∃ lx, keyOf P k xv = some lx)
  (h : ∀ v f, Found L xv z v f → K (a.put o.dst v) w) : o.wp P a w K Q := by
 obtain ⟨lx, hlx⟩ := hk
 obtain ⟨v, f, hf, hr⟩ := hb.look Kd ht hz hlx false
 unfold Oper.wp execOp
 simp only [hop, hm, hx]
 simp [hr, Result.andThen]
 exact h v f hf
theorem wp_upd (m x v : Operand) (t k e : TypeId) (hop : o.op = .mapUpdate t m x v) (Kd : Go.Maps.Keyed P k) (ht : P.underlying t = some (.map k e))
  (b : Nat) (L : List (Value × Value)) (hm : a.eval m = .map (some b)) (hb : MB P k w b L) (xv vv : Value) (hx : a.eval x = xv) (hv : a.eval v = vv) (hk : ∃ lx, keyOf P k xv = some lx)
  (h : ∀ w' L', Stored L xv vv L' → MB P k w' b L' → Kp (· = b) w w' → w'.heap.size = w.heap.size → K (a.put o.dst undef) w') : o.wp P a w K Q := by
 obtain ⟨lx, hlx⟩ := hk
 obtain ⟨w', L', hs, hr, h1, h2, h3⟩ := hb.store Kd ht hlx vv
 unfold Oper.wp execOp
 simp only [hop, hm, hx, hv]
 simp [hr, Result.andThen]
 exact h w' L' hs h1 h2 h3
end

/-- A secret: a nonce and an answer. -/
abbrev Sc := List UInt8 × List UInt8
def scC (x : Sc) : List Value := [.string (strB x.1), .string (strB x.2)]
theorem scC_length (x : Sc) : (scC x).length = 2 := rfl
theorem scC_one (x : Sc) : ∀ v ∈ scC x, v.oneCell' = true := by
 intro v hv
 simp only [scC, List.mem_cons, List.not_mem_nil, or_false] at hv
 rcases hv with rfl | rfl <;> rfl
def usC (x : List UInt8) : Value := .string (strB x)
def nilV : Value := .slice none 0 0
def pidV (s : List UInt8) (i : Int) : Value := .agg #[.string (strB s), .int .i64 i]
def stV (tv uv : Value) : Value := .agg #[tv, uv]
/-- A stock. -/
structure Stk (w : World) (tv uv : Value) (tk : List Sc) (us : List (List UInt8)) : Prop where
 t : RW w 109 2 tv tk.length (tk.flatMap scC)
 u : RW w 9 1 uv us.length (us.map usC)
 bt : tk.length ≤ 100000
 bu : us.length ≤ 100000
/-- A purse with at most the piece (s, i). -/
structure PQ (w : World) (gp gm : Nat) (s : List UInt8) (i : Int) (tv uv : Value) (tk : List Sc) (us : List (List UInt8)) : Prop where
 p : BL w gp 94 [.map (some gm)]
 st : Stk w tv uv tk us
 m : ∃ L, MB Tryz.prog 39 w gm L ∧ ((L = [] ∧ tv = nilV ∧ uv = nilV) ∨ L = [(pidV s i, stV tv uv)])
/-- The blocks that a purse turns. -/
def PB (gm : Nat) (tv uv : Value) (b : Nat) : Prop := b = gm ∨ tv.ownBlock = some b ∨ uv.ownBlock = some b

section
variable {w w' : World} {gp gm : Nat} {s : List UInt8} {i : Int} {tv uv : Value} {tk : List Sc} {us : List (List UInt8)}
theorem Stk.kept (h : Stk w tv uv tk us) (hb : Below w.heap.size w w') : Stk w' tv uv tk us := ⟨h.t.kept hb, h.u.kept hb, h.bt, h.bu⟩
theorem PQ.kept (h : PQ w gp gm s i tv uv tk us) (hb : Below w.heap.size w w') : PQ w' gp gm s i tv uv tk us :=
 ⟨h.p.kept hb, h.st.kept hb, let ⟨L, h1, h2⟩ := h.m; ⟨L, h1.kept hb, h2⟩⟩
theorem PQ.drew (h : PQ w gp gm s i tv uv tk us) : PQ w.drew gp gm s i tv uv tk us := ⟨h.p, ⟨h.st.t, h.st.u, h.st.bt, h.st.bu⟩, h.m⟩
theorem PQ.kp {S : Nat → Prop} (h : PQ w gp gm s i tv uv tk us) (hk : Kp S w w') (hp : ¬ S gp) (hn : ∀ b, PB gm tv uv b → ¬ S b) : PQ w' gp gm s i tv uv tk us :=
 ⟨h.p.kp hk hp, ⟨h.st.t.kp hk (fun b hb => hn b (.inr (.inl hb))), h.st.u.kp hk (fun b hb => hn b (.inr (.inr hb))), h.st.bt, h.st.bu⟩, let ⟨L, h1, h2⟩ := h.m; ⟨L, h1.kp hk (hn gm (.inl rfl)), h2⟩⟩
theorem PQ.lt (h : PQ w gp gm s i tv uv tk us) {b : Nat} (hb : PB gm tv uv b) : b < w.heap.size := by
 rcases hb with rfl | hb | hb
 ·
  obtain ⟨L, h1, _⟩ := h.m; exact h1.lt
 ·
  exact h.st.t.lt hb
 ·
  exact h.st.u.lt hb
theorem PQ.found {L : List (Value × Value)} {v : Value} {f : Bool} (h : (L = [] ∧ tv = nilV ∧ uv = nilV) ∨ L = [(pidV s i, stV tv uv)]) (hf : Found L (pidV s i) (stV nilV nilV) v f) : v = stV tv uv := by
 rcases h with ⟨rfl, rfl, rfl⟩ | rfl
 ·
  cases hf with
  | yes j v h => simp at h
  | no h => rfl
 ·
  cases hf with
  | yes j v h =>
   cases j with
   | zero => simp only [List.getElem?_cons_zero, Option.some.injEq, Prod.mk.injEq] at h; exact h.2.symm
   | succ j => simp at h
  | no h => exact absurd rfl (h _ (List.mem_singleton_self _))
theorem PQ.stored {L L' : List (Value × Value)} {v : Value} (h : (L = [] ∧ tv = nilV ∧ uv = nilV) ∨ L = [(pidV s i, stV tv uv)]) (hf : Stored L (pidV s i) v L') : L' = [(pidV s i, v)] := by
 rcases h with ⟨rfl, rfl, rfl⟩ | rfl
 ·
  cases hf with
  | old j v h => simp at h
  | new h => rfl
 ·
  cases hf with
  | old j u h =>
   cases j with
   | zero => rfl
   | succ j => simp at h
  | new h => exact absurd rfl (h _ (List.mem_singleton_self _))
end
theorem stZero : (Tryz.prog.info? 80).map (·.zero) = some (some (stV nilV nilV)) := by kernel_rfl
theorem stMap : Tryz.prog.underlying 92 = some (.map 39 80) := by kernel_rfl

theorem stsize_any (w : World) (tv uv : Value) (tk : List Sc) (us : List (List UInt8)) (h : Stk w tv uv tk us) :
  Calls Tryz.prog 34 #[stV tv uv] w fun e w' => e = .returned (.int .i64 ((tk.length + us.length : Nat) : Int)) ∧ Below w.heap.size w w' := by
 obtain ⟨At, ct, rfl, _⟩ := h.t.form
 obtain ⟨Au, cu, rfl, _⟩ := h.u.form
 have ht := h.bt
 have hu := h.bu
 obtain ⟨nt, hnt⟩ : ∃ nt, nt = tk.length := ⟨_, rfl⟩
 obtain ⟨nu, hnu⟩ : ∃ nu, nu = us.length := ⟨_, rfl⟩
 rw [← hnt] at ht ⊢
 rw [← hnu] at hu ⊢
 have hnn : (nt : Int) + (nu : Int) ≤ 200000 := by omega
 clear h hnt hnu
 go_enter Tryz.func34, Tryz.ntmps34
 go_wp2_with (first
  | ((with_reducible show OpW 1); refine wpList_box _ rfl 80 (.tmp 0) rfl [.slice At nt ct, .slice Au nu cu] rfl ?_; intro w1 a1 a2 a3; have q0 := a1.get (j := 0) rfl; have q1 := a1.get (j := 1) rfl; have HB1 := Lib.hid a2; have HZ1 := Lib.hid a3; clear a1 a2 a3))
 go_ret
 exact ⟨by go_num, HB1.out⟩

set_option maxRecDepth 100000 in
theorem left_any (w : World) (gp gm : Nat) (s : List UInt8) (i : Int) (tv uv : Value) (tk : List Sc) (us : List (List UInt8)) (h : PQ w gp gm s i tv uv tk us) (hs : s.length ≤ 9223372036854775807) (hi : (Lit.int .i64 i).wf = true) :
  Calls Tryz.prog 19 #[.pointer (some ⟨gp, 0, none⟩), pidV s i] w fun e w' => e = .returned (.int .i64 (tk.length : Int)) ∧ Below w.heap.size w w' := by
 have HP := Lib.hid h
 obtain ⟨L, hm, hL⟩ := h.m
 have HM := Lib.hid hm
 have HL := Lib.hid hL
 have HK := Lib.hid (keyPid s i hs hi)
 obtain ⟨At, ct, et, _⟩ := h.st.t.form
 clear h hm hL hs hi
 go_enter Tryz.func19, Tryz.ntmps19
 go_wp2_with (first
  | ((with_reducible show OpW 3); refine wpList_box _ rfl 39 (.tmp 1) rfl [.string (strB s), .int .i64 i] rfl ?_; intro w1 a1 a2 a3; have HQ := Lib.hid a1; have HB1 := Lib.hid a2; clear a1 a2 a3))
 have HP1 := Lib.hid (HP.out.kept HB1.out)
 have HM1 := Lib.hid (HM.out.kept HB1.out)
 refine Text.wp_region_text (fun w' => w'.cell? ⟨gp, 0, none⟩ = some (.map (some gm))) [(0, 4), (1, 4), (2, 4), (3, 0), (4, 2), (5, 2), (6, 4), (7, 4), (8, 4)] (by kernel_rfl) (by kernel_rfl) (fun _ _ _ _ _ h => h) (HP1.out.p.get (j := 0) rfl) ?_
 iterate 3 (refine Text.purek rfl rfl (fun K hK => ⟨_, fun w' => by go_simp <;> rfl, ?_⟩); go_simp; refine hK _ ?_; clear hK K)
 (refine Text.heldk rfl rfl (fun K hK => ⟨_, fun w' hw' => by go_simp <;> rfl, ?_⟩); go_simp; refine hK _ ?_; clear hK K)
 refine Text.eff rfl rfl (fun K hK => ?_)
 refine wp_loadv 39 (.tmp 3) rfl 2 (by kernel_rfl) w.heap.size 0 [.string (strB s), .int .i64 i] rfl (BL.all HQ.out.drew) rfl ?_
 refine hK _ _ (HP1.out.p.get (j := 0) rfl) ?_
 clear hK K
 refine Text.eff rfl rfl (fun K hK => ?_)
 refine wp_look (.tmp 8) (.tmp 9) 92 39 80 rfl pidKeyed stMap (stV nilV nilV) stZero gm L rfl HM1.out.drew (pidV s i) rfl HK.out ?_
 intro v f hf
 obtain rfl := PQ.found HL.out hf
 refine hK _ _ (HP1.out.p.get (j := 0) rfl) ?_
 clear hK K hf
 subst et
 iterate 3 (refine Text.purek rfl rfl (fun K hK => ⟨_, fun w' => by go_simp <;> rfl, ?_⟩); go_simp; refine hK _ ?_; clear hK K)
 refine Text.done ?_
 go_wp2_with fail
 go_ret
 exact ⟨rfl, HB1.out.drew⟩

theorem purse_new (w : World) (s : List UInt8) (i : Int) : Calls Tryz.prog 10 #[] w fun e w' => ∃ gp gm, e = .returned (.pointer (some ⟨gp, 0, none⟩)) ∧ PQ w' gp gm s i nilV nilV [] [] ∧ Below w.heap.size w w' ∧ w.heap.size ≤ gp ∧ w.heap.size ≤ gm := by
 go_enter Tryz.func10, Tryz.ntmps10
 go_wp2_with (first
  | ((with_reducible show OpW 1); refine wpList_makeMap _ rfl 92 39 rfl ?_; intro w1 a1 a2 a3; have HM1 := Lib.hid a1; have HB1 := Lib.hid a2; have HZ1 := Lib.hid a3; clear a1 a2 a3)
  | ((with_reducible show OpW 3); refine wpList_box _ rfl 94 (.tmp 2) rfl [.map (some w.heap.size)] rfl ?_; intro w2 a1 a2 a3; have HP2 := Lib.hid a1; have HB2 := Lib.hid (below_then HB1.out (a2.mono (Nat.le_refl _))); have HM2 := Lib.hid (HM1.out.kept a2); clear a1 a2 a3))
 go_ret
 exact ⟨w1.heap.size, w.heap.size, rfl, ⟨HP2.out, ⟨RW.nil _ _ _, RW.nil _ _ _, by decide, by decide⟩, [], HM2.out, .inl ⟨rfl, rfl, rfl⟩⟩, HB2.out, HB1.out.size, Nat.le_refl _⟩
end Go.Proofs.YtheijpjfpaghfaaGreatDoor
