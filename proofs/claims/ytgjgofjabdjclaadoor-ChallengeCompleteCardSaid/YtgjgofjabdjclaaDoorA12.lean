/- Several texts in one: Map, Ari2, Sp. -/
import Derived.Test.YtgjgofjabdjclaaDoorA3
import Derived.Maps.OwnSet
import Derived.Test.YtgjgofjabdjclaaDoorA8
import Derived.Test.YtgjgofjabdjclaaDoorA11
/- Maps of the call's own, as lists of keys with values; look-ups and stores as laws at the operation. Proved for any program. -/
namespace Go.Proofs.YtgjgofjabdjclaaDoor
open Go Go.RowKit Go.ChangeMaps Go.MapKept Gf
open Go.Maps (Keyed)

/-- Block b is a map with just the entries L. -/
def MB (P : Program) (k : TypeId) (w : World) (b : Nat) (L : List (Value × Value)) : Prop :=
  ∃ es clock, w.heap[b]? = some (.map es clock) ∧ Stamped es clock ∧ (∀ x ∈ es.toList, ∃ l, keyOf P k x.key = some l) ∧ es.toList.map (fun e => (e.key, e.val)) = L

section
variable {P : Program} {k : TypeId} {w w' : World} {b : Nat} {L : List (Value × Value)}
theorem MB.lt (h : MB P k w b L) : b < w.heap.size := by
  obtain ⟨es, clock, hb, _⟩ := h
  exact (Array.getElem?_eq_some_iff.1 hb).1
theorem MB.kept (h : MB P k w b L) (hb : Below w.heap.size w w') : MB P k w' b L := by
  have hl := h.lt
  obtain ⟨es, clock, h1, h2⟩ := h
  exact ⟨es, clock, (hb.block b hl).trans h1, h2⟩
theorem MB.kp {S : Nat → Prop} (h : MB P k w b L) (hb : Kp S w w') (hn : ¬ S b) : MB P k w' b L := by
  have hl := h.lt
  obtain ⟨es, clock, h1, h2⟩ := h
  exact ⟨es, clock, (hb.block b hl hn).trans h1, h2⟩
theorem MB.drew (h : MB P k w b L) : MB P k w.drew b L := h
theorem MB.drewN (h : MB P k w b L) (n : Nat) : MB P k (w.drewN n) b L := h
theorem MB.new (P : Program) (k : TypeId) (w : World) : MB P k (w.alloc (.map #[] 0)) w.heap.size [] :=
  ⟨#[], 0, (MapKept.heap_alloc w _).1, stamped_empty 0, by simp, rfl⟩
theorem MB.nodup (h : MB P k w b L) : (L.map (·.1)).Nodup := by
  obtain ⟨es, clock, _, h2, _, rfl⟩ := h
  rw [List.map_map]
  exact h2.2.2

theorem run_makeMap' (t : TypeId) (w : World) : (Instr.makeMap t none).run P w = .ok (.map (some w.heap.size)) (w.alloc (.map #[] 0)) := rfl

/-- The value of a key, the zero value where there is none. -/
inductive Found (L : List (Value × Value)) (x z : Value) : Value → Bool → Prop
  | yes (i : Nat) (v : Value) (h : L[i]? = some (x, v)) : Found L x z v true
  | no (h : ∀ p ∈ L, p.1 ≠ x) : Found L x z z false

theorem MB.look {t e : TypeId} (h : MB P k w b L) (K : Keyed P k) (ht : P.underlying t = some (.map k e)) {z : Value} (hz : (P.info? e).map (·.zero) = some (some z)) {x : Value} {lx : Lit} (hx : keyOf P k x = some lx) (c : Bool) :
    ∃ v f, Found L x z v f ∧ (Instr.lookup t (.map (some b)) x c).run P w = .ok (if c then .tuple #[v, .bool f] else v) w := by
  obtain ⟨es, clock, hb, _, hk, rfl⟩ := h
  have hzv : (zeroValue e).run P w = .ok z w := by
    cases hi : P.info? e with
    | none => simp [hi] at hz
    | some i =>
      have hz' : i.zero = some z := by simpa [hi] using hz
      simp [zeroValue, typeInfo, hi, hz']
  rcases K.find w hx es.toList hk with ⟨f1, f2⟩ | ⟨j, e0, f1, f2, f3⟩
  · refine ⟨z, false, .no (by intro p hp; obtain ⟨y, hy, rfl⟩ := List.mem_map.1 hp; exact f2 y hy), ?_⟩
    simp [Instr.lookup, run_underlying ht, MapKept.run_getObj_map hb, K.check w _ hx, f1, hzv, Result.andThen]
  · refine ⟨e0.val, true, .yes j e0.val (by rw [List.getElem?_map, f2]; simp [f3]), ?_⟩
    simp [Instr.lookup, run_underlying ht, MapKept.run_getObj_map hb, K.check w _ hx, f1, Result.andThen]

/-- The list behind a store. -/
inductive Stored (L : List (Value × Value)) (x v : Value) : List (Value × Value) → Prop
  | old (i : Nat) (u : Value) (h : L[i]? = some (x, u)) : Stored L x v (L.set i (x, v))
  | new (h : ∀ p ∈ L, p.1 ≠ x) : Stored L x v (L ++ [(x, v)])

theorem MB.store {t e : TypeId} (h : MB P k w b L) (K : Keyed P k) (ht : P.underlying t = some (.map k e)) {x : Value} {lx : Lit} (hx : keyOf P k x = some lx) (v : Value) :
    ∃ w' L', Stored L x v L' ∧ (Instr.mapUpdate t (.map (some b)) x v).run P w = .ok () w' ∧ MB P k w' b L' ∧ Kp (· = b) w w' ∧ w'.heap.size = w.heap.size := by
  obtain ⟨es, clock, hb, hst, hk, rfl⟩ := h
  have kp : ∀ o, Kp (· = b) w (setBlock w b o) := fun o => ⟨rfl, rfl, rfl, by simp [setBlock], fun i _ hi => heap_setBlock_other hb o hi⟩
  rcases K.find w hx es.toList hk with ⟨f1, f2⟩ | ⟨j, e0, f1, f2, f3⟩
  · refine ⟨setBlock w b (.map (es.push { key := x, val := v, born := clock }) (clock + 1)), _, .new (by intro p hp; obtain ⟨y, hy, rfl⟩ := List.mem_map.1 hp; exact f2 y hy), ?_, ⟨_, _, heap_setBlock_same hb _, stamped_push hst (fun y hy => f2 y hy), ?_, ?_⟩, kp _, by simp [setBlock]⟩
    · simp [Instr.mapUpdate, run_underlying ht, MapKept.run_getObj_map hb, K.check w _ hx, f1, MapKept.run_setObj_map _ hb, Result.andThen, setBlock]
    · intro y hy
      simp only [Array.toList_push, List.mem_append, List.mem_singleton] at hy
      rcases hy with hy | rfl
      · exact hk y hy
      · exact ⟨lx, hx⟩
    · simp
  · have f2' : es[j]? = some e0 := by simpa using f2
    have hkey : ((es[j]?.map (·.key)).getD x) = x := by rw [f2']; simp [f3]
    refine ⟨setBlock w b (.map (es.modify j fun e => { e with key := x, val := v }) clock), _, .old j e0.val (by rw [List.getElem?_map, f2]; simp [f3]), ?_, ⟨_, _, heap_setBlock_same hb _, stamped_modify hst j _ (fun _ _ => rfl) (fun y _ hj => by rw [f2'] at hj; cases hj; exact f3.symm), ?_, ?_⟩, kp _, by simp [setBlock]⟩
    · simp only [Instr.mapUpdate, Sem.run_bind, run_underlying ht, MapKept.run_getObj_map hb, K.check w _ hx, f1, Result.andThen_ok, hkey, K.stays w hx, MapKept.run_setObj_map _ hb]
      rfl
    · intro y hy
      obtain ⟨i, hi, rfl⟩ := List.mem_iff_getElem.1 hy
      by_cases hij : j = i
      · subst hij
        refine ⟨lx, ?_⟩
        simp only [Array.length_toList, Array.size_modify] at hi
        simp [hx]
      · simp only [Array.length_toList, Array.size_modify] at hi
        have := hk es[i] (by simp)
        simpa [Array.getElem_modify, hij] using this
    · apply List.ext_getElem?
      intro i
      rw [List.getElem?_map, Array.getElem?_toList, Array.getElem?_modify, List.getElem?_set]
      by_cases hij : j = i
      · subst hij
        have hjs : j < es.size := (Array.getElem?_eq_some_iff.1 f2').1
        simp [hjs]
      · simp [hij]
end

section
variable {P : Program} (w : World) {ops : Array Oper} {rest : List Oper} {o : Oper} {a : Act} {Q : Exit → Act → World → Prop}
theorem wpList_makeMap (hg : o.guard = none) (t k : TypeId) (hop : o.op = .makeMap t none)
    (h : ∀ w', MB P k w' w.heap.size [] → Below w.heap.size w w' → w'.heap.size = w.heap.size + 1 → wpList P ops Q rest (a.put o.dst (.map (some w.heap.size))) w') : wpList P ops Q (o :: rest) a w :=
  wpList_plain hg fun K hK => by
    unfold Oper.wp execOp
    simp only [hop]
    simp [run_makeMap', Result.andThen]
    exact hK _ _ (h _ (MB.new P k w) ((Below.refl _ _).alloc (Nat.le_refl _) _) (by simp))
theorem wpList_look (hg : o.guard = none) (m x : Operand) (t k e : TypeId) (hop : o.op = .lookup t m x false) (K : Keyed P k) (ht : P.underlying t = some (.map k e)) (z : Value) (hz : (P.info? e).map (·.zero) = some (some z))
    (b : Nat) (L : List (Value × Value)) (hm : a.eval m = .map (some b)) (hb : MB P k w b L) (xv : Value) (hx : a.eval x = xv) (hk : ∃ lx, keyOf P k xv = some lx)
    (h : ∀ v f, Found L xv z v f → wpList P ops Q rest (a.put o.dst v) w) : wpList P ops Q (o :: rest) a w :=
  wpList_plain hg fun K' hK' => by
    obtain ⟨lx, hlx⟩ := hk
    obtain ⟨v, f, hf, hr⟩ := hb.look K ht hz hlx false
    unfold Oper.wp execOp
    simp only [hop, hm, hx]
    simp [hr, Result.andThen]
    exact hK' _ _ (h v f hf)
theorem wpList_lookok (hg : o.guard = none) (m x : Operand) (t k e : TypeId) (hop : o.op = .lookup t m x true) (K : Keyed P k) (ht : P.underlying t = some (.map k e)) (z : Value) (hz : (P.info? e).map (·.zero) = some (some z))
    (b : Nat) (L : List (Value × Value)) (hm : a.eval m = .map (some b)) (hb : MB P k w b L) (xv : Value) (hx : a.eval x = xv) (hk : ∃ lx, keyOf P k xv = some lx)
    (h : ∀ v f, Found L xv z v f → wpList P ops Q rest (a.put o.dst (.tuple #[v, .bool f])) w) : wpList P ops Q (o :: rest) a w :=
  wpList_plain hg fun K' hK' => by
    obtain ⟨lx, hlx⟩ := hk
    obtain ⟨v, f, hf, hr⟩ := hb.look K ht hz hlx true
    unfold Oper.wp execOp
    simp only [hop, hm, hx]
    simp [hr, Result.andThen]
    exact hK' _ _ (h v f hf)
theorem wpList_upd (hg : o.guard = none) (m x v : Operand) (t k e : TypeId) (hop : o.op = .mapUpdate t m x v) (K : Keyed P k) (ht : P.underlying t = some (.map k e))
    (b : Nat) (L : List (Value × Value)) (hm : a.eval m = .map (some b)) (hb : MB P k w b L) (xv vv : Value) (hx : a.eval x = xv) (hv : a.eval v = vv) (hk : ∃ lx, keyOf P k xv = some lx)
    (h : ∀ w' L', Stored L xv vv L' → MB P k w' b L' → Kp (· = b) w w' → w'.heap.size = w.heap.size → wpList P ops Q rest (a.put o.dst undef) w') : wpList P ops Q (o :: rest) a w :=
  wpList_plain hg fun K' hK' => by
    obtain ⟨lx, hlx⟩ := hk
    obtain ⟨w', L', hs, hr, h1, h2, h3⟩ := hb.store K ht hlx vv
    unfold Oper.wp execOp
    simp only [hop, hm, hx, hv]
    simp [hr, Result.andThen]
    exact hK' _ _ (h w' L' hs h1 h2 h3)
end
end Go.Proofs.YtgjgofjabdjclaaDoor
/- More operations on numbers that are casts of naturals; a byte of a string. Proved for any program. -/
namespace Go.Proofs.YtgjgofjabdjclaaDoor
open Go Go.RowKit Gf

section
variable {P : Program} (w : World) {ops : Array Oper} {rest : List Oper} {o : Oper} {a : Act} {Q : Exit → Act → World → Prop}
theorem wrapU (n : Nat) (h : n < 18446744073709551616) : IntKind.u64.wrap (n : Int) = (n : Int) := by
  show (n : Int) % 18446744073709551616 = _; omega
/-- x << s. -/
theorem wpList_shlN (hg : o.guard = none) (x y : Operand) (t t2 : TypeId) (hop : o.op = .binOp .shl t x y t2) (ky : IntKind) (X s : Nat) (zx zy : Int) (hx : a.eval x = .int .u64 zx) (hy : a.eval y = .int ky zy) (hX : zx = (X : Int)) (hs : zy = (s : Int)) (hs64 : s ≤ 64) (hb : X * 2 ^ s < 18446744073709551616)
    (h : wpList P ops Q rest (a.put o.dst (.int .u64 ((X * 2 ^ s : Nat) : Int))) w) : wpList P ops Q (o :: rest) a w :=
  wpList_plain hg fun K hK => by
    subst hX hs
    have e : ∀ w', (binOp .shl t (.int .u64 (X : Int)) (.int ky (s : Int))).run P w' = .ok (.int .u64 ((X * 2 ^ s : Nat) : Int)) w' := fun w' => by
      have e3 : (X : Int) * 2 ^ min (s : Int).toNat IntKind.u64.bits = ((X * 2 ^ s : Nat) : Int) := by
        rw [Int.toNat_natCast, Nat.min_eq_left (by show s ≤ 64; exact hs64), Int.natCast_mul, Int.natCast_pow]; rfl
      show (Op.shift .shl .u64 (X : Int) ky (s : Int)).run P w' = _
      unfold Op.shift
      rw [if_neg (by omega)]
      show Result.ok (Value.int IntKind.u64 (IntKind.u64.wrap _)) w' = _
      rw [e3, wrapU _ hb]
    unfold Oper.wp execOp
    simp only [hop, hx, hy]
    simp [eqGuard, Result.andThen, e]
    exact hK _ _ (by simpa using h)
/-- x | y. -/
theorem wpList_orN (hg : o.guard = none) (x y : Operand) (t t2 : TypeId) (hop : o.op = .binOp .or t x y t2) (X Y : Nat) (zx zy : Int) (hx : a.eval x = .int .u64 zx) (hy : a.eval y = .int .u64 zy) (hX : zx = (X : Int)) (hY : zy = (Y : Int)) (hXb : X < 18446744073709551616) (hYb : Y < 18446744073709551616)
    (h : wpList P ops Q rest (a.put o.dst (.int .u64 ((X ||| Y : Nat) : Int))) w) : wpList P ops Q (o :: rest) a w :=
  wpList_plain hg fun K hK => by
    subst hX hY
    have e : ∀ w', (binOp .or t (.int .u64 (X : Int)) (.int .u64 (Y : Int))).run P w' = .ok (.int .u64 ((X ||| Y : Nat) : Int)) w' := fun w' => by
      have e2 := u64_or_nat X Y hXb hYb
      show Result.ok (Value.int IntKind.u64 (bits .or .u64 (X : Int) (Y : Int))) w' = _
      rw [e2]
    unfold Oper.wp execOp
    simp only [hop, hx, hy]
    simp [eqGuard, Result.andThen, e]
    exact hK _ _ (by simpa using h)
/-- x % y. -/
theorem wpList_remN (hg : o.guard = none) (x y : Operand) (t t2 : TypeId) (hop : o.op = .binOp .rem t x y t2) (X Y : Nat) (zx zy : Int) (hx : a.eval x = .int .u64 zx) (hy : a.eval y = .int .u64 zy) (hX : zx = (X : Int)) (hY : zy = (Y : Int)) (hY0 : 0 < Y)
    (h : wpList P ops Q rest (a.put o.dst (.int .u64 ((X % Y : Nat) : Int))) w) : wpList P ops Q (o :: rest) a w :=
  wpList_plain hg fun K hK => by
    subst hX hY
    have e : ∀ w', (binOp .rem t (.int .u64 (X : Int)) (.int .u64 (Y : Int))).run P w' = .ok (.int .u64 ((X % Y : Nat) : Int)) w' := fun w' => by
      have hne : ¬ Y = 0 := by omega
      show (Op.intDiv .rem .u64 (X : Int) (Y : Int)).run P w' = _
      unfold Op.intDiv
      simp [hne]
      exact Int.tmod_eq_emod_of_nonneg (by omega)
    unfold Oper.wp execOp
    simp only [hop, hx, hy]
    simp [eqGuard, Result.andThen, e]
    exact hK _ _ (by simpa using h)
/-- A number in another kind that holds it. -/
theorem wpList_convN (hg : o.guard = none) (x : Operand) (t t2 : TypeId) (hop : o.op = .convert t t2 x) (d : TypeDesc) (k k2 : IntKind) (ht : P.underlying t = some d) (ht2 : P.underlying t2 = some (.int k2)) (X : Nat) (zx : Int) (hx : a.eval x = .int k zx) (hX : zx = (X : Int)) (hw : k2.wrap (X : Int) = (X : Int))
    (h : wpList P ops Q rest (a.put o.dst (.int k2 (X : Int))) w) : wpList P ops Q (o :: rest) a w :=
  wpList_plain hg fun K hK => by
    subst hX
    unfold Oper.wp execOp
    simp only [hop, hx]
    simp [convert, run_underlying ht, run_underlying ht2, Conv.intToInt, Result.andThen, hw]
    exact hK _ _ h
/-- s[k]. -/
theorem wpList_idxS (hg : o.guard = none) (x y : Operand) (t : TypeId) (hop : o.op = .index t x y) (ht : P.underlying t = some .string) (l : List UInt8) (k : Nat) (zy : Int) (hx : a.eval x = .string (strB l)) (hy : a.eval y = .int .i64 zy) (hz : zy = (k : Int)) (hk : k < l.length)
    (h : wpList P ops Q rest (a.put o.dst (B (gB l k))) w) : wpList P ops Q (o :: rest) a w :=
  wpList_plain hg fun K hK => by
    subst hz
    have e : (strB l)[k]? = some (gB l k) := by
      have h1 : k < (strB l).size := hk
      rw [getElem?_pos (strB l) k h1, gB_eq hk]
      rfl
    unfold Oper.wp execOp
    simp only [hop, hx, hy]
    have hr : (Instr.index t (.string (strB l)) (.int .i64 (k : Int))).run P w = .ok (B (gB l k)) w := by
      unfold Instr.index
      rw [Sem.run_bind]
      simp only [asIntOf, Sem.run_pure, Result.andThen_ok, Sem.run_bind, run_underlying ht]
      rw [if_pos (by omega), Int.toNat_natCast, e]
      rfl
    simp [hr, Result.andThen]
    exact hK _ _ h
end
/-- A number out of bytes, the greatest first. -/
def beN (l : List UInt8) : Nat := l.foldl (fun v b => v * 256 + b.toNat) 0
theorem beN_snoc (l : List UInt8) (b : UInt8) : beN (l ++ [b]) = beN l * 256 + b.toNat := by simp [beN]
theorem beN_lt' (l : List UInt8) : ∀ v, l.foldl (fun v b => v * 256 + b.toNat) v < (v + 1) * 256 ^ l.length := by
  induction l with
  | nil => intro v; simp
  | cons b l ih =>
    intro v
    have h1 := ih (v * 256 + b.toNat)
    have h2 := b.toNat_lt
    rw [List.foldl_cons, List.length_cons, Nat.pow_succ]
    refine Nat.lt_of_lt_of_le h1 ?_
    rw [Nat.mul_comm (256 ^ l.length) 256, ← Nat.mul_assoc]
    exact Nat.mul_le_mul_right _ (by omega)
theorem beN_lt (l : List UInt8) : beN l < 256 ^ l.length := by
  have := beN_lt' l 0
  simpa [beN] using this
theorem or_low (x y : Nat) (h : y < 256) : x * 256 ||| y = x * 256 + y := by
  rw [Nat.mul_comm]
  exact (Nat.two_pow_add_eq_or_of_lt (i := 8) (by simpa using h) x).symm
end Go.Proofs.YtgjgofjabdjclaaDoor
/- The spots of a nonce: plain. -/
namespace Go.Proofs.YtgjgofjabdjclaaDoor
open Go Go.RowKit Gf Sha

/-- The number that the tag of i stands for. -/
def tgN (nonce : List UInt8) (i : Nat) : Nat := beN ((tagL nonce ([115, 112, 111, 116] ++ uv i)).take 8)
/-- The spots that were selected first, j of them, the first number being st. -/
def spK (nonce : List UInt8) (st : Nat) : Nat → List Nat
  | 0 => []
  | j + 1 => let l := spK nonce st j
    let t := tgN nonce (st + j) % (st + j + 1)
    l ++ [if l.contains t then st + j else t]
theorem spK_length (nonce : List UInt8) (st j : Nat) : (spK nonce st j).length = j := by
  induction j with
  | zero => rfl
  | succ j ih => simp [spK, ih]
theorem spK_lt (nonce : List UInt8) (st j : Nat) : ∀ x ∈ spK nonce st j, x < st + j := by
  induction j with
  | zero => intro x hx; simp [spK] at hx
  | succ j ih =>
    intro x hx
    simp only [spK, List.mem_append, List.mem_singleton] at hx
    rcases hx with hx | rfl
    · have := ih x hx; omega
    · split
      · omega
      · have := Nat.mod_lt (tgN nonce (st + j)) (show 0 < st + j + 1 by omega); omega
theorem spK_nodup (nonce : List UInt8) (st j : Nat) : (spK nonce st j).Nodup := by
  induction j with
  | zero => simp [spK]
  | succ j ih =>
    simp only [spK]
    rw [List.nodup_append]
    refine ⟨ih, by simp, ?_⟩
    intro x hx y hy
    rw [List.mem_singleton] at hy
    subst hy
    split
    · have := spK_lt nonce st j x hx; omega
    · rename_i h
      intro e
      subst e
      exact h (by simpa using hx)
def intsN (l : List Nat) : List Int := l.map fun (n : Nat) => (n : Int)
/-- The spots, ascending. -/
def spotsL (nonce : List UInt8) (b c : Nat) : List Int := (intsN (spK nonce (b - c) c)).mergeSort fun x y => decide (x ≤ y)
def spotB (nl : Nat) (b c : Int) : Bool := decide (nl = 32) && (decide (1 ≤ b) && (decide (b ≤ 1048576) && (decide (0 ≤ c) && (decide (c ≤ 64) && decide (c ≤ b)))))

/-- The map's entries. -/
def spE (l : List Nat) : List (Value × Value) := l.map fun (n : Nat) => (.int .i64 (n : Int), .bool true)
theorem spE_found {l : List Nat} {t : Nat} {v : Value} {f : Bool} (h : Found (spE l) (.int .i64 (t : Int)) (.bool false) v f) : v = .bool (l.contains t) := by
  cases h with
  | yes i v h =>
    unfold spE at h
    rw [List.getElem?_map] at h
    cases hl : l[i]? with
    | none => rw [hl] at h; cases h
    | some n =>
      rw [hl] at h
      simp only [Option.map_some, Option.some.injEq, Prod.mk.injEq, Value.int.injEq, true_and] at h
      obtain ⟨h1, rfl⟩ := h
      have e : n = t := by omega
      subst e
      rw [show l.contains n = true by simpa using List.mem_of_getElem? hl]
  | no h =>
    rw [show l.contains t = false by
      rw [Bool.eq_false_iff]
      intro hc
      have hm : t ∈ l := by simpa using hc
      exact h (.int .i64 (t : Int), .bool true) (List.mem_map.2 ⟨t, hm, rfl⟩) rfl]
theorem spE_stored {l : List Nat} {t : Nat} {L' : List (Value × Value)} (h : Stored (spE l) (.int .i64 (t : Int)) (.bool true) L') (hn : t ∉ l) : L' = spE (l ++ [t]) := by
  cases h with
  | old i u h =>
    exfalso
    have hm := List.mem_of_getElem? h
    obtain ⟨n, hn2, e⟩ := List.mem_map.1 hm
    simp only [Prod.mk.injEq, Value.int.injEq, true_and] at e
    have e1 : n = t := by omega
    subst e1
    exact hn hn2
  | new h => simp [spE]
theorem keyInt (t : Nat) (h : t < 9223372036854775808) : ∃ lx, keyOf Tryd.prog 3 (.int .i64 (t : Int)) = some lx :=
  ⟨_, Go.Maps.keyOf_int_mk Tryd.underlying3 (by simp [Lit.wf, IntKind.min, IntKind.max, IntKind.signed, IntKind.bits]; omega)⟩
end Go.Proofs.YtgjgofjabdjclaaDoor
