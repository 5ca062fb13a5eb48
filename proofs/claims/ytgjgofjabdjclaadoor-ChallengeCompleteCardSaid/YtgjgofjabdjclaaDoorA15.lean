/- Several texts in one: Pu0, Pu1, Pu2, Pu3. -/
import Derived.Test.YtgjgofjabdjclaaDoorA12
import Derived.Test.YtgjgofjabdjclaaDoorA11
import Derived.DeepKeys4
import Derived.Test.YtgjgofjabdjclaaDoorA14
import Derived.Test.YtgjgofjabdjclaaDoorA5
/- Piece IDs as keys of maps. -/
namespace Go.Proofs.YtgjgofjabdjclaaDoor
open Go Go.RowKit Go.WideMaps Gf
set_option maxRecDepth 100000

theorem laidOutT : laidOutB Tryd.prog = true := by kernel_rfl
theorem pidRow : (33 : TypeId) < Tryd.prog.types.size := of_decide_eq_true (by kernel_rfl)
theorem pidWide : (match Tryd.prog.underlying 33 with | some (.array _ _) | some (.struct _) => true | _ => false) = true := by kernel_rfl
theorem pidLaw : KeyLaw Tryd.prog 33 := deep_law_laid laidOutT (m := 2) (by omega) pidRow (by kernel_rfl) pidWide
theorem pidKeyed : Go.Maps.Keyed Tryd.prog 33 := Go.Maps.Keyed.of_law pidLaw
theorem strKeyed : Go.Maps.Keyed Tryd.prog 9 := Go.Maps.string_keyed Tryd.underlying9
theorem pidType : Tryd.prog.keyType 33 = true := by kernel_rfl
theorem keyPid (s : List UInt8) (i : Int) (hs : s.length ≤ 9223372036854775807) (hi : (Lit.int .i64 i).wf = true) : ∃ lx, keyOf Tryd.prog 33 (.agg #[.string (strB s), .int .i64 i]) = some lx := by
  have hc : Tryd.prog.cellsOf 33 = 2 := by kernel_rfl
  have hcs : Tryd.prog.cellsOf 9 = 1 := by kernel_rfl
  have hci : Tryd.prog.cellsOf 3 = 1 := by kernel_rfl
  have hm : (strB s).size ≤ maxLen := by rw [strB_size]; exact hs
  have hf : (Value.agg #[.string (strB s), .int .i64 i]).formed Tryd.prog 33 = true := by
    simp [Value.formed, Tryd.underlying33, hc]
  have hk : ∃ ls, Tryd.prog.keyLits (Tryd.prog.types.size + 1) 33 (Value.agg #[.string (strB s), .int .i64 i]).cells.toList = some ls := by
    obtain ⟨m, hm'⟩ : ∃ m, Tryd.prog.types.size = m + 1 := ⟨Tryd.prog.types.size - 1, by kernel_rfl⟩
    rw [hm']
    unfold Program.keyLits
    rw [Tryd.underlying33]
    simp only [Value.cells, hc]
    simp [Program.keyLits, Tryd.underlying9, Tryd.underlying3, hcs, hci, hm, hi]
  obtain ⟨ls, hk⟩ := hk
  exact ⟨.string (keyBytes ls), by
    unfold keyOf
    rw [Tryd.underlying33]
    simp only [pidType, hf, hk]
    rfl⟩
end Go.Proofs.YtgjgofjabdjclaaDoor
/- Slices in a block alone, from anywhere in it, of elements of many cells: append and cut. Proved for any program. -/
namespace Go.Proofs.YtgjgofjabdjclaaDoor
open Go Go.RowKit Gf

/-- v is a slice of n elements of s cells, its block whole from there on. -/
def RW (w : World) (te : TypeId) (s : Nat) (v : Value) (n : Nat) (l : List Value) : Prop :=
  l.length = n * s ∧ ((v = .slice none 0 0 ∧ n = 0) ∨ ∃ g o c cs, v = .slice (some ⟨g, o, none⟩) n c ∧ BL w g te cs ∧ n ≤ c ∧ c ≤ maxLen ∧ o + c * s ≤ cs.length ∧ (cs.drop o).take (n * s) = l)

section
variable {w w' : World} {te : TypeId} {s n : Nat} {v : Value} {l : List Value}
theorem RW.nil (w : World) (te : TypeId) (s : Nat) : RW w te s (.slice none 0 0) 0 [] := ⟨by simp, .inl ⟨rfl, rfl⟩⟩
theorem RW.kp {S : Nat → Prop} (h : RW w te s v n l) (hk : Kp S w w') (hn : ∀ b, v.ownBlock = some b → ¬ S b) : RW w' te s v n l := by
  refine ⟨h.1, ?_⟩
  rcases h.2 with h2 | ⟨g, o, c, cs, rfl, hb, r⟩
  · exact .inl h2
  · exact .inr ⟨g, o, c, cs, rfl, hb.kp hk (hn g rfl), r⟩
theorem RW.kept (h : RW w te s v n l) (hb : Below w.heap.size w w') : RW w' te s v n l := by
  refine ⟨h.1, ?_⟩
  rcases h.2 with h2 | ⟨g, o, c, cs, rfl, hb', r⟩
  · exact .inl h2
  · exact .inr ⟨g, o, c, cs, rfl, hb'.kept hb, r⟩
theorem RW.drew (h : RW w te s v n l) : RW w.drew te s v n l := h
theorem RW.lt (h : RW w te s v n l) {b : Nat} (hb : v.ownBlock = some b) : b < w.heap.size := by
  rcases h.2 with ⟨rfl, _⟩ | ⟨g, o, c, cs, rfl, hb', r⟩
  · cases hb
  · cases hb; exact hb'.lt
theorem RW.form (h : RW w te s v n l) : ∃ A c, v = .slice A n c ∧ n ≤ c := by
  rcases h.2 with ⟨rfl, rfl⟩ | ⟨g, o, c, cs, rfl, hb', hn, r⟩
  · exact ⟨none, 0, rfl, Nat.le_refl _⟩
  · exact ⟨_, c, rfl, hn⟩
theorem RW.at_ (h : RW w te s v n l) (hn : 0 < n) : ∃ g o c, v = .slice (some ⟨g, o, none⟩) n c ∧ n ≤ c ∧ At w g o l := by
  rcases h.2 with ⟨_, h0⟩ | ⟨g, o, c, cs, rfl, hb, h1, h2, h3, rfl⟩
  · omega
  · refine ⟨g, o, c, rfl, h1, fun j x hj => hb.get ?_⟩
    obtain ⟨hj1, _⟩ := List.getElem?_eq_some_iff.1 hj
    rw [List.getElem?_take_of_lt (by rw [List.length_take] at hj1; omega), List.getElem?_drop] at hj
    exact hj
theorem RW.of_blk {g : Nat} (h : BL w g te l) (hl : l.length = n * s) (hn : n ≤ maxLen) : RW w te s (.slice (some ⟨g, 0, none⟩) n n) n l :=
  ⟨hl, .inr ⟨g, 0, n, l, rfl, h, Nat.le_refl _, hn, by omega, by rw [List.drop_zero, ← hl, List.take_length]⟩⟩
theorem RW.firstCells {P : Program} {A : Option Addr} {c : Nat} (h : RW w te s (.slice A n c) n l) : (Builtin.firstCells s n (.slice A n c)).run P w = .ok l.toArray w := by
  rcases h.2 with ⟨e, h0⟩ | ⟨g, o, c', cs, e, hb, h1, h2, h3, h4⟩
  · cases e
    have hl : l = [] := List.eq_nil_of_length_eq_zero (by rw [h.1]; omega)
    subst hl
    simp [Builtin.firstCells]
  · cases e
    have ha : At w g o l := by
      subst h4
      intro j x hj
      obtain ⟨hj1, _⟩ := List.getElem?_eq_some_iff.1 hj
      rw [List.getElem?_take_of_lt (by rw [List.length_take] at hj1; omega), List.getElem?_drop] at hj
      exact hb.get hj
    have hl := run_loadCells_list (P := P) w ⟨g, o, none⟩ l (fun j x hj => by rw [addr_add]; exact ha j x hj)
    rw [h.1] at hl
    simp [Builtin.firstCells, hl]

theorem splice_row (cs : List Value) (o k m : Nat) (xs : List Value) (hx : xs.length = m) (h : o + (k + m) ≤ cs.length) : ((splice cs (o + k) xs).drop o).take (k + m) = (cs.drop o).take k ++ xs := by
  have e1 : (cs.take (o + k)).length = o + k := by rw [List.length_take]; omega
  have e2 : (splice cs (o + k) xs).drop o = (cs.drop o).take k ++ (xs ++ cs.drop (o + k + xs.length)) := by
    unfold splice
    rw [List.append_assoc, List.drop_append, e1, show o - (o + k) = 0 by omega, List.drop_zero, List.drop_take, show o + k - o = k by omega]
  rw [e2, ← List.append_assoc]
  have e3 : ((cs.drop o).take k ++ xs).length = k + m := by rw [List.length_append, List.length_take, List.length_drop, hx]; omega
  rw [← e3, List.take_left]
theorem splice_length (cs : List Value) (o : Nat) (xs : List Value) (h : o + xs.length ≤ cs.length) : (splice cs o xs).length = cs.length := by
  unfold splice
  rw [List.length_append, List.length_append, List.length_take, List.length_drop]; omega

/-- What an append leaves: the row is longer; it lies where it lay, or in a new block. -/
structure AppR (w : World) (te : TypeId) (s : Nat) (v : Value) (n m : Nat) (l xs : List Value) (v' : Value) (w' : World) : Prop where
  row : RW w' te s v' (n + m) (l ++ xs)
  kp : Kp (fun b => v.ownBlock = some b) w w'
  own : ∀ b, v'.ownBlock = some b → v.ownBlock = some b ∨ w.heap.size ≤ b

theorem run_appRW {P : Program} {t tx rt : TypeId} {i : TypeInfo} {z : Value} (ht : P.underlying t = some (.slice te)) (hi : P.info? te = some i) (hz : i.zero = some z) (hs : i.size = s) (hzs : z.cells.size = s) (h : RW w te s v n l) {x : Value} {m : Nat} {xs : List Value}
    (hx : Src P s tx x m xs w) (hm : 0 < m) (hb : (n + m) * i.bytes ≤ 140737488355328) (hn : n + m ≤ 140737488355328) :
    ∃ v' w', (Builtin.append_ #[t, tx] rt #[v, x]).run P w = .ok v' w' ∧ AppR w te s v n m l xs v' w' := by
  obtain ⟨A, c, rfl, hnc⟩ := h.form
  have hxl := hx.newsLen
  by_cases hroom : n + m ≤ c
  · rcases h.2 with ⟨e, _⟩ | ⟨g, o, c', cs, e, hbl, h1, h2, h3, h4⟩
    · cases e; omega
    · cases e
      have hle : o + n * s + xs.length ≤ cs.length := by
        have : (n + m) * s ≤ c * s := Nat.mul_le_mul_right _ hroom
        rw [Nat.add_mul] at this
        omega
      obtain ⟨w', hr, hb', hk, hsz⟩ := run_storeCells (P := P) xs hx.one (o + n * s) xs.length 0 cs w (by omega) hbl hle
      rw [List.drop_zero] at hr hb'
      refine ⟨.slice (some ⟨g, o, none⟩) (n + m) c, w', ?_, ⟨⟨by rw [List.length_append, h.1, hxl, Nat.add_mul], .inr ⟨g, o, c, _, rfl, hb', hroom, h2, ?_, ?_⟩⟩, ⟨hk.os, hk.tape, hk.output, hk.size, fun j hj hn' => hk.block j hj (fun e => hn' (by subst e; rfl))⟩, fun b hb => .inl hb⟩⟩
      · rcases hx.kind with ⟨e', hk'⟩ | hk' <;> simp [Builtin.append_, run_underlying ht, run_underlying hk', sizeOf, typeInfo, hi, hs, hx.len, hroom, hx.cells, Addr.add_lit, hr, Result.andThen]
      · have e9 : (splice cs (o + n * s) xs).length = cs.length := splice_length _ _ _ hle
        rw [Nat.add_zero]
        exact Nat.le_trans h3 (Nat.le_of_eq e9.symm)
      · rw [Nat.add_mul, ← hxl]
        have := splice_row cs o (n * s) xs.length xs rfl (by omega)
        rw [h4] at this
        exact this
  · have hg : c < n + m := by omega
    have hf : (Builtin.firstCells i.size n (.slice A n c)).run P w.drew = .ok l.toArray w.drew := by rw [hs]; exact RW.firstCells h.drew
    have hx' : Src P i.size tx x m xs w := by rw [hs]; exact hx
    have hr := run_append_grow_src (P := P) w t tx rt te i z ht hi hz A n c l hf x m xs hx' hg (by omega) (growslice_fits hg hb)
    have hge := grownCap_ge w (n + m) c te
    have hcm : grownCap w (n + m) c te ≤ maxLen := grownCap_le_maxLen w (n + m) c te (by simp only [maxLen]; omega)
    have hlx : (l ++ xs).length = (n + m) * s := by rw [List.length_append, h.1, hxl, Nat.add_mul]
    refine ⟨_, _, hr, ⟨⟨hlx, .inr ⟨w.heap.size, 0, _, ((l ++ xs).toArray ++ Builtin.zeroCells z.cells (grownCap w (n + m) c te - (n + m))).toList, rfl, ?_, hge, hcm, ?_, ?_⟩⟩, Kp.of_below (((Below.refl _ _).drew).alloc (Nat.le_refl _) _), fun b hb => .inr (by cases hb; exact Nat.le_refl _)⟩⟩
    · exact BL.new w.drew te _
    · rw [Array.toList_append, List.length_append, hlx, Array.length_toList, size_zeroCells, hzs, Nat.zero_add, ← Nat.add_mul]
      exact Nat.le_of_eq (by congr 1; omega)
    · rw [List.drop_zero, Array.toList_append, ← hlx]
      exact List.take_left
end

section
variable {P : Program} (w : World) {ops : Array Oper} {rest : List Oper} {o : Oper} {a : Act} {Q : Exit → Act → World → Prop}
/-- append(r, x), x boxed in a slice of one. -/
theorem wpList_appRW (hg : o.guard = none) (sl x : Operand) (t te : TypeId) (s : Nat) (i : TypeInfo) (z : Value) (hop : o.op = .call { callee := .builtin .append, args := #[sl, x], argTypes := #[t, t] })
    (ht : P.underlying t = some (.slice te)) (hi : P.info? te = some i) (hz : i.zero = some z) (hs : i.size = s) (hzs : z.cells.size = s) (v : Value) (n : Nat) (l : List Value) (hv : a.eval sl = v) (h : RW w te s v n l)
    (g : Nat) (xs : List Value) (hx : a.eval x = .slice (some ⟨g, 0, none⟩) 1 1) (hbl : BL w g te xs) (hxl : xs.length = s) (h1 : ∀ u ∈ xs, u.oneCell' = true) (hb : (n + 1) * i.bytes ≤ 140737488355328) (hn : n + 1 ≤ 140737488355328)
    (hK : ∀ v' w', AppR w te s v n 1 l xs v' w' → wpList P ops Q rest (a.put o.dst v') w') : wpList P ops Q (o :: rest) a w :=
  wpList_plain hg fun K hK' => by
    have hrow : RW w te s (.slice (some ⟨g, 0, none⟩) 1 1) 1 xs := RW.of_blk hbl (by omega) (by decide)
    have hsrc : Src P s t (.slice (some ⟨g, 0, none⟩) 1 1) 1 xs w := ⟨.inl ⟨_, ht⟩, fun _ => rfl, hrow.firstCells, RW.firstCells hrow.drew, by omega, h1⟩
    obtain ⟨v', w', hr, h2⟩ := run_appRW (rt := o.type) ht hi hz hs hzs h hsrc (by decide) hb hn
    unfold Oper.wp execOp
    simp only [hop, resolve, invoke, builtin, Sem.run_bind, Sem.run_pure, Result.andThen_ok, List.map_toArray, List.map_cons, List.map_nil, hv, hx, hr]
    exact hK' _ _ (hK v' w' h2)
/-- r[1:]. -/
theorem wpList_cutRW (hg : o.guard = none) (sl lo : Operand) (t te : TypeId) (s : Nat) (hop : o.op = .slice t sl (some lo) none none) (ht : P.underlying t = some (.slice te)) (hs : (sizeOf te).run P w = .ok s w)
    (v : Value) (n : Nat) (l : List Value) (hv : a.eval sl = v) (h : RW w te s v n l) (hlo : a.eval lo = .int .i64 1) (hn : 0 < n)
    (hK : ∀ v', RW w te s v' (n - 1) (l.drop s) → v'.ownBlock = v.ownBlock → wpList P ops Q rest (a.put o.dst v') w) : wpList P ops Q (o :: rest) a w :=
  wpList_plain hg fun K hK' => by
    rcases h.2 with ⟨_, h0⟩ | ⟨g, p, c, cs, rfl, hb, h1, h2, h3, h4⟩
    · omega
    · have e : (n - 1) * s = n * s - s := by rw [Nat.sub_mul, Nat.one_mul]
      have hsn : s ≤ n * s := Nat.le_mul_of_pos_left _ hn
      have hsc : s ≤ c * s := Nat.le_mul_of_pos_left _ (by omega)
      have e2 : (c - 1) * s = c * s - s := by rw [Nat.sub_mul, Nat.one_mul]
      have hd : ((cs.drop (p + s)).take ((n - 1) * s)) = l.drop s := by
        rw [← h4, List.drop_take, List.drop_drop, e]
      unfold Oper.wp execOp
      simp only [hop, Option.map_some, Option.map_none, hv, hlo]
      by_cases hc : c = 1
      · subst hc
        obtain rfl : n = 1 := by omega
        simp [Instr.sliceAt, Instr.slice, run_underlying ht, Instr.sliceBounds, Instr.sliceBound, asIntOf, hs, Result.andThen]
        refine hK' _ _ (hK _ ⟨by rw [List.length_drop, h.1]; simp, .inr ⟨g, p, 0, cs, rfl, hb, Nat.le_refl _, by decide, by omega, ?_⟩⟩ rfl)
        have h0 : l.drop s = [] := List.drop_eq_nil_of_le (by rw [h.1]; omega)
        rw [h0]
        simp
      · simp [Instr.sliceAt, Instr.slice, run_underlying ht, Instr.sliceBounds, Instr.sliceBound, asIntOf, hs, Result.andThen, addr_add, hc, show (1 : Int) ≤ (n : Int) by omega]
        refine hK' _ _ (hK _ ⟨by rw [List.length_drop, h.1, e], .inr ⟨g, p + s, c - 1, cs, rfl, hb, by omega, by omega, by omega, hd⟩⟩ rfl)
end
end Go.Proofs.YtgjgofjabdjclaaDoor
/- Purses with at most one piece: what lies in memory; stock.size, Left, New. -/
namespace Go.Proofs.YtgjgofjabdjclaaDoor
open Go Go.RowKit Gf

section
variable {P : Program} {w : World} {o : Oper} {a : Act} {Q : Exit → Act → World → Prop} {K : Act → World → Prop}
theorem wp_look (m x : Operand) (t k e : TypeId) (hop : o.op = .lookup t m x false) (Kd : Go.Maps.Keyed P k) (ht : P.underlying t = some (.map k e)) (z : Value) (hz : (P.info? e).map (·.zero) = some (some z))
    (b : Nat) (L : List (Value × Value)) (hm : a.eval m = .map (some b)) (hb : MB P k w b L) (xv : Value) (hx : a.eval x = xv) (hk : ∃ lx, keyOf P k xv = some lx)
    (h : ∀ v f, Found L xv z v f → K (a.put o.dst v) w) : o.wp P a w K Q := by
  obtain ⟨lx, hlx⟩ := hk
  obtain ⟨v, f, hf, hr⟩ := hb.look Kd ht hz hlx false
  unfold Oper.wp execOp
  simp only [hop, hm, hx]
  simp [hr, Result.andThen]
  exact h v f hf
theorem wp_upd (m x v : Operand) (t k e : TypeId) (hop : o.op = .mapUpdate t m x v) (Kd : Go.Maps.Keyed P k) (ht : P.underlying t = some (.map k e))
    (b : Nat) (L : List (Value × Value)) (hm : a.eval m = .map (some b)) (hb : MB P k w b L) (xv vv : Value) (hx : a.eval x = xv) (hv : a.eval v = vv) (hk : ∃ lx, keyOf P k xv = some lx)
    (h : ∀ w' L', Stored L xv vv L' → MB P k w' b L' → Kp (· = b) w w' → w'.heap.size = w.heap.size → K (a.put o.dst undef) w') : o.wp P a w K Q := by
  obtain ⟨lx, hlx⟩ := hk
  obtain ⟨w', L', hs, hr, h1, h2, h3⟩ := hb.store Kd ht hlx vv
  unfold Oper.wp execOp
  simp only [hop, hm, hx, hv]
  simp [hr, Result.andThen]
  exact h w' L' hs h1 h2 h3
end

/-- A secret: a nonce and an answer. -/
abbrev Sc := List UInt8 × List UInt8
def scC (x : Sc) : List Value := [.string (strB x.1), .string (strB x.2)]
theorem scC_length (x : Sc) : (scC x).length = 2 := rfl
theorem scC_one (x : Sc) : ∀ v ∈ scC x, v.oneCell' = true := by
  intro v hv
  simp only [scC, List.mem_cons, List.not_mem_nil, or_false] at hv
  rcases hv with rfl | rfl <;> rfl
def usC (x : List UInt8) : Value := .string (strB x)
def nilV : Value := .slice none 0 0
def pidV (s : List UInt8) (i : Int) : Value := .agg #[.string (strB s), .int .i64 i]
def stV (tv uv : Value) : Value := .agg #[tv, uv]
/-- A stock. -/
structure Stk (w : World) (tv uv : Value) (tk : List Sc) (us : List (List UInt8)) : Prop where
  t : RW w 102 2 tv tk.length (tk.flatMap scC)
  u : RW w 9 1 uv us.length (us.map usC)
  bt : tk.length ≤ 100000
  bu : us.length ≤ 100000
/-- A purse with at most the piece (s, i). -/
structure PQ (w : World) (gp gm : Nat) (s : List UInt8) (i : Int) (tv uv : Value) (tk : List Sc) (us : List (List UInt8)) : Prop where
  p : BL w gp 92 [.map (some gm)]
  st : Stk w tv uv tk us
  m : ∃ L, MB Tryd.prog 33 w gm L ∧ ((L = [] ∧ tv = nilV ∧ uv = nilV) ∨ L = [(pidV s i, stV tv uv)])
/-- The blocks that a purse turns. -/
def PB (gm : Nat) (tv uv : Value) (b : Nat) : Prop := b = gm ∨ tv.ownBlock = some b ∨ uv.ownBlock = some b

section
variable {w w' : World} {gp gm : Nat} {s : List UInt8} {i : Int} {tv uv : Value} {tk : List Sc} {us : List (List UInt8)}
theorem Stk.kept (h : Stk w tv uv tk us) (hb : Below w.heap.size w w') : Stk w' tv uv tk us := ⟨h.t.kept hb, h.u.kept hb, h.bt, h.bu⟩
theorem PQ.kept (h : PQ w gp gm s i tv uv tk us) (hb : Below w.heap.size w w') : PQ w' gp gm s i tv uv tk us :=
  ⟨h.p.kept hb, h.st.kept hb, let ⟨L, h1, h2⟩ := h.m; ⟨L, h1.kept hb, h2⟩⟩
theorem PQ.drew (h : PQ w gp gm s i tv uv tk us) : PQ w.drew gp gm s i tv uv tk us := ⟨h.p, ⟨h.st.t, h.st.u, h.st.bt, h.st.bu⟩, h.m⟩
theorem PQ.kp {S : Nat → Prop} (h : PQ w gp gm s i tv uv tk us) (hk : Kp S w w') (hp : ¬ S gp) (hn : ∀ b, PB gm tv uv b → ¬ S b) : PQ w' gp gm s i tv uv tk us :=
  ⟨h.p.kp hk hp, ⟨h.st.t.kp hk (fun b hb => hn b (.inr (.inl hb))), h.st.u.kp hk (fun b hb => hn b (.inr (.inr hb))), h.st.bt, h.st.bu⟩, let ⟨L, h1, h2⟩ := h.m; ⟨L, h1.kp hk (hn gm (.inl rfl)), h2⟩⟩
theorem PQ.lt (h : PQ w gp gm s i tv uv tk us) {b : Nat} (hb : PB gm tv uv b) : b < w.heap.size := by
  rcases hb with rfl | hb | hb
  · obtain ⟨L, h1, _⟩ := h.m; exact h1.lt
  · exact h.st.t.lt hb
  · exact h.st.u.lt hb
theorem PQ.found {L : List (Value × Value)} {v : Value} {f : Bool} (h : (L = [] ∧ tv = nilV ∧ uv = nilV) ∨ L = [(pidV s i, stV tv uv)]) (hf : Found L (pidV s i) (stV nilV nilV) v f) : v = stV tv uv := by
  rcases h with ⟨rfl, rfl, rfl⟩ | rfl
  · cases hf with
    | yes j v h => simp at h
    | no h => rfl
  · cases hf with
    | yes j v h =>
      cases j with
      | zero => simp only [List.getElem?_cons_zero, Option.some.injEq, Prod.mk.injEq] at h; exact h.2.symm
      | succ j => simp at h
    | no h => exact absurd rfl (h _ (List.mem_singleton_self _))
theorem PQ.stored {L L' : List (Value × Value)} {v : Value} (h : (L = [] ∧ tv = nilV ∧ uv = nilV) ∨ L = [(pidV s i, stV tv uv)]) (hf : Stored L (pidV s i) v L') : L' = [(pidV s i, v)] := by
  rcases h with ⟨rfl, rfl, rfl⟩ | rfl
  · cases hf with
    | old j v h => simp at h
    | new h => rfl
  · cases hf with
    | old j u h =>
      cases j with
      | zero => rfl
      | succ j => simp at h
    | new h => exact absurd rfl (h _ (List.mem_singleton_self _))
end
theorem stZero : (Tryd.prog.info? 98).map (·.zero) = some (some (stV nilV nilV)) := by kernel_rfl
theorem stMap : Tryd.prog.underlying 90 = some (.map 33 98) := by kernel_rfl

theorem stsize_any (w : World) (tv uv : Value) (tk : List Sc) (us : List (List UInt8)) (h : Stk w tv uv tk us) :
    Calls Tryd.prog 81 #[stV tv uv] w fun e w' => e = .returned (.int .i64 ((tk.length + us.length : Nat) : Int)) ∧ Below w.heap.size w w' := by
  obtain ⟨At, ct, rfl, _⟩ := h.t.form
  obtain ⟨Au, cu, rfl, _⟩ := h.u.form
  have ht := h.bt
  have hu := h.bu
  obtain ⟨nt, hnt⟩ : ∃ nt, nt = tk.length := ⟨_, rfl⟩
  obtain ⟨nu, hnu⟩ : ∃ nu, nu = us.length := ⟨_, rfl⟩
  rw [← hnt] at ht ⊢
  rw [← hnu] at hu ⊢
  have hnn : (nt : Int) + (nu : Int) ≤ 200000 := by omega
  clear h hnt hnu
  go_enter Tryd.func81, Tryd.ntmps81
  go_wp2_with (first
    | ((with_reducible show wpList _ _ _ (⟨some 1, _, _, _, _, _⟩ :: _) _ _); refine wpList_box _ rfl 98 (.tmp 0) rfl [.slice At nt ct, .slice Au nu cu] rfl ?_; intro w1 a1 a2 a3; have q0 := a1.get (j := 0) rfl; have q1 := a1.get (j := 1) rfl; have HB1 := Lib.hid a2; have HZ1 := Lib.hid a3; clear a1 a2 a3))
  go_ret
  exact ⟨by go_num, HB1.out⟩

set_option maxRecDepth 100000 in
theorem left_any (w : World) (gp gm : Nat) (s : List UInt8) (i : Int) (tv uv : Value) (tk : List Sc) (us : List (List UInt8)) (h : PQ w gp gm s i tv uv tk us) (hs : s.length ≤ 9223372036854775807) (hi : (Lit.int .i64 i).wf = true) :
    Calls Tryd.prog 25 #[.pointer (some ⟨gp, 0, none⟩), pidV s i] w fun e w' => e = .returned (.int .i64 (tk.length : Int)) ∧ Below w.heap.size w w' := by
  have HP := Lib.hid h
  obtain ⟨L, hm, hL⟩ := h.m
  have HM := Lib.hid hm
  have HL := Lib.hid hL
  have HK := Lib.hid (keyPid s i hs hi)
  obtain ⟨At, ct, et, _⟩ := h.st.t.form
  clear h hm hL hs hi
  go_enter Tryd.func25, Tryd.ntmps25
  go_wp2_with (first
    | ((with_reducible show wpList _ _ _ (⟨some 3, _, _, _, _, _⟩ :: _) _ _); refine wpList_box _ rfl 33 (.tmp 1) rfl [.string (strB s), .int .i64 i] rfl ?_; intro w1 a1 a2 a3; have HQ := Lib.hid a1; have HB1 := Lib.hid a2; clear a1 a2 a3))
  have HP1 := Lib.hid (HP.out.kept HB1.out)
  have HM1 := Lib.hid (HM.out.kept HB1.out)
  refine Text.wp_region_text (fun w' => w'.cell? ⟨gp, 0, none⟩ = some (.map (some gm))) [(0, 4), (1, 4), (2, 4), (3, 0), (4, 2), (5, 2), (6, 4), (7, 4), (8, 4)] (by kernel_rfl) (by kernel_rfl) (fun _ _ _ _ _ h => h) (HP1.out.p.get (j := 0) rfl) ?_
  iterate 3 (refine Text.purek rfl rfl (fun K hK => ⟨_, fun w' => by go_simp <;> rfl, ?_⟩); go_simp; refine hK _ ?_; clear hK K)
  (refine Text.heldk rfl rfl (fun K hK => ⟨_, fun w' hw' => by go_simp <;> rfl, ?_⟩); go_simp; refine hK _ ?_; clear hK K)
  refine Text.eff rfl rfl (fun K hK => ?_)
  refine wp_loadv 33 (.tmp 3) rfl 2 (by kernel_rfl) w.heap.size 0 [.string (strB s), .int .i64 i] rfl (BL.all HQ.out.drew) rfl ?_
  refine hK _ _ (HP1.out.p.get (j := 0) rfl) ?_
  clear hK K
  refine Text.eff rfl rfl (fun K hK => ?_)
  refine wp_look (.tmp 8) (.tmp 9) 90 33 98 rfl pidKeyed stMap (stV nilV nilV) stZero gm L rfl HM1.out.drew (pidV s i) rfl HK.out ?_
  intro v f hf
  obtain rfl := PQ.found HL.out hf
  refine hK _ _ (HP1.out.p.get (j := 0) rfl) ?_
  clear hK K hf
  subst et
  iterate 3 (refine Text.purek rfl rfl (fun K hK => ⟨_, fun w' => by go_simp <;> rfl, ?_⟩); go_simp; refine hK _ ?_; clear hK K)
  refine Text.done ?_
  go_wp2_with fail
  go_ret
  exact ⟨rfl, HB1.out.drew⟩

theorem purse_new (w : World) (s : List UInt8) (i : Int) : Calls Tryd.prog 23 #[] w fun e w' => ∃ gp gm, e = .returned (.pointer (some ⟨gp, 0, none⟩)) ∧ PQ w' gp gm s i nilV nilV [] [] ∧ Below w.heap.size w w' ∧ w.heap.size ≤ gp ∧ w.heap.size ≤ gm := by
  go_enter Tryd.func23, Tryd.ntmps23
  go_wp2_with (first
    | ((with_reducible show wpList _ _ _ (⟨some 1, _, _, _, _, _⟩ :: _) _ _); refine wpList_makeMap _ rfl 90 33 rfl ?_; intro w1 a1 a2 a3; have HM1 := Lib.hid a1; have HB1 := Lib.hid a2; have HZ1 := Lib.hid a3; clear a1 a2 a3)
    | ((with_reducible show wpList _ _ _ (⟨some 3, _, _, _, _, _⟩ :: _) _ _); refine wpList_box _ rfl 92 (.tmp 2) rfl [.map (some w.heap.size)] rfl ?_; intro w2 a1 a2 a3; have HP2 := Lib.hid a1; have HB2 := Lib.hid (below_then HB1.out (a2.mono (Nat.le_refl _))); have HM2 := Lib.hid (HM1.out.kept a2); clear a1 a2 a3))
  go_ret
  exact ⟨w1.heap.size, w.heap.size, rfl, ⟨HP2.out, ⟨RW.nil _ _ _, RW.nil _ _ _, by decide, by decide⟩, [], HM2.out, .inl ⟨rfl, rfl, rfl⟩⟩, HB2.out, HB1.out.size, Nat.le_refl _⟩
end Go.Proofs.YtgjgofjabdjclaaDoor
/- Purse.Use. -/
namespace Go.Proofs.YtgjgofjabdjclaaDoor
open Go Go.RowKit Gf

section
variable {P : Program} {w : World} {o : Oper} {a : Act} {Q : Exit → Act → World → Prop} {K : Act → World → Prop}
theorem exec_loadv (t : TypeId) (x : Operand) (hop : o.op = .load t x) (n : Nat) (ht : Agg P t n = true) (g p : Nat) (ms : List Value) (hx : a.eval x = .pointer (some ⟨g, p, none⟩))
    (hm : At w g p ms) (hn : ms.length = n) : (execOp a.eval o).run P w = .ok (.value (.agg ms.toArray)) w := by
  unfold execOp
  simp only [hop, hx]
  simp [run_loadAt w ht hm hn, Result.andThen]
theorem exec_look (m x : Operand) (t k e : TypeId) (hop : o.op = .lookup t m x false) (Kd : Go.Maps.Keyed P k) (ht : P.underlying t = some (.map k e)) (z : Value) (hz : (P.info? e).map (·.zero) = some (some z))
    (b : Nat) (L : List (Value × Value)) (hm : a.eval m = .map (some b)) (hb : MB P k w b L) (xv : Value) (hx : a.eval x = xv) (hk : ∃ lx, keyOf P k xv = some lx) (u : Value) (hu : ∀ v f, Found L xv z v f → v = u) :
    (execOp a.eval o).run P w = .ok (.value u) w := by
  obtain ⟨lx, hlx⟩ := hk
  obtain ⟨v, f, hf, hr⟩ := hb.look Kd ht hz hlx false
  obtain rfl := hu v f hf
  unfold execOp
  simp only [hop, hm, hx]
  simp [hr, Result.andThen]
theorem wp_alloc (t : TypeId) (hop : o.op = .alloc t) (l : List Value) (hz : (P.info? t).map (·.zero) = some (some (.agg l.toArray)))
    (h : ∀ w', BL w' w.heap.size t l → Below w.heap.size w w' → w'.heap.size = w.heap.size + 1 → K (a.put o.dst (.pointer (some ⟨w.heap.size, 0, none⟩))) w') : o.wp P a w K Q := by
  cases hi : P.info? t with
  | none => simp [hi] at hz
  | some i =>
    have hz' : i.zero = some (.agg l.toArray) := by simpa [hi] using hz
    unfold Oper.wp execOp
    simp only [hop]
    simp [Instr.alloc, zeroValue, typeInfo, hi, hz', newVar, newRow, Value.cells, Result.andThen]
    exact h _ (BL.new w t l) ((Below.refl _ _).alloc (Nat.le_refl _) _) (by simp)
/-- A store of one cell into a block known whole. -/
theorem wpList_store1 (w : World) {ops : Array Oper} {rest : List Oper} (hg : o.guard = none) (t : TypeId) (x y : Operand) (hop : o.op = .store t x y) (hs : (sizeOf t).run P w = .ok 1 w) (g p : Nat) (te : TypeId) (l : List Value) (u : Value) (hx : a.eval x = .pointer (some ⟨g, p, none⟩)) (hy : a.eval y = u)
    (hb : BL w g te l) (hu : u.cells = #[u]) (h1 : u.oneCell' = true) (hp : p < l.length)
    (h : ∀ w', BL w' g te (l.set p u) → Kp (· = g) w w' → w'.heap.size = w.heap.size → wpList P ops Q rest (a.put o.dst undef) w') : wpList P ops Q (o :: rest) a w :=
  wpList_plain hg fun K hK => by
    obtain ⟨w', hr, hb', hk, hz⟩ := run_storeCells (P := P) [u] (by simpa using h1) p 1 0 l w rfl hb (by simp; omega)
    have e : l.take (p + 0) ++ [u].drop 0 ++ l.drop (p + [u].length) = l.set p u := by
      rw [List.set_eq_take_append_cons_drop, if_pos hp]
      simp
    rw [e] at hb'
    rw [List.drop_zero] at hr
    unfold Oper.wp execOp
    simp only [hop, hx, hy]
    simp [Instr.storeAt, Instr.sureAddr, storeVar, Sem.run_bind, hs, hu, hr, Result.andThen]
    exact hK _ _ (h w' hb' hk hz)
end
theorem results_at2 {P : Program} (w : World) {t : TypeId} {n : Nat} {fn : Func} {p q : Tmp} (hf : fn.results = #[.cell p t, .tmp q]) (h : Agg P t n = true) {tmps : Array Value} {g o : Nat} {ms : List Value} (hp : tmps.getD p undef = .pointer (some ⟨g, o, none⟩)) (hm : At w g o ms) (hn : ms.length = n) :
    (results fn tmps).run P w = .ok (.tuple #[.agg ms.toArray, tmps.getD q undef]) w := by
  have hp' : tmps[p]?.getD undef = .pointer (some ⟨g, o, none⟩) := by simpa using hp
  simp [results, hf, hp', asAddr, run_loadVar_at w h hm hn]

section
variable {w w' : World} {gp gm : Nat} {s : List UInt8} {i : Int} {tv uv : Value} {tk : List Sc} {us : List (List UInt8)}
theorem BL.ty {g : Nat} {t t' : TypeId} {l l' : List Value} (h : BL w g t l) (h' : BL w g t' l') : t = t' := by
  have := h.symm.trans h'
  cases this; rfl
theorem RW.ty {te : TypeId} {n m : Nat} {v : Value} {l : List Value} (h : RW w te m v n l) {b : Nat} (hb : v.ownBlock = some b) : ∃ cs, BL w b te cs := by
  rcases h.2 with ⟨rfl, _⟩ | ⟨g, o, c, cs, rfl, hb', r⟩
  · cases hb
  · cases hb; exact ⟨cs, hb'⟩
theorem MB.no_cells {P : Program} {k t : TypeId} {b : Nat} {L : List (Value × Value)} {l : List Value} (h : MB P k w b L) (h' : BL w b t l) : False := by
  obtain ⟨es, clock, h1, _⟩ := h
  have := h1.symm.trans h'
  cases this
theorem PQ.gm_tv (h : PQ w gp gm s i tv uv tk us) : tv.ownBlock ≠ some gm := fun e => by
  obtain ⟨cs, hc⟩ := h.st.t.ty e
  obtain ⟨L, hm, _⟩ := h.m
  exact hm.no_cells hc
theorem PQ.gm_uv (h : PQ w gp gm s i tv uv tk us) : uv.ownBlock ≠ some gm := fun e => by
  obtain ⟨cs, hc⟩ := h.st.u.ty e
  obtain ⟨L, hm, _⟩ := h.m
  exact hm.no_cells hc
theorem PQ.tv_uv (h : PQ w gp gm s i tv uv tk us) {b : Nat} (h1 : tv.ownBlock = some b) : uv.ownBlock ≠ some b := fun e => by
  obtain ⟨cs, hc⟩ := h.st.u.ty e
  obtain ⟨cs', hc'⟩ := h.st.t.ty h1
  exact absurd (hc.ty hc') (by decide)
theorem PQ.gp_not (h : PQ w gp gm s i tv uv tk us) : ¬ PB gm tv uv gp := fun hb => by
  rcases hb with rfl | hb | hb
  · obtain ⟨L, hm, _⟩ := h.m
    exact hm.no_cells h.p
  · obtain ⟨cs, hc⟩ := h.st.t.ty hb
    exact absurd (hc.ty h.p) (by decide)
  · obtain ⟨cs, hc⟩ := h.st.u.ty hb
    exact absurd (hc.ty h.p) (by decide)
end
def tokC (s : List UInt8) (i : Int) (x : Sc) : List Value := [.string (strB s), .int .i64 i, .string (strB x.1), .string (strB x.2)]
def tokZ : List Value := [.string (strB []), .int .i64 0, .string (strB []), .string (strB [])]
theorem tokZ_one : ∀ v ∈ tokZ, v.oneCell' = true := by
  intro v hv
  simp only [tokZ, List.mem_cons, List.not_mem_nil, or_false] at hv
  rcases hv with rfl | rfl | rfl | rfl <;> rfl
theorem tokC_one (s : List UInt8) (i : Int) (x : Sc) : ∀ v ∈ tokC s i x, v.oneCell' = true := by
  intro v hv
  simp only [tokC, List.mem_cons, List.not_mem_nil, or_false] at hv
  rcases hv with rfl | rfl | rfl | rfl <;> rfl
theorem tokZero : (Tryd.prog.info? 37).map (·.zero) = some (some (.agg tokZ.toArray)) := by kernel_rfl
theorem stZero' : (Tryd.prog.info? 98).map (·.zero) = some (some (.agg [nilV, nilV].toArray)) := by kernel_rfl

set_option maxRecDepth 100000 in
theorem use_empty (w : World) (gp gm : Nat) (s : List UInt8) (i : Int) (tv uv : Value) (us : List (List UInt8)) (h : PQ w gp gm s i tv uv [] us) (hs : s.length ≤ 9223372036854775807) (hi : (Lit.int .i64 i).wf = true) :
    Calls Tryd.prog 26 #[.pointer (some ⟨gp, 0, none⟩), pidV s i] w fun e w' => e = .returned (.tuple #[.agg tokZ.toArray, .int .i64 4]) ∧ Below w.heap.size w w' := by
  obtain ⟨A, ct, rfl, _⟩ := h.st.t.form
  rw [List.length_nil] at h
  have HP := Lib.hid h
  obtain ⟨L, hm, hL⟩ := h.m
  have HM := Lib.hid hm
  have HL := Lib.hid hL
  have HK := Lib.hid (keyPid s i hs hi)
  clear h hm hL hs hi
  go_enter Tryd.func26, Tryd.ntmps26
  go_wp2_with (first
    | ((with_reducible show wpList _ _ _ (⟨some 3, _, _, _, _, _⟩ :: _) _ _); refine wpList_box _ rfl 33 (.tmp 1) rfl [.string (strB s), .int .i64 i] rfl ?_; intro w1 a1 a2 a3; have HQ := Lib.hid a1; have HB1 := Lib.hid a2; clear a1 a2 a3)
    | ((with_reducible show wpList _ _ _ (⟨some 4, _, _, _, _, _⟩ :: _) _ _); refine wpList_alloc _ rfl 37 rfl tokZ tokZero ?_; intro w2 a1 a2 a3; have HT2 := Lib.hid a1; have HB2 := Lib.hid (below_then HB1.out (a2.mono (Nat.le_refl _))); have HQ2 := Lib.hid (HQ.out.kept a2); clear a1 a2 a3))
  have HP2 := Lib.hid (HP.out.kept HB2.out)
  have HM2 := Lib.hid (HM.out.kept HB2.out)
  have HO : Hid (∀ v ∈ [Value.slice A 0 ct, uv], v.oneCell' = true) := Lib.hid (by
    obtain ⟨Au, cu, eu, _⟩ := HP.out.st.u.form
    rw [eu]
    intro v hv
    simp only [List.mem_cons, List.not_mem_nil, or_false] at hv
    rcases hv with rfl | rfl <;> rfl)
  have HC2 : Hid (∀ w', Below w2.heap.size w2 w' → w'.cell? ⟨gp, 0, none⟩ = some (.map (some gm)) ∧ Below w2.heap.size w2 w') := Lib.hid (fun w' hb => ⟨(HP2.out.kept hb).p.get (j := 0) rfl, hb⟩)
  refine Text.wp_region_text (fun w' => w'.cell? ⟨gp, 0, none⟩ = some (.map (some gm)) ∧ Below w2.heap.size w2 w') [(0, 4), (1, 4), (2, 4), (3, 0), (4, 0), (5, 0), (6, 2), (7, 2)] (by kernel_rfl) (by kernel_rfl) (fun _ _ _ _ _ h => h) (HC2.out _ (Below.refl _ _).drew) ?_
  iterate 3 (refine Text.purek rfl rfl (fun K hK => ⟨_, fun w' => by go_simp <;> rfl, ?_⟩); go_simp; refine hK _ ?_; clear hK K)
  (refine Text.heldk rfl rfl (fun K hK => ⟨_, fun w' hw' => by go_simp <;> rfl, ?_⟩); go_simp; refine hK _ ?_; clear hK K)
  refine Text.heldk rfl rfl (fun K hK => ?_)
  refine ⟨_, fun w' hw' => exec_loadv 33 (.tmp 3) rfl 2 (by kernel_rfl) w.heap.size 0 [.string (strB s), .int .i64 i] rfl (BL.all (HQ2.out.kept hw'.2)) rfl, ?_⟩
  go_simp
  refine hK _ ?_
  clear hK K
  refine Text.heldk rfl rfl (fun K hK => ?_)
  refine ⟨_, fun w' hw' => exec_look (.tmp 11) (.tmp 12) 90 33 98 rfl pidKeyed stMap (stV nilV nilV) stZero gm L rfl (HM2.out.kept hw'.2) (pidV s i) rfl HK.out (stV (.slice A 0 ct) uv) (fun v f hf => PQ.found HL.out hf), ?_⟩
  go_simp
  refine hK _ ?_
  clear hK K
  refine Text.eff rfl rfl (fun K hK => ?_)
  refine wp_alloc 98 rfl [nilV, nilV] stZero' ?_
  intro w3 a1 a2 a3
  have HS3 := Lib.hid a1
  have HX3 : Hid (Below w2.heap.size w2 w3) := Lib.hid (below_then (Below.refl _ _).drew (a2.mono (Nat.le_refl _)))
  refine hK _ _ (HC2.out _ HX3.out) ?_
  clear hK K a1 a2 a3
  refine Text.eff rfl rfl (fun K hK => ?_)
  refine wp_storev 98 (.tmp 6) (.tmp 13) rfl 2 (by kernel_rfl) w2.heap.size 0 _ [nilV, nilV] [.slice A 0 ct, uv] rfl rfl HS3.out rfl HO.out (by decide) ?_
  intro w4 a1 a2 a3
  have q0 := a1.get (j := 0) rfl
  have HX4 : Hid (Below w2.heap.size w2 w4) := Lib.hid (((Kp.of_below (S := fun _ => False) HX3.out).after a2 (fun i hi e => by omega)).below (Nat.le_refl _) (fun _ h => h.elim))
  refine hK _ _ (HC2.out _ HX4.out) ?_
  have HT4 := Lib.hid (HT2.out.kept HX4.out)
  clear hK K a1 a2 a3
  refine Text.done ?_
  go_wp2_with (first
    | ((with_reducible show wpList _ _ _ (⟨none, _, _, _, _, _⟩ :: _) _ _); refine wpList_storev _ rfl 37 (.tmp 4) (.tmp 18) rfl 4 (by kernel_rfl) w1.heap.size 0 _ tokZ tokZ rfl rfl HT4.out rfl tokZ_one (by decide) ?_; intro w5 a1 a2 a3; have HT5 := Lib.hid a1; have HB5 : Hid (Below w.heap.size w w5) := Lib.hid (((Kp.of_below (S := fun _ => False) (below_thenB HB2.out HB2.out.size HX4.out)).after a2 (fun i hi e => by have := HB1.out.size; omega)).below (Nat.le_refl _) (fun _ h => h.elim)); clear a1 a2 a3))
  (try simp only [Exit.inBlock, Exit.then])
  refine bodyPost_ret (results_at2 w5 Tryd.results26 (n := 4) (by kernel_rfl) (g := w1.heap.size) (o := 0) rfl (BL.all HT5.out) rfl) rfl ⟨rfl, HB5.out⟩

def scZ : List Value := [.string (strB []), .string (strB [])]
theorem scZero : (Tryd.prog.info? 102).map (·.zero) = some (some (.agg scZ.toArray)) := by kernel_rfl
theorem infoSec : (Tryd.prog.info? 102).map (fun i => (i.zero, i.size, i.bytes)) = some (some (.agg scZ.toArray), 2, 32) := by kernel_rfl
theorem bslS (s : List UInt8) (w : World) : (Instr.buildSlice 61 1 #[(0, .string (strB s))]).run Tryd.prog w = .ok (.slice (some ⟨w.heap.size, 0, none⟩) 1 1) (w.alloc (.cells [.string (strB s)].toArray 9)) := by kernel_rfl
theorem sliceCells (A : Option Addr) (n c : Nat) : (Value.slice A n c).cells = #[Value.slice A n c] := rfl

set_option maxRecDepth 100000 in
set_option maxHeartbeats 1000000 in
theorem use_one (w : World) (gp gm : Nat) (s : List UInt8) (i : Int) (tv uv : Value) (x : Sc) (tk : List Sc) (us : List (List UInt8)) (h : PQ w gp gm s i tv uv (x :: tk) us) (hs : s.length ≤ 9223372036854775807) (hi : (Lit.int .i64 i).wf = true) (hu : us.length < 100000) :
    Calls Tryd.prog 26 #[.pointer (some ⟨gp, 0, none⟩), pidV s i] w fun e w' => e = .returned (.tuple #[.agg (tokC s i x).toArray, .int .i64 0]) ∧
      ∃ tv' uv', PQ w' gp gm s i tv' uv' tk (us ++ [x.1]) ∧ Kp (PB gm tv uv) w w' ∧ ∀ b, PB gm tv' uv' b → PB gm tv uv b ∨ w.heap.size ≤ b := by
  obtain ⟨g, o, c, rfl, hnc, hat⟩ := h.st.t.at_ (by simp)
  obtain ⟨Au, cu, rfl, _⟩ := h.st.u.form
  have hsec : At w g o (scC x) := At.left (xs := tk.flatMap scC) (by rw [List.flatMap_cons] at hat; exact hat)
  have HP := Lib.hid h
  have HA := Lib.hid hsec
  obtain ⟨L, hm, hL⟩ := h.m
  have HM := Lib.hid hm
  have HL := Lib.hid hL
  have HKY := Lib.hid (keyPid s i hs hi)
  have HU := Lib.hid hu
  have hgl : g < w.heap.size := h.st.t.lt rfl
  obtain ⟨nn, hnn⟩ : ∃ nn, nn = (x :: tk).length := ⟨_, rfl⟩
  have HN := Lib.hid hnn
  rw [← hnn] at HP HL ⊢
  have hpos : 0 < nn := by rw [hnn]; simp
  have hz : ((nn : Int) == 0) = false := by
    simp only [beq_eq_false_iff_ne, ne_eq]; omega
  obtain ⟨mu, hmu⟩ : ∃ mu, mu = us.length := ⟨_, rfl⟩
  have HMU := Lib.hid hmu
  rw [← hmu] at HP HL ⊢
  clear h hm hL hs hi hnn hmu hat hsec hu
  go_enter Tryd.func26, Tryd.ntmps26
  go_wp2_with (first
    | ((with_reducible show wpList _ _ _ (⟨some 3, _, _, _, _, _⟩ :: _) _ _); refine wpList_box _ rfl 33 (.tmp 1) rfl [.string (strB s), .int .i64 i] rfl ?_; intro w1 a1 a2 a3; have HQ := Lib.hid a1; have HB1 := Lib.hid a2; clear a1 a2 a3)
    | ((with_reducible show wpList _ _ _ (⟨some 4, _, _, _, _, _⟩ :: _) _ _); refine wpList_alloc _ rfl 37 rfl tokZ tokZero ?_; intro w2 a1 a2 a3; have HT2 := Lib.hid a1; have HB2 := Lib.hid (below_then HB1.out (a2.mono (Nat.le_refl _))); have HQ2 := Lib.hid (HQ.out.kept a2); have HZ2 := Lib.hid a3; clear a1 a2 a3))
  have HP2 := Lib.hid (HP.out.kept HB2.out)
  have HM2 := Lib.hid (HM.out.kept HB2.out)
  have HO : Hid (∀ v ∈ [Value.slice (some ⟨g, o, none⟩) nn c, Value.slice Au mu cu], v.oneCell' = true) := Lib.hid (by
    intro v hv
    simp only [List.mem_cons, List.not_mem_nil, or_false] at hv
    rcases hv with rfl | rfl <;> rfl)
  have HC2 : Hid (∀ w', Below w2.heap.size w2 w' → w'.cell? ⟨gp, 0, none⟩ = some (.map (some gm)) ∧ Below w2.heap.size w2 w') := Lib.hid (fun w' hb => ⟨(HP2.out.kept hb).p.get (j := 0) rfl, hb⟩)
  refine Text.wp_region_text (fun w' => w'.cell? ⟨gp, 0, none⟩ = some (.map (some gm)) ∧ Below w2.heap.size w2 w') [(0, 4), (1, 4), (2, 4), (3, 0), (4, 0), (5, 0), (6, 2), (7, 2)] (by kernel_rfl) (by kernel_rfl) (fun _ _ _ _ _ h => h) (HC2.out _ (Below.refl _ _).drew) ?_
  iterate 3 (refine Text.purek rfl rfl (fun K hK => ⟨_, fun w' => by go_simp <;> rfl, ?_⟩); go_simp; refine hK _ ?_; clear hK K)
  (refine Text.heldk rfl rfl (fun K hK => ⟨_, fun w' hw' => by go_simp <;> rfl, ?_⟩); go_simp; refine hK _ ?_; clear hK K)
  refine Text.heldk rfl rfl (fun K hK => ?_)
  refine ⟨_, fun w' hw' => exec_loadv 33 (.tmp 3) rfl 2 (by kernel_rfl) w.heap.size 0 [.string (strB s), .int .i64 i] rfl (BL.all (HQ2.out.kept hw'.2)) rfl, ?_⟩
  go_simp
  refine hK _ ?_
  clear hK K
  refine Text.heldk rfl rfl (fun K hK => ?_)
  refine ⟨_, fun w' hw' => exec_look (.tmp 11) (.tmp 12) 90 33 98 rfl pidKeyed stMap (stV nilV nilV) stZero gm L rfl (HM2.out.kept hw'.2) (pidV s i) rfl HKY.out (stV (.slice (some ⟨g, o, none⟩) nn c) (.slice Au mu cu)) (fun v f hf => PQ.found HL.out hf), ?_⟩
  go_simp
  refine hK _ ?_
  clear hK K
  refine Text.eff rfl rfl (fun K hK => ?_)
  refine wp_alloc 98 rfl [nilV, nilV] stZero' ?_
  intro w3 a1 a2 a3
  have HS3 := Lib.hid a1
  have HX3 : Hid (Below w2.heap.size w2 w3) := Lib.hid (below_then (Below.refl _ _).drew (a2.mono (Nat.le_refl _)))
  have HZ3 : Hid (w3.heap.size = w2.heap.size + 1) := Lib.hid a3
  refine hK _ _ (HC2.out _ HX3.out) ?_
  clear hK K a1 a2 a3
  refine Text.eff rfl rfl (fun K hK => ?_)
  refine wp_storev 98 (.tmp 6) (.tmp 13) rfl 2 (by kernel_rfl) w2.heap.size 0 _ [nilV, nilV] [.slice (some ⟨g, o, none⟩) nn c, .slice Au mu cu] rfl rfl HS3.out rfl HO.out (by decide) ?_
  intro w4 a1 a2 a3
  have q0 := a1.get (j := 0) rfl
  have q1 := a1.get (j := 1) rfl
  have HS4 : Hid (BL w4 w2.heap.size 98 [.slice (some ⟨g, o, none⟩) nn c, .slice Au mu cu]) := Lib.hid a1
  have HX4 : Hid (Below w2.heap.size w2 w4) := Lib.hid (((Kp.of_below (S := fun _ => False) HX3.out).after a2 (fun i hi e => by omega)).below (Nat.le_refl _) (fun _ h => h.elim))
  refine hK _ _ (HC2.out _ HX4.out) ?_
  have HT4 := Lib.hid (HT2.out.kept HX4.out)
  have HB4 := Lib.hid (below_thenB HB2.out HB2.out.size HX4.out)
  have HA4 := Lib.hid (HA.out.kept HB4.out)
  have HZ4 : Hid (w4.heap.size = w2.heap.size + 1) := Lib.hid (by rw [a3]; exact HZ3.out)
  clear hK K a1 a2 a3
  refine Text.done ?_
  go_wp2_with (first
    | ((with_reducible show wpList _ _ _ (⟨some 22, _, _, _, _, _⟩ :: _) _ _); refine wpList_loadv _ rfl 102 (.tmp 21) rfl 2 (by kernel_rfl) g o (scC x) rfl HA4.out rfl ?_)
    | ((with_reducible show wpList _ _ _ (⟨some 7, _, _, _, _, _⟩ :: _) _ _); refine wpList_alloc _ rfl 102 rfl scZ scZero ?_; intro w5 a1 a2 a3; have HF5 := Lib.hid a1; have HX5 := Lib.hid a2; have HZ5 := Lib.hid a3; clear a1 a2 a3)
    | ((with_reducible show wpList _ _ _ (⟨none, _, _, _, _, _⟩ :: _) _ _); refine wpList_storev _ rfl 102 (.tmp 7) (.tmp 22) rfl 2 (by kernel_rfl) w4.heap.size 0 _ scZ (scC x) rfl rfl HF5.out rfl (scC_one x) (by decide) ?_; intro w6 a1 a2 a3; have HF6 : Hid (BL w6 w4.heap.size 102 (scC x)) := Lib.hid a1; have HK6 := Lib.hid a2; have HZ6 : Hid (w6.heap.size = w4.heap.size + 1) := Lib.hid (by rw [a3]; exact HZ5.out); have HS6 : Hid (BL w6 w2.heap.size 98 [.slice (some ⟨g, o, none⟩) nn c, .slice Au mu cu]) := Lib.hid ((HS4.out.kept HX5.out).kp a2 (fun e => by have := HZ4.out; omega)); have r0 := HS6.out.get (j := 0) rfl; have HX6 : Hid (Below w4.heap.size w4 w6) := Lib.hid (((Kp.of_below (S := fun _ => False) HX5.out).after a2 (fun i hi e => by omega)).below (Nat.le_refl _) (fun _ h => h.elim)); have HB6 := Lib.hid (below_thenB HB4.out HB4.out.size HX6.out); have HRT6 : Hid (RW w6 102 2 (.slice (some ⟨g, o, none⟩) nn c) nn ((x :: tk).flatMap scC)) := Lib.hid (by have := (HP.out.kept HB6.out).st.t; rw [← HN.out] at this; exact this); have HRU6 : Hid (RW w6 9 1 (.slice Au mu cu) mu (us.map usC)) := Lib.hid (by have := (HP.out.kept HB6.out).st.u; rw [← HMU.out] at this; exact this); clear a1 a2 a3 q0 q1)
    | ((with_reducible show wpList _ _ _ (⟨some 25, _, _, _, _, _⟩ :: _) _ _); refine wpList_cutRW _ rfl (.tmp 24) _ 96 102 2 rfl Tryd.underlying96 (agg_size _ (by kernel_rfl)) _ nn _ rfl HRT6.out rfl hpos ?_; intro tv' a1 a2; have HV := Lib.hid a1; have HVo := Lib.hid a2; clear a1 a2)
    | ((with_reducible show wpList _ _ _ (⟨none, _, _, _, _, _⟩ :: _) _ _); refine wpList_store1 _ rfl 96 (.tmp 26) (.tmp 25) rfl (one_size _ (by kernel_rfl)) w2.heap.size 0 98 _ tv' rfl rfl HS6.out (by obtain ⟨A', c', e', _⟩ := HV.out.form; rw [e']; rfl) (by obtain ⟨A', c', e', _⟩ := HV.out.form; rw [e']; rfl) (by simp) ?_; intro w7 a1 a2 a3; have HS7 : Hid (BL w7 w2.heap.size 98 [tv', .slice Au mu cu]) := Lib.hid a1; have HK7 := Lib.hid a2; have HZ7 := Lib.hid a3; have r1 := HS7.out.get (j := 1) rfl; have HF7 := Lib.hid (HF6.out.kp a2 (fun e => by have := HZ4.out; omega)); have r2 := HF7.out.get (j := 0) rfl; have HRU7 := Lib.hid (HRU6.out.kp a2 (fun b hb e => by have h1 := HP.out.lt (.inr (.inr hb)); have h2 := HB2.out.size; omega)); clear a1 a2 a3 r0)
    | ((with_reducible show wpList _ _ _ (⟨some 31, _, _, _, _, _⟩ :: _) _ _); refine wpList_bslice _ rfl 61 9 1 _ rfl #[(0, .string (strB x.1))] (by rw [List.map_toArray]; rfl) [.string (strB x.1)] (bslS x.1 _) ?_; intro w8 a1 a2 a3; have HG8 := Lib.hid a1; have HX8 := Lib.hid a2; have HZ8 := Lib.hid a3; have HRU8 := Lib.hid (HRU7.out.kept a2); have HS8 := Lib.hid (HS7.out.kept a2); clear a1 a2 a3)
    | ((with_reducible show wpList _ _ _ (⟨some 32, _, _, _, _, _⟩ :: _) _ _); obtain ⟨iS, i1, i2, i3, i4⟩ := info_some infoStr; refine wpList_appRW _ rfl (.tmp 28) (.tmp 31) 61 9 1 iS _ rfl Tryd.underlying61 i1 i2 i3 rfl (.slice Au mu cu) mu _ rfl HRU8.out w7.heap.size [.string (strB x.1)] rfl HG8.out rfl (by intro v hv; simp only [List.mem_singleton] at hv; subst hv; rfl) (by rw [i4, HMU.out]; have := HU.out; omega) (by rw [HMU.out]; have := HU.out; omega) ?_; intro uv' w9 a1; have HR9 := Lib.hid a1; have HS9 := Lib.hid (HS8.out.kp a1.kp (fun hb => by have h1 := HP.out.lt (.inr (.inr hb)); have h2 := HB2.out.size; omega)); clear a1 i1 i2 i3 i4)
    | ((with_reducible show wpList _ _ _ (⟨none, _, _, _, _, _⟩ :: _) _ _); refine wpList_store1 _ rfl 61 (.tmp 33) (.tmp 32) rfl (one_size _ (by kernel_rfl)) w2.heap.size 1 98 _ uv' rfl rfl HS9.out (by obtain ⟨A', c', e', _⟩ := HR9.out.row.form; rw [e']; rfl) (by obtain ⟨A', c', e', _⟩ := HR9.out.row.form; rw [e']; rfl) (by simp) ?_; intro w10 a1 a2 a3; have HS10 : Hid (BL w10 w2.heap.size 98 [tv', uv']) := Lib.hid a1; have HK10 := Lib.hid a2; have HZ10 := Lib.hid a3; clear a1 a2 a3 r1 r2))
  have HLU : Hid (∀ b, (Value.slice Au mu cu).ownBlock = some b → b < w.heap.size) := Lib.hid (fun b hb => HP.out.lt (.inr (.inr hb)))
  have HSZ : Hid (w.heap.size < w1.heap.size ∧ w1.heap.size < w2.heap.size ∧ w2.heap.size < w4.heap.size) := Lib.hid ⟨HQ.out.lt, by have := HZ2.out; omega, by have := HZ4.out; omega⟩
  have HB8 : Hid (Below w.heap.size w w8) := Lib.hid (below_thenB (((Kp.of_below (S := fun _ => False) HB6.out).after HK7.out (fun i hi e => by have := HSZ.out; omega)).below (Nat.le_refl _) (fun _ h => h.elim)) (by have := HB6.out.size; have := HZ7.out; omega) HX8.out)
  have HK10W : Hid (Kp (fun b => (Value.slice Au mu cu).ownBlock = some b) w w10) := Lib.hid (((Kp.of_below HB8.out).after HR9.out.kp (fun i hi e => e)).after HK10.out (fun i hi e => by have := HSZ.out; omega))
  have HK10V : Hid (Kp (fun b => b = w2.heap.size ∨ (Value.slice Au mu cu).ownBlock = some b) w6 w10) := Lib.hid (((((Kp.refl (fun b => b = w2.heap.size ∨ (Value.slice Au mu cu).ownBlock = some b) w6).after HK7.out (fun i hi e => .inl e)).after (Kp.of_below (S := fun _ => False) HX8.out) (fun i hi e => e.elim)).after HR9.out.kp (fun i hi e => .inr e)).after HK10.out (fun i hi e => .inl e))
  have HQ10 := Lib.hid (((HQ2.out.kept HX4.out).kept HX6.out).kp HK10V.out (fun e => by exact e.elim (fun e => by have := HSZ.out; omega) (fun e => by have := HLU.out _ e; omega)))
  have HT10 := Lib.hid ((HT4.out.kept HX6.out).kp HK10V.out (fun e => by exact e.elim (fun e => by have := HSZ.out; omega) (fun e => by have := HLU.out _ e; have := HSZ.out; omega)))
  have HF10 := Lib.hid (HF6.out.kp HK10V.out (fun e => by exact e.elim (fun e => by have := HSZ.out; omega) (fun e => by have := HLU.out _ e; have := HSZ.out; omega)))
  have HP10 := Lib.hid (HP.out.p.kp HK10W.out (fun e => HP.out.gp_not (.inr (.inr e))))
  have HM10 := Lib.hid (HM.out.kp HK10W.out (fun e => HP.out.gm_uv e))
  have HV10 := Lib.hid (HV.out.kp HK10V.out (fun b hb e => by rw [HVo.out] at hb; exact e.elim (fun e => by have := HP.out.lt (.inr (.inl hb)); have := HSZ.out; omega) (fun e => by exact HP.out.tv_uv hb e)))
  have HR10 := Lib.hid (HR9.out.row.kp HK10.out (fun b hb e => by exact (HR9.out.own b hb).elim (fun h1 => by have := HLU.out _ h1; have := HSZ.out; omega) (fun h1 => by have := HZ8.out; have := HZ7.out; have := HZ6.out; have := HSZ.out; omega)))
  have HGM : Hid (gm < w.heap.size) := Lib.hid HM.out.lt
  have HW10 : Hid (w4.heap.size + 1 < w10.heap.size) := Lib.hid (by have := HR9.out.kp.size; have := HZ8.out; have := HZ7.out; have := HZ6.out; have := HZ10.out; omega)
  clear HO HC2 hz
  have HC10 : Hid (∀ w', Below w10.heap.size w10 w' → w'.cell? ⟨gp, 0, none⟩ = some (.map (some gm)) ∧ Below w10.heap.size w10 w') := Lib.hid (fun w' hb => ⟨(HP10.out.kept hb).get (j := 0) rfl, hb⟩)
  refine Text.wp_region_text (fun w' => w'.cell? ⟨gp, 0, none⟩ = some (.map (some gm)) ∧ Below w10.heap.size w10 w') [(0, 4), (1, 4), (2, 4), (3, 0), (4, 0), (5, 0), (6, 3)] (by kernel_rfl) (by kernel_rfl) (fun _ _ _ _ _ h => h) (HC10.out _ (Below.refl _ _).drew) ?_
  iterate 3 (refine Text.purek rfl rfl (fun K hK => ⟨_, fun w' => by go_simp <;> rfl, ?_⟩); go_simp; refine hK _ ?_; clear hK K)
  (refine Text.heldk rfl rfl (fun K hK => ⟨_, fun w' hw' => by go_simp <;> rfl, ?_⟩); go_simp; refine hK _ ?_; clear hK K)
  refine Text.heldk rfl rfl (fun K hK => ?_)
  refine ⟨_, fun w' hw' => exec_loadv 33 (.tmp 3) rfl 2 (by kernel_rfl) w.heap.size 0 [.string (strB s), .int .i64 i] rfl (BL.all (HQ10.out.kept hw'.2)) rfl, ?_⟩
  go_simp
  refine hK _ ?_
  clear hK K
  refine Text.heldk rfl rfl (fun K hK => ?_)
  refine ⟨_, fun w' hw' => exec_loadv 98 (.tmp 6) rfl 2 (by kernel_rfl) w2.heap.size 0 [tv', uv'] rfl (BL.all (HS10.out.kept hw'.2)) rfl, ?_⟩
  go_simp
  refine hK _ ?_
  clear hK K
  refine Text.last rfl rfl (fun K hK => ?_)
  refine wp_upd (.tmp 37) (.tmp 38) (.tmp 39) 90 33 98 rfl pidKeyed stMap gm L rfl HM10.out.drew (pidV s i) (stV tv' uv') rfl rfl HKY.out ?_
  intro w11 L' h1 h2 h3 h4
  obtain rfl := PQ.stored HL.out h1
  have HM11 := Lib.hid h2
  have HK11 : Hid (Kp (· = gm) w10 w11) := Lib.hid ((Kp.refl _ w10).drew.trans h3)
  have HQ11 := Lib.hid (HQ10.out.kp HK11.out (fun e => by have := HGM.out; omega))
  have HT11 := Lib.hid (HT10.out.kp HK11.out (fun e => by have := HGM.out; have := HSZ.out; omega))
  have HF11 := Lib.hid (HF10.out.kp HK11.out (fun e => by have := HGM.out; have := HSZ.out; omega))
  have r0 := HF11.out.get (j := 0) rfl
  have r1 := HF11.out.get (j := 1) rfl
  refine hK _ _ ?_
  clear hK K h1 h2 h3 h4
  refine Text.done ?_
  go_wp2_with (first
    | ((with_reducible show wpList _ _ _ (⟨some 40, _, _, _, _, _⟩ :: _) _ _); refine wpList_loadv _ rfl 33 (.tmp 3) rfl 2 (by kernel_rfl) w.heap.size 0 [.string (strB s), .int .i64 i] rfl (BL.all HQ11.out) rfl ?_)
    | ((with_reducible show wpList _ _ _ (⟨none, _, _, _, _, _⟩ :: _) _ _); refine wpList_storev _ rfl 37 (.tmp 4) (.tmp 45) rfl 4 (by kernel_rfl) w1.heap.size 0 _ tokZ (tokC s i x) rfl rfl HT11.out rfl (tokC_one s i x) (by decide) ?_; intro w12 a1 a2 a3; have HT12 := Lib.hid a1; have HK12 := Lib.hid a2; clear a1 a2 a3))
  have hgp : gp < w.heap.size := HP.out.p.lt
  have hgg : gp ≠ gm := fun e => HP.out.gp_not (.inl e)
  have hw8 : w4.heap.size < w8.heap.size := by have := HZ8.out; have := HZ7.out; have := HZ6.out; omega
  have htb : ∀ b, tv'.ownBlock = some b → (Value.slice (some ⟨g, o, none⟩) nn c).ownBlock = some b := fun b hb => HVo.out.symm.trans hb
  have hul : ∀ b, uv'.ownBlock = some b → ¬ b = gm ∧ ¬ b = w1.heap.size := fun b hb => (HR9.out.own b hb).elim
    (fun h1 => ⟨fun e => HP.out.gm_uv (by subst e; exact h1), fun e => by have := HLU.out _ h1; have := HSZ.out; omega⟩)
    (fun h1 => ⟨fun e => by have := HGM.out; have := HSZ.out; omega, fun e => by have := HSZ.out; omega⟩)
  have htl : ∀ b, tv'.ownBlock = some b → ¬ b = gm ∧ ¬ b = w1.heap.size := fun b hb =>
    ⟨fun e => HP.out.gm_tv (by subst e; exact htb _ hb), fun e => by have := HP.out.lt (.inr (.inl (htb b hb))); have := HSZ.out; omega⟩
  have hbt := HP.out.st.bt
  rw [List.length_cons] at hbt
  have hnn := HN.out
  rw [List.length_cons] at hnn
  have e1 : nn - 1 = tk.length := by omega
  have RT := (HV10.out.kp HK11.out (fun b hb => (htl b hb).1)).kp HK12.out (fun b hb => (htl b hb).2)
  rw [e1] at RT
  have RU := (HR10.out.kp HK11.out (fun b hb => (hul b hb).1)).kp HK12.out (fun b hb => (hul b hb).2)
  have e2 : mu + 1 = (us ++ [x.1]).length := by rw [List.length_append, HMU.out]; rfl
  have e3 : us.map usC ++ [.string (strB x.1)] = (us ++ [x.1]).map usC := by rw [List.map_append]; rfl
  rw [e2, e3] at RU
  (try simp only [Exit.inBlock, Exit.then])
  refine bodyPost_ret (results_at2 w12 Tryd.results26 (n := 4) (by kernel_rfl) (g := w1.heap.size) (o := 0) rfl (ms := tokC s i x) (BL.all HT12.out) rfl) rfl ⟨rfl, tv', uv', ?_, ?_, ?_⟩
  · exact ⟨(HP10.out.kp HK11.out hgg).kp HK12.out (by have := HSZ.out; omega), ⟨RT, RU, by omega, by rw [← e2, HMU.out]; exact HU.out⟩, _, HM11.out.kp HK12.out (by have := HGM.out; have := HSZ.out; omega), .inr rfl⟩
  · exact ((HK10W.out.mono (fun _ _ h => .inr (.inr h))).after HK11.out (fun _ _ e => .inl e)).after HK12.out (fun i hi e => by have := HSZ.out; omega)
  · rintro b (rfl | hb | hb)
    · exact .inl (.inl rfl)
    · exact .inl (.inr (.inl (htb b hb)))
    · exact (HR9.out.own b hb).elim (fun h1 => .inl (.inr (.inr h1))) (fun h1 => .inr (by have := HSZ.out; omega))
end Go.Proofs.YtgjgofjabdjclaaDoor
