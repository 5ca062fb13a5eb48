/- Several texts in one: Del. -/
import Derived.Test.YtgoefpbicohkfaaGreatDoorC24
/- slices.DeleteFunc on a list in a block of its own (out of texts of chapter 49, by bin/mk47c.py). -/
namespace Go.Proofs.YtgoefpbicohkfaaGreatDoor
open Go Go.RowKit Gf Sha

section
variable {P : Program} (w : World) {ops : Array Oper} {rest : List Oper} {o : Oper} {a : Act} {Q : Exit → Act → World → Prop}
/-- x[k:], some of it left. -/
theorem wpList_cutV (hg : o.guard = none) (s lo : Operand) (ty te : TypeId) (m : Nat) (hop : o.op = .slice ty s (some lo) none none) (hu : P.underlying ty = some (.slice te)) (hs : (sizeOf te).run P w = .ok m w)
    (g p n c k : Nat) (hv : a.eval s = .slice (some ⟨g, p, none⟩) n c) (hlo : a.eval lo = .int .i64 (k : Int)) (hk : k < n) (hc : n ≤ c)
    (h : wpList P ops Q rest (a.put o.dst (.slice (some ⟨g, p + k * m, none⟩) (n - k) (c - k))) w) : wpList P ops Q (o :: rest) a w :=
  wpList_plain hg fun K hK => by
    unfold Oper.wp execOp
    simp only [hop, Option.map_some, Option.map_none, hv, hlo]
    have h1 : k ≤ n := by omega
    have h2 : ¬ c = k := by omega
    simp [Instr.sliceAt, Instr.slice, run_underlying hu, Instr.sliceBounds, Instr.sliceBound, asIntOf, hs, Result.andThen, addr_add, h1, h2]
    exact hK _ _ h
/-- x[:k]. -/
theorem wpList_preV (hg : o.guard = none) (s hi : Operand) (ty te : TypeId) (m : Nat) (hop : o.op = .slice ty s none (some hi) none) (hu : P.underlying ty = some (.slice te)) (hs : (sizeOf te).run P w = .ok m w)
    (g p n c k : Nat) (hv : a.eval s = .slice (some ⟨g, p, none⟩) n c) (hlo : a.eval hi = .int .i64 (k : Int)) (hk : k ≤ n) (hc : n ≤ c) (hc0 : 0 < c)
    (h : wpList P ops Q rest (a.put o.dst (.slice (some ⟨g, p, none⟩) k c)) w) : wpList P ops Q (o :: rest) a w :=
  wpList_plain hg fun K hK => by
    unfold Oper.wp execOp
    simp only [hop, Option.map_some, Option.map_none, hv, hlo]
    have h1 : k ≤ c := by omega
    have h2 : ¬ c = 0 := by omega
    simp [Instr.sliceAt, Instr.slice, run_underlying hu, Instr.sliceBounds, Instr.sliceBound, asIntOf, hs, Result.andThen, addr_add, h1, h2]
    exact hK _ _ h
theorem zeroCells_one {zc : Array Value} {n : Nat} (h0 : 0 < zc.size) (h : ∀ v ∈ zc.toList, v.oneCell' = true) : (Builtin.zeroCells zc n).toList.length = n * zc.size ∧ ∀ v ∈ (Builtin.zeroCells zc n).toList, v.oneCell' = true := by
  unfold Builtin.zeroCells
  refine ⟨by simp, fun v hv => ?_⟩
  simp only [Array.toList_map, Array.toList_range, List.mem_map, List.mem_range] at hv
  obtain ⟨i, _, rfl⟩ := hv
  have hm := Nat.mod_lt i h0
  rw [getElem!_pos zc _ hm]
  exact h _ (by simp)
/-- clear(x): the cells of the block ahead of it stand. -/
theorem run_clearV (t te ty : TypeId) (i : TypeInfo) (z : Value) (ht : P.underlying t = some (.slice te)) (hi : P.info? te = some i) (hz : i.zero = some z) (h0 : 0 < z.cells.size) (h1 : ∀ v ∈ z.cells.toList, v.oneCell' = true) (g p n c : Nat) (cs : List Value) (hb : BL w g te cs) (hp : p + n * z.cells.size ≤ cs.length) (hn : 0 < n) :
    ∃ w' zs, (Builtin.clear_ #[t] ty #[.slice (some ⟨g, p, none⟩) n c]).run P w = .ok (.tuple #[]) w' ∧ BL w' g te (splice cs p zs) ∧ zs.length = n * z.cells.size ∧ Kp (· = g) w w' := by
  obtain ⟨hl, ho⟩ := zeroCells_one (n := n) h0 h1
  obtain ⟨w', hr, hb', hk, _⟩ := run_storeCells (P := P) (Builtin.zeroCells z.cells n).toList ho p _ 0 cs w (Nat.zero_add _) hb (by rw [hl]; exact hp)
  rw [List.drop_zero] at hr hb'
  have hv : (zeroValue te).run P w = .ok z w := by simp [zeroValue, typeInfo, hi, hz]
  refine ⟨w', _, ?_, hb', hl, hk⟩
  obtain ⟨m, rfl⟩ : ∃ m, n = m + 1 := ⟨n - 1, by omega⟩
  simp [Builtin.clear_, run_underlying ht, hv, hr]
theorem wpList_clearV (hg : o.guard = none) (x : Operand) (t te : TypeId) (i : TypeInfo) (z : Value) (hop : o.op = .call { callee := .builtin .clear, args := #[x], argTypes := #[t] }) (ht : P.underlying t = some (.slice te)) (hi : P.info? te = some i) (hz : i.zero = some z) (h0 : 0 < z.cells.size) (h1 : ∀ v ∈ z.cells.toList, v.oneCell' = true) (g p n c m : Nat) (hm : z.cells.size = m) (cs : List Value) (hx : a.eval x = .slice (some ⟨g, p, none⟩) n c) (hb : BL w g te cs) (hp : p + n * m ≤ cs.length) (hn : 0 < n)
    (h : ∀ w' zs, BL w' g te (splice cs p zs) → zs.length = n * m → Kp (· = g) w w' → wpList P ops Q rest (a.put o.dst (.tuple #[])) w') : wpList P ops Q (o :: rest) a w :=
  wpList_plain hg fun K hK => by
    subst hm
    obtain ⟨w', zs, hr, h2, h3, h4⟩ := run_clearV w t te o.type i z ht hi hz h0 h1 g p n c cs hb hp hn
    unfold Oper.wp execOp
    simp only [hop, resolve, invoke, builtin, Sem.run_bind, Sem.run_pure, Result.andThen_ok, List.map_toArray, List.map_cons, List.map_nil, hx, hr]
    exact hK _ _ (h w' zs h2 h3 h4)
end
theorem splice_get {l vs : List Value} {o k : Nat} (h : o + vs.length ≤ l.length) : (splice l o vs)[k]? = if k < o then l[k]? else if k < o + vs.length then vs[k - o]? else l[k]? := by
  unfold splice
  have e1 : (l.take o).length = o := by rw [List.length_take]; omega
  by_cases h1 : k < o
  · rw [if_pos h1, List.append_assoc, List.getElem?_append_left (by omega), List.getElem?_take_of_lt h1]
  rw [if_neg h1, List.append_assoc, List.getElem?_append_right (by omega), e1]
  by_cases h2 : k < o + vs.length
  · rw [if_pos h2, List.getElem?_append_left (by omega)]
  · rw [if_neg h2, List.getElem?_append_right (by omega), List.getElem?_drop, show o + vs.length + (k - o - vs.length) = k by omega]
section
variable {w w' : World} {g p q : Nat} {te : TypeId} {cs vs ms : List Value}
theorem BL.cells (h : BL w g te cs) {k : Nat} {v : Value} (hk : k < cs.length) (hv : w.cell? ⟨g, k, none⟩ = some v) : cs[k]? = some v := by
  obtain ⟨u, hu⟩ : ∃ u, cs[k]? = some u := ⟨cs[k], List.getElem?_eq_getElem hk⟩
  have := h.get hu
  rw [hv] at this
  rw [hu, this]
theorem at_splice (hb : BL w g te cs) (hb' : BL w' g te (splice cs p vs)) (hl : p + vs.length ≤ cs.length) (hat : At w g q ms) (hq : q + ms.length ≤ cs.length) (hne : q + ms.length ≤ p ∨ p + vs.length ≤ q) : At w' g q ms := fun j v hj => by
  have hj1 := (List.getElem?_eq_some_iff.1 hj).1
  refine hb'.get ?_
  rw [splice_get hl]
  have hc := hb.cells (by omega) (hat j v hj)
  rcases hne with h | h
  · rw [if_pos (by omega)]; exact hc
  · rw [if_neg (by omega), if_neg (by omega)]; exact hc
theorem at_spliced (hb' : BL w' g te (splice cs p vs)) (hl : p + vs.length ≤ cs.length) : At w' g p vs := fun j v hj => by
  have hj1 := (List.getElem?_eq_some_iff.1 hj).1
  refine hb'.get ?_
  rw [splice_get hl, if_neg (by omega), if_pos (by omega), show p + j - p = j by omega]; exact hj
end
/-- What IndexFunc returns. -/
def idxP {α : Type} (p : α → Bool) (L : List α) (r : Int) : Prop := (r = -1 ∧ ∀ x ∈ L, p x = false) ∨ ∃ (i : Nat) (x : α), r = (i : Int) ∧ L[i]? = some x ∧ p x = true ∧ ∀ y ∈ L.take i, p y = false
/-- The elements that are kept. -/
def kpL {α : Type} (p : α → Bool) (L : List α) : List α := L.filter fun x => !p x
theorem kpL_all {α : Type} {p : α → Bool} {L : List α} (h : ∀ x ∈ L, p x = false) : kpL p L = L := List.filter_eq_self.2 (fun x hx => by rw [h x hx]; rfl)
theorem kpL_step {α : Type} {p : α → Bool} {L : List α} {j : Nat} {x : α} (h : L[j]? = some x) : kpL p (L.take (j + 1)) = kpL p (L.take j) ++ if p x then [] else [x] := by
  unfold kpL
  rw [take_next h, List.filter_append]
  cases hp : p x <;> simp [hp]
/-- A list of which the first i are kept ones, and those behind j still stand. -/
structure DFn {α : Type} (R : Rdg α) (s : Nat) (te : TypeId) (w : World) (g o n c : Nat) (L : List α) (p : α → Bool) (i j : Nat) : Prop where
  blk : ∃ cs, BL w g te cs ∧ o + n * s ≤ cs.length
  len : L.length = n
  ilen : (kpL p (L.take j)).length = i
  lo : ∀ m (h : m < (kpL p (L.take j)).length), ∃ cs, At w g (o + m * s) cs ∧ R w cs (kpL p (L.take j))[m]
  hi : ∀ m (h : m < L.length), j ≤ m → ∃ cs, At w g (o + m * s) cs ∧ R w cs L[m]
section
variable {α : Type} {R : Rdg α} {s : Nat} {te : TypeId} {w w' : World} {g o n c : Nat} {L : List α} {p : α → Bool} {i j : Nat}
theorem DFn.kept (h : DFn R s te w g o n c L p i j) (hR : Stay R) (hb : Below w.heap.size w w') : DFn R s te w' g o n c L p i j :=
  ⟨let ⟨cs, h1, h2⟩ := h.blk; ⟨cs, h1.kept hb, h2⟩, h.len, h.ilen, fun m hm => let ⟨cs, h1, h2⟩ := h.lo m hm; ⟨cs, h1.kept hb, hR _ _ _ _ h2 hb⟩, fun m hm hj => let ⟨cs, h1, h2⟩ := h.hi m hm hj; ⟨cs, h1.kept hb, hR _ _ _ _ h2 hb⟩⟩
theorem DFn.ile (h : DFn R s te w g o n c L p i j) : i ≤ j := by
  rw [← h.ilen]
  exact Nat.le_trans (List.length_filter_le _ _) (by rw [List.length_take]; omega)
theorem DFn.skip (h : DFn R s te w g o n c L p i j) {x : α} (hx : L[j]? = some x) (hp : p x = true) : DFn R s te w g o n c L p i (j + 1) := by
  have hk : kpL p (L.take (j + 1)) = kpL p (L.take j) := by rw [kpL_step hx, hp, if_pos rfl, List.append_nil]
  exact ⟨h.blk, h.len, by rw [hk]; exact h.ilen, by rw [hk]; exact h.lo, fun m hm hj => h.hi m hm (by omega)⟩
theorem DFn.store (h : DFn R s te w g o n c L p i j) (hlen : ∀ w cs x, R w cs x → cs.length = s) (hst : ∀ cs x, R w cs x → R w' cs x) (hij : i < j) {x : α} (hx : L[j]? = some x) (hp : p x = false) {cells vs : List Value} (hb : BL w g te cells) (hl : o + n * s ≤ cells.length) (hvs : R w vs x) (hb' : BL w' g te (splice cells (o + i * s) vs)) : DFn R s te w' g o n c L p (i + 1) (j + 1) := by
  have hjn := (List.getElem?_eq_some_iff.1 hx).1
  have hvl := hlen _ _ _ hvs
  have hln := h.len
  have his : i * s + s ≤ n * s := by rw [← Nat.succ_mul]; exact Nat.mul_le_mul_right _ (by omega)
  have hfit : o + i * s + vs.length ≤ cells.length := by rw [hvl]; omega
  have hk : kpL p (L.take (j + 1)) = kpL p (L.take j) ++ [x] := by rw [kpL_step hx, hp]; rfl
  have hil := h.ilen
  refine ⟨⟨_, hb', by rw [splice_length _ _ _ hfit]; exact hl⟩, hln, by rw [hk, List.length_append, hil]; rfl, fun m hm => ?_, fun m hm hjm => ?_⟩
  · by_cases hmi : m < i
    · obtain ⟨cs, a1, a2⟩ := h.lo m (by omega)
      have hms : m * s + s ≤ i * s := by rw [← Nat.succ_mul]; exact Nat.mul_le_mul_right _ hmi
      have hcl := hlen _ _ _ a2
      refine ⟨cs, at_splice hb hb' hfit a1 (by omega) (.inl (by omega)), ?_⟩
      have e : (kpL p (L.take (j + 1)))[m] = (kpL p (L.take j))[m]'(by omega) := by
        have h9 : (kpL p (L.take (j + 1)))[m]? = (kpL p (L.take j))[m]? := by rw [hk, List.getElem?_append_left (by omega)]
        rw [List.getElem?_eq_getElem hm, List.getElem?_eq_getElem (by omega)] at h9
        exact Option.some.inj h9
      rw [e]; exact hst _ _ a2
    · have hme : m = i := by rw [hk, List.length_append, hil, List.length_singleton] at hm; omega
      subst hme
      refine ⟨vs, at_spliced hb' hfit, ?_⟩
      have e : (kpL p (L.take (j + 1)))[m] = x := by
        have h9 : (kpL p (L.take (j + 1)))[m]? = some x := by rw [hk, List.getElem?_append_right (by omega), hil, Nat.sub_self]; rfl
        rw [List.getElem?_eq_getElem hm] at h9
        exact Option.some.inj h9
      rw [e]; exact hst _ _ hvs
  · obtain ⟨cs, a1, a2⟩ := h.hi m hm (by omega)
    have hms : m * s + s ≤ n * s := by rw [← Nat.succ_mul]; exact Nat.mul_le_mul_right _ (by omega)
    have him : i * s + s ≤ m * s := by rw [← Nat.succ_mul]; exact Nat.mul_le_mul_right _ (by omega)
    have hcl := hlen _ _ _ a2
    exact ⟨cs, at_splice hb hb' hfit a1 (by omega) (.inr (by omega)), hst _ _ a2⟩
/-- At the end: what stands ahead of the cut. -/
theorem DFn.fin {b : Nat} (h : DFn R s te w g o n c L p i n) (hlen : ∀ w cs x, R w cs x → cs.length = s) (hst : ∀ cs x, R w cs x → R w' cs x) {cells zs : List Value} (hb : BL w g te cells) (hl : o + n * s ≤ cells.length) (hb' : BL w' g te (splice cells (o + i * s) zs)) (hz : zs.length = (n - i) * s) (hin : i ≤ n) (hnc : n ≤ c) (hlim : L.length * b ≤ lim) : LS R s b w' (some ⟨g, o, none⟩) i c (kpL p L) := by
  have hln := h.len
  have hil := h.ilen
  have hlo := h.lo
  rw [← hln, List.take_length] at hil hlo
  have hs0 : i * s + (n - i) * s = n * s := by rw [← Nat.add_mul, show i + (n - i) = n by omega]
  have hfit : o + i * s + zs.length ≤ cells.length := by rw [hz]; omega
  refine ⟨hil, by omega, ?_, fun m hm => ?_⟩
  · exact Nat.le_trans (Nat.mul_le_mul_right _ (by rw [← hil]; exact List.length_filter_le _ _)) hlim
  · obtain ⟨cs, a1, a2⟩ := hlo m (by omega)
    have hms : m * s + s ≤ i * s := by rw [← Nat.succ_mul]; exact Nat.mul_le_mul_right _ (by omega)
    have hcl := hlen _ _ _ a2
    exact ⟨g, o, cs, rfl, at_splice hb hb' hfit a1 (by omega) (.inl (by omega)), hst _ _ a2⟩
end
/-- A list in memory; its block is one of its own type. -/
def LT {α : Type} (R : Rdg α) (s b : Nat) (te : TypeId) (w : World) (A : Option Addr) (n c : Nat) (L : List α) : Prop := LS R s b w A n c L ∧ ∀ a, A = some a → ∃ cs, BL w a.block te cs
section
variable {α : Type} {R : Rdg α} {s b n c base g : Nat} {te t : TypeId} {w w' : World} {A : Option Addr} {L : List α} {l : List Value}
theorem LT.kp {S : Nat → Prop} (h : LT R s b te w A n c L) (hk : Kp S w w') (hn : ∀ a, A = some a → ¬ S a.block) (hR : ∀ cs x, R w cs x → R w' cs x) : LT R s b te w' A n c L :=
  ⟨h.1.kpn hR hk hn, fun a e => let ⟨cs, hb⟩ := h.2 a e; ⟨cs, hk.bl hb (hn a e)⟩⟩
theorem LT.kept (h : LT R s b te w A n c L) (hR : Stay R) (hb : Below w.heap.size w w') : LT R s b te w' A n c L :=
  ⟨h.1.kept hR hb, fun a e => let ⟨cs, h9⟩ := h.2 a e; ⟨cs, h9.kept hb⟩⟩
theorem LT.ne_bl (h : LT R s b te w A n c L) (hb : BL w g t l) (ht : t ≠ te) : ∀ a, A = some a → ¬ a.block = g := fun a e hg => by
  obtain ⟨cs, hb'⟩ := h.2 a e
  subst hg
  exact ht (hb.ty hb')
end
theorem BL.idx {w : World} {g k : Nat} {t : TypeId} {l : List Value} {v : Value} (h : BL w g t l) (hv : w.cell? ⟨g, k, none⟩ = some v) : k < l.length := by
  rcases Nat.lt_or_ge k l.length with h1 | h1
  · exact h1
  · exfalso
    have h9 : w.heap[g]? = some (.cells l.toArray t) := h
    have h10 : l.toArray[k]? = none := by simp [h1]
    simp [World.cell?, h9, h1] at hv
theorem DFn.startL {α : Type} {R : Rdg α} {s b : Nat} {te : TypeId} {w : World} {g o n c : Nat} {L : List α} {p : α → Bool} {i : Nat} (h : LT R s b te w (some ⟨g, o, none⟩) n c L) (hlen : ∀ w cs x, R w cs x → cs.length = s) (hs : 0 < s) {x : α} (hx : L[i]? = some x) (hp : p x = true) (hall : ∀ y ∈ L.take i, p y = false) : DFn R s te w g o n c L p i (i + 1) := by
  have hl : L.length = n := h.1.1
  have hin := (List.getElem?_eq_some_iff.1 hx).1
  have hk : kpL p (L.take (i + 1)) = L.take i := by rw [kpL_step hx, hp, if_pos rfl, List.append_nil, kpL_all hall]
  have hcell : ∀ m (hm : m < L.length), ∃ cs, At w g (o + m * s) cs ∧ R w cs L[m] := fun m hm => by
    obtain ⟨g', o', cs, e, h1, h2⟩ := h.1.2.2.2 m hm
    cases e
    exact ⟨cs, h1, h2⟩
  obtain ⟨cells, hb⟩ := h.2 _ rfl
  refine ⟨⟨cells, hb, ?_⟩, hl, by rw [hk, List.length_take]; omega, fun m hm => ?_, fun m hm _ => hcell m hm⟩
  · obtain ⟨cs, a1, a2⟩ := hcell (n - 1) (by omega)
    have hcl := hlen _ _ _ a2
    have h3 := hb.idx (a1 (s - 1) (cs[s - 1]'(by omega)) (List.getElem?_eq_getElem _))
    have e : n * s = (n - 1) * s + s := by rw [← Nat.succ_mul]; congr 1; omega
    omega
  have hm' : m < i := by rw [hk, List.length_take] at hm; omega
  obtain ⟨cs, a1, a2⟩ := hcell m (by omega)
  refine ⟨cs, a1, ?_⟩
  have e : (kpL p (L.take (i + 1)))[m] = L[m]'(by omega) := by
    have h9 : (kpL p (L.take (i + 1)))[m]? = L[m]? := by rw [hk, List.getElem?_take_of_lt hm']
    rw [List.getElem?_eq_getElem hm, List.getElem?_eq_getElem (by omega)] at h9
    exact Option.some.inj h9
  rw [e]; exact a2
theorem idxP.neg {α : Type} {p : α → Bool} {L : List α} {r : Int} (h : idxP p L r) (ha : ∀ x ∈ L, p x = false) : r = -1 := by
  rcases h with ⟨h, _⟩ | ⟨i, x, _, h2, h3, _⟩
  · exact h
  · rw [ha x (List.mem_of_getElem? h2)] at h3; cases h3
theorem idxP.pos {α : Type} {p : α → Bool} {L : List α} {r : Int} (h : idxP p L r) (ha : ¬ ∀ x ∈ L, p x = false) : ∃ (i : Nat) (x : α), r = (i : Int) ∧ L[i]? = some x ∧ p x = true ∧ ∀ y ∈ L.take i, p y = false := by
  rcases h with ⟨_, h⟩ | h
  · exact absurd h ha
  · exact h
theorem DFn.at_ {α : Type} {R : Rdg α} {s : Nat} {te : TypeId} {w : World} {g o n c : Nat} {L : List α} {p : α → Bool} {i j : Nat} (h : DFn R s te w g o n c L p i j) (hj : j < n) : ∃ x cs, L[j]? = some x ∧ At w g (o + j * s) cs ∧ R w cs x := by
  have hl : j < L.length := by rw [h.len]; exact hj
  obtain ⟨cs, a1, a2⟩ := h.hi j hl (Nat.le_refl _)
  exact ⟨_, cs, List.getElem?_eq_getElem hl, a1, a2⟩
theorem LT.addr {α : Type} {R : Rdg α} {s b n c : Nat} {te : TypeId} {w : World} {A : Option Addr} {L : List α} (h : LT R s b te w A n c L) (hn : 0 < n) (hl : L.length = n) : ∃ g o, A = some ⟨g, o, none⟩ := by
  obtain ⟨g, o, cs, e, _⟩ := h.1.2.2.2 0 (by omega)
  exact ⟨g, o, e⟩
theorem ne_neg1 (i : Nat) : (((i : Int)) == (-1 : Int)) = false := by
  rw [beq_eq_false_iff_ne]; omega
theorem splice_fullV {l vs : List Value} (h : vs.length = l.length) : splice l 0 vs = vs := by simp [splice, h]
theorem len_ppt {w : World} : ∀ cs x, rPpT w cs x → cs.length = 5 := fun cs x h => len_pp cs x h.1
theorem ones_ppt {w : World} : ∀ cs x, rPpT w cs x → ∀ u ∈ cs, u.oneCell' = true := fun cs x h => ones_pp cs x h.1
/-- A valid proposal. -/
def rPpV : Rdg Pp := fun w cs p => rPpT w cs p ∧ validB p = true
theorem stay_ppv : Stay rPpV := fun _ _ _ _ h hb => ⟨stay_ppt _ _ _ _ h.1 hb, h.2⟩
theorem len_ppv {w : World} : ∀ cs x, rPpV w cs x → cs.length = 5 := fun cs x h => len_pp cs x h.1.1
theorem ones_ppv {w : World} : ∀ cs x, rPpV w cs x → ∀ u ∈ cs, u.oneCell' = true := fun cs x h => ones_pp cs x h.1.1
set_option maxRecDepth 100000 in
set_option maxHeartbeats 2000000 in
theorem idx_of (A : Option Addr) (n c gc : Nat) (L : List Pp) (p : Pp → Bool) (w : World) (C : World → Prop) (hL : LS rPpT 5 72 w A n c L) (hC : C w) (hCk : ∀ w1 w2, C w1 → Below w1.heap.size w1 w2 → C w2)
    (hf : ∀ w1 cs x, C w1 → rPpT w1 cs x → Calls Tryz.prog 61 #[.agg cs.toArray, .pointer (some ⟨gc, 0, none⟩)] w1 fun e w2 => e = .returned (.bool (p x)) ∧ Below w1.heap.size w1 w2) :
    Calls Tryz.prog 54 #[.slice A n c, .func (.func 61) #[] #[.pointer (some ⟨gc, 0, none⟩)]] w fun e w' => ∃ r, e = .returned (.int .i64 r) ∧ idxP p L r ∧ Below w.heap.size w w' := by
  have hn := hL.len_le
  have H := Lib.hid hL
  have HL := Lib.hid hL.1
  have HC := Lib.hid hC
  have HCK := Lib.hid hCk
  have HF := Lib.hid hf
  clear hL hC hCk hf
  go_enter Tryz.func54, Tryz.ntmps54
  go_wp2_with fail
  go_loopw [8] (fun iv wr => ∃ k : Nat, k ≤ n ∧ iv = .int .i64 (k : Int) ∧ Hid (∀ x ∈ L.take k, p x = false) ∧ Hid (Below w.heap.size w wr)) (fun iv _ => n - (intOf iv).toNat)
  case atStart => exact ⟨0, by omega, rfl, Lib.hid (fun x hx => by simp at hx), Lib.hid (Below.refl _ _)⟩
  case round =>
    obtain ⟨k, hk, rfl, hall, hb⟩ := hrel
    obtain ⟨wx, hwx⟩ : ∃ x, x = wr := ⟨_, rfl⟩
    rw [← hwx] at hb ⊢
    clear hwx
    by_cases hlt : k < n
    · obtain ⟨x, g, o, cs, hs, ea, hat, hr⟩ := H.out.at_ stay_ppt hb.out hlt
      have HR := Lib.hid hr
      have HX := Lib.hid hs
      have HA := Lib.hid hat
      have HLEN := Lib.hid (len_ppt cs x hr)
      subst ea
      clear hs hat hr
      cases h1 : p x with
      | true =>
        go_wp2_with (first
          | ((with_reducible show wpList _ _ _ (⟨some 15, _, _, _, _, _⟩ :: _) _ _); refine wpList_loadv _ rfl 34 (.tmp 14) rfl 5 (by kernel_rfl) g (o + k * 5) cs (by go_simp) HA.out HLEN.out ?_)
          | (go_at_call 61; refine (HF.out wx cs x (HCK.out _ _ HC.out hb.out) HR.out).mono ?_; rintro e w2 ⟨rfl, bl⟩; rw [h1]; have HX2 := Lib.hid bl; clear bl))
        go_ret
        exact ⟨(k : Int), rfl, .inr ⟨k, x, rfl, HX.out, h1, hall.out⟩, below_thenB hb.out hb.out.size HX2.out⟩
      | false =>
        have HALL : Hid (∀ x ∈ L.take (k + 1), p x = false) := Lib.hid (fun y hy => by
          rw [take_next HX.out] at hy
          rcases List.mem_append.1 hy with h | h
          · exact hall.out y h
          · rw [List.mem_singleton.1 h]; exact h1)
        go_wp2_with (first
          | ((with_reducible show wpList _ _ _ (⟨some 15, _, _, _, _, _⟩ :: _) _ _); refine wpList_loadv _ rfl 34 (.tmp 14) rfl 5 (by kernel_rfl) g (o + k * 5) cs (by go_simp) HA.out HLEN.out ?_)
          | (go_at_call 61; refine (HF.out wx cs x (HCK.out _ _ HC.out hb.out) HR.out).mono ?_; rintro e w2 ⟨rfl, bl⟩; rw [h1]; have HX2 := Lib.hid bl; clear bl))
        go_roundw
        case rel => exact ⟨k + 1, by omega, by go_num, HALL, Lib.hid (below_thenB hb.out hb.out.size HX2.out)⟩
        case measure => simp [intOf]; omega
    · obtain rfl : k = n := by omega
      go_wp2_with fail
      go_ret
      exact ⟨-1, rfl, .inl ⟨rfl, fun x hx => hall.out x (by rw [take_end HL.out]; exact hx)⟩, hb.out⟩
set_option maxRecDepth 100000 in
set_option maxHeartbeats 4000000 in
theorem del_of (A : Option Addr) (n c gc : Nat) (L : List Pp) (p : Pp → Bool) (w : World) (C : World → Prop) (hO : LT rPpT 5 72 34 w A n c L) (hC : C w) (hCk : ∀ w1 w2, C w1 → Below w1.heap.size w1 w2 → C w2) (hCs : ∀ w1 w2 g cs, BL w1 g 34 cs → C w1 → Kp (· = g) w1 w2 → C w2)
    (hf : ∀ w1 cs x, C w1 → rPpT w1 cs x → Calls Tryz.prog 61 #[.agg cs.toArray, .pointer (some ⟨gc, 0, none⟩)] w1 fun e w2 => e = .returned (.bool (p x)) ∧ Below w1.heap.size w1 w2) :
    Calls Tryz.prog 34 #[.slice A n c, .func (.func 61) #[] #[.pointer (some ⟨gc, 0, none⟩)]] w fun e w' => ∃ n' c', e = .returned (.slice A n' c') ∧ LT rPpT 5 72 34 w' A n' c' (kpL p L) ∧ Kp (fun b => (Value.slice A n c).ownBlock = some b) w w' := by
  have hL := hO.1
  have hn := hL.len_le
  have hnc := hL.2.1
  have H := Lib.hid hL
  have HO := Lib.hid hO
  have HL := Lib.hid hL.1
  have HLIM := Lib.hid (show L.length * 72 ≤ lim by rw [hL.1]; exact hL.2.2.1)
  have HC := Lib.hid hC
  have HCK := Lib.hid hCk
  have HCS := Lib.hid hCs
  have HF := Lib.hid hf
  clear hL hO hC hCk hCs hf
  by_cases hall : ∀ x ∈ L, p x = false
  · have HALL := Lib.hid hall
    clear hall
    go_enter Tryz.func34, Tryz.ntmps34
    go_wp2_with (first
      | (go_at_call 54; refine (idx_of A n c gc L p w C H.out HC.out HCK.out HF.out).mono ?_; rintro e w1 ⟨r, rfl, hr, b1⟩; obtain rfl := idxP.neg hr HALL.out; have HB1 := Lib.hid b1; clear hr b1))
    go_ret
    exact ⟨n, c, rfl, by rw [kpL_all HALL.out]; exact HO.out.kept stay_ppt HB1.out, Kp.of_below HB1.out⟩
  · have HALL := Lib.hid hall
    have hn0 : 0 < n := by
      rcases Nat.eq_zero_or_pos n with h | h
      · exfalso
        apply hall
        have : L = [] := List.eq_nil_of_length_eq_zero (by rw [HL.out]; exact h)
        subst this
        intro x hx; cases hx
      · exact h
    obtain ⟨g, o, rfl⟩ := HO.out.addr hn0 HL.out
    clear hall
    go_enter Tryz.func34, Tryz.ntmps34
    go_wp2_with (first
      | (go_at_call 54; refine (idx_of (some ⟨g, o, none⟩) n c gc L p w C H.out HC.out HCK.out HF.out).mono ?_; rintro e w1 ⟨r, rfl, hr, b1⟩; obtain ⟨i0, x0, rfl, hx0, hp0, hal⟩ := idxP.pos hr HALL.out; have HB1 := Lib.hid b1; have HD1 := Lib.hid ((DFn.startL HO.out (fun _ => len_ppt) (by decide) hx0 hp0 hal).kept stay_ppt b1); have hi0 : i0 < n := (by have := (List.getElem?_eq_some_iff.1 hx0).1; rw [HL.out] at this; exact this); have e1 := ne_neg1 i0; clear hr b1 hx0 hp0 hal))
    go_loopw [5, 6] (fun iv jv wr => ∃ i j : Nat, i < j ∧ j ≤ n ∧ iv = .int .i64 (i : Int) ∧ jv = .int .i64 (j : Int) ∧ Hid (DFn rPpT 5 34 wr g o n c L p i j) ∧ Hid (C wr) ∧ Hid (Kp (· = g) w wr)) (fun _ jv _ => n - (intOf jv).toNat)
    case atStart => exact ⟨i0, i0 + 1, by omega, by omega, rfl, by go_num, HD1, Lib.hid (HCK.out _ _ HC.out HB1.out), Lib.hid (Kp.of_below HB1.out)⟩
    case round =>
      obtain ⟨i, j, hij, hj, rfl, rfl, hd, hc, hkp⟩ := hrel
      obtain ⟨wx, hwx⟩ : ∃ x, x = wr := ⟨_, rfl⟩
      rw [← hwx] at hd hc hkp ⊢
      clear hwx
      obtain ⟨cells, hbl, hfit⟩ := hd.out.blk
      have HBL := Lib.hid hbl
      have HFIT := Lib.hid hfit
      clear hbl hfit
      by_cases hlt : j < n
      · obtain ⟨x, cs, hs, hat, hr⟩ := hd.out.at_ hlt
        have HR := Lib.hid hr
        have HX := Lib.hid hs
        have HA := Lib.hid hat
        have HLEN := Lib.hid (len_ppt cs x hr)
        have HONE := Lib.hid (ones_ppt cs x hr)
        have his : i * 5 + 5 ≤ n * 5 := by omega
        clear hs hat hr
        cases h1 : p x with
        | true =>
          go_wp2_with (first
            | ((with_reducible show wpList _ _ _ (⟨some 25, _, _, _, _, _⟩ :: _) _ _); refine wpList_loadv _ rfl 34 (.tmp 24) rfl 5 (by kernel_rfl) g (o + j * 5) cs (by go_simp) HA.out HLEN.out ?_)
            | ((with_reducible show wpList _ _ _ (⟨some 7, _, _, _, _, _⟩ :: _) _ _); refine wpList_alloc _ rfl 34 rfl ppZ ppZero ?_; intro w3 a1 a2 a3; have HV3 := Lib.hid a1; have HX3 := Lib.hid a2; clear a1 a2 a3)
            | ((with_reducible show wpList _ _ _ (⟨none, _, _, _, _, _⟩ :: _) _ _); refine wpList_storev _ rfl 34 (.tmp 7) (.tmp 25) rfl 5 (by kernel_rfl) wx.heap.size 0 _ ppZ cs rfl rfl HV3.out HLEN.out HONE.out (by decide) ?_; intro w4 a1 a2 a3; rw [splice_fullV (l := ppZ) (vs := cs) HLEN.out] at a1; have HV4 : Hid (BL w4 wx.heap.size 34 cs) := Lib.hid a1; have HX4 : Hid (Below wx.heap.size wx w4) := Lib.hid (((Kp.of_below (S := fun _ => False) HX3.out).after a2 (fun i hi e => by omega)).below (Nat.le_refl _) (fun _ h => h.elim)); clear a1 a2 a3)
            | ((with_reducible show wpList _ _ _ (⟨some 27, _, _, _, _, _⟩ :: _) _ _); refine wpList_loadv _ rfl 34 (.tmp 7) rfl 5 (by kernel_rfl) wx.heap.size 0 cs rfl (BL.all HV4.out) HLEN.out ?_)
            | (go_at_call 61; refine (HF.out w4 cs x (HCK.out _ _ hc.out HX4.out) (stay_ppt _ _ _ _ HR.out HX4.out)).mono ?_; rintro e w5 ⟨rfl, bl⟩; rw [h1]; have HX5 := Lib.hid (below_thenB HX4.out HX4.out.size bl); clear bl))
          go_roundw
          case rel => exact ⟨i, j + 1, by omega, by omega, rfl, by go_num, Lib.hid ((hd.out.kept stay_ppt HX5.out).skip HX.out h1), Lib.hid (HCK.out _ _ hc.out HX5.out), Lib.hid (hkp.out.trans (Kp.of_below HX5.out))⟩
          case measure => simp [intOf]; omega
        | false =>
          have HBLg := HBL.out.lt
          go_wp2_with (first
            | ((with_reducible show wpList _ _ _ (⟨some 25, _, _, _, _, _⟩ :: _) _ _); refine wpList_loadv _ rfl 34 (.tmp 24) rfl 5 (by kernel_rfl) g (o + j * 5) cs (by go_simp) HA.out HLEN.out ?_)
            | ((with_reducible show wpList _ _ _ (⟨some 7, _, _, _, _, _⟩ :: _) _ _); refine wpList_alloc _ rfl 34 rfl ppZ ppZero ?_; intro w3 a1 a2 a3; have HV3 := Lib.hid a1; have HX3 := Lib.hid a2; clear a1 a2 a3)
            | ((with_reducible show wpList _ _ _ (⟨none, _, _, _, _, _⟩ :: _) _ _); refine wpList_storev _ rfl 34 (.tmp 7) (.tmp 25) rfl 5 (by kernel_rfl) wx.heap.size 0 _ ppZ cs rfl rfl HV3.out HLEN.out HONE.out (by decide) ?_; intro w4 a1 a2 a3; rw [splice_fullV (l := ppZ) (vs := cs) HLEN.out] at a1; have HV4 : Hid (BL w4 wx.heap.size 34 cs) := Lib.hid a1; have HX4 : Hid (Below wx.heap.size wx w4) := Lib.hid (((Kp.of_below (S := fun _ => False) HX3.out).after a2 (fun i hi e => by omega)).below (Nat.le_refl _) (fun _ h => h.elim)); clear a1 a2 a3)
            | ((with_reducible show wpList _ _ _ (⟨some 27, _, _, _, _, _⟩ :: _) _ _); refine wpList_loadv _ rfl 34 (.tmp 7) rfl 5 (by kernel_rfl) wx.heap.size 0 cs rfl (BL.all HV4.out) HLEN.out ?_)
            | (go_at_call 61; refine (HF.out w4 cs x (HCK.out _ _ hc.out HX4.out) (stay_ppt _ _ _ _ HR.out HX4.out)).mono ?_; rintro e w5 ⟨rfl, bl⟩; rw [h1]; have HV5 := Lib.hid (HV4.out.kept bl); have HX5 := Lib.hid (below_thenB HX4.out HX4.out.size bl); have HBL5 := Lib.hid (HBL.out.kept HX5.out); clear bl)
            | ((with_reducible show wpList _ _ _ (⟨some 32, _, _, _, _, _⟩ :: _) _ _); refine wpList_loadv _ rfl 34 (.tmp 7) rfl 5 (by kernel_rfl) wx.heap.size 0 cs rfl (BL.all HV5.out) HLEN.out ?_)
            | ((with_reducible show wpList _ _ _ (⟨none, _, _, _, _, _⟩ :: _) _ _); refine wpList_storev _ rfl 34 (.tmp 33) (.tmp 32) rfl 5 (by kernel_rfl) g (o + i * 5) _ cells cs (by go_simp) rfl HBL5.out HLEN.out HONE.out (by have := HFIT.out; omega) ?_; intro w6 a1 a2 a3; have HBL6 := Lib.hid a1; have HK6 := Lib.hid a2; clear a1 a2 a3))
          have HD6 := Lib.hid ((hd.out.kept stay_ppt HX5.out).store (fun _ => len_ppt) (show ∀ cs x, rPpT w5 cs x → rPpT w6 cs x from fun _ _ h => h.kp HK6.out (fun i t l hl ht => hl.ne HBL5.out (by rcases ht with rfl | rfl <;> decide))) hij HX.out h1 HBL5.out HFIT.out (stay_ppt _ _ _ _ HR.out HX5.out) HBL6.out)
          go_roundw
          case rel => exact ⟨i + 1, j + 1, by omega, by omega, by go_num, by go_num, HD6, Lib.hid (HCS.out _ _ _ _ HBL5.out (HCK.out _ _ hc.out HX5.out) HK6.out), Lib.hid ((hkp.out.trans (Kp.of_below HX5.out)).trans HK6.out)⟩
          case measure => simp [intOf]; omega
      · obtain rfl : j = n := by omega
        go_wp2_with (first
          | ((with_reducible show wpList _ _ _ (⟨some 38, _, _, _, _, _⟩ :: _) _ _); refine wpList_cutV _ rfl (.tmp 36) (.tmp 37) 43 34 5 rfl Tryz.underlying43 (agg_size (P := Tryz.prog) _ (t := 34) (by kernel_rfl)) g o j c i rfl rfl hij hnc ?_)
          | ((with_reducible show wpList _ _ _ (⟨none, _, _, _, _, _⟩ :: _) _ _); obtain ⟨iS, i1, i2, i3, i4⟩ := info_some infoPp; refine wpList_clearV _ rfl (.tmp 38) 43 34 iS _ rfl Tryz.underlying43 i1 i2 (by decide) (one_val _ rfl) g (o + i * 5) (j - i) (c - i) 5 rfl cells rfl HBL.out (by have := HFIT.out; omega) (by omega) ?_; intro w6 zs a1 a2 a3; have HBL6 := Lib.hid a1; have HZS := Lib.hid a2; have HK6 := Lib.hid a3; clear a1 a2 a3 i1 i2 i3 i4)
          | ((with_reducible show wpList _ _ _ (⟨some 41, _, _, _, _, _⟩ :: _) _ _); refine wpList_preV _ rfl (.tmp 39) (.tmp 40) 43 34 5 rfl Tryz.underlying43 (agg_size (P := Tryz.prog) _ (t := 34) (by kernel_rfl)) g o j c i rfl rfl (by omega) hnc (by omega) ?_))
        go_ret
        exact ⟨i, c, rfl, ⟨hd.out.fin (fun _ => len_ppt) (fun _ _ h => h.kp HK6.out (fun i t l hl ht => hl.ne HBL.out (by rcases ht with rfl | rfl <;> decide))) HBL.out HFIT.out HBL6.out HZS.out (by omega) hnc HLIM.out, fun a e => by cases e; exact ⟨_, HBL6.out⟩⟩, (hkp.out.trans HK6.out).mono (fun b _ h => by rw [h]; rfl)⟩
set_option maxRecDepth 100000 in
set_option maxHeartbeats 2000000 in
theorem idx_pend (A : Option Addr) (n c ga gb : Nat) (L : List Pp) (p : Pp → Bool) (w : World) (C : World → Prop) (hL : LS rPpV 5 72 w A n c L) (hC : C w) (hCk : ∀ w1 w2, C w1 → Below w1.heap.size w1 w2 → C w2)
    (hf : ∀ w1 cs x, C w1 → rPpV w1 cs x → Calls Tryz.prog 36 #[.agg cs.toArray, .pointer (some ⟨ga, 0, none⟩), .pointer (some ⟨gb, 0, none⟩)] w1 fun e w2 => e = .returned (.bool (p x)) ∧ Below w1.heap.size w1 w2) :
    Calls Tryz.prog 54 #[.slice A n c, .func (.func 36) #[] #[.pointer (some ⟨ga, 0, none⟩), .pointer (some ⟨gb, 0, none⟩)]] w fun e w' => ∃ r, e = .returned (.int .i64 r) ∧ idxP p L r ∧ Below w.heap.size w w' := by
  have hn := hL.len_le
  have H := Lib.hid hL
  have HL := Lib.hid hL.1
  have HC := Lib.hid hC
  have HCK := Lib.hid hCk
  have HF := Lib.hid hf
  clear hL hC hCk hf
  go_enter Tryz.func54, Tryz.ntmps54
  go_wp2_with fail
  go_loopw [8] (fun iv wr => ∃ k : Nat, k ≤ n ∧ iv = .int .i64 (k : Int) ∧ Hid (∀ x ∈ L.take k, p x = false) ∧ Hid (Below w.heap.size w wr)) (fun iv _ => n - (intOf iv).toNat)
  case atStart => exact ⟨0, by omega, rfl, Lib.hid (fun x hx => by simp at hx), Lib.hid (Below.refl _ _)⟩
  case round =>
    obtain ⟨k, hk, rfl, hall, hb⟩ := hrel
    obtain ⟨wx, hwx⟩ : ∃ x, x = wr := ⟨_, rfl⟩
    rw [← hwx] at hb ⊢
    clear hwx
    by_cases hlt : k < n
    · obtain ⟨x, g, o, cs, hs, ea, hat, hr⟩ := H.out.at_ stay_ppv hb.out hlt
      have HR := Lib.hid hr
      have HX := Lib.hid hs
      have HA := Lib.hid hat
      have HLEN := Lib.hid (len_ppv cs x hr)
      subst ea
      clear hs hat hr
      cases h1 : p x with
      | true =>
        go_wp2_with (first
          | ((with_reducible show wpList _ _ _ (⟨some 15, _, _, _, _, _⟩ :: _) _ _); refine wpList_loadv _ rfl 34 (.tmp 14) rfl 5 (by kernel_rfl) g (o + k * 5) cs (by go_simp) HA.out HLEN.out ?_)
          | (go_at_call 36; refine (HF.out wx cs x (HCK.out _ _ HC.out hb.out) HR.out).mono ?_; rintro e w2 ⟨rfl, bl⟩; rw [h1]; have HX2 := Lib.hid bl; clear bl))
        go_ret
        exact ⟨(k : Int), rfl, .inr ⟨k, x, rfl, HX.out, h1, hall.out⟩, below_thenB hb.out hb.out.size HX2.out⟩
      | false =>
        have HALL : Hid (∀ x ∈ L.take (k + 1), p x = false) := Lib.hid (fun y hy => by
          rw [take_next HX.out] at hy
          rcases List.mem_append.1 hy with h | h
          · exact hall.out y h
          · rw [List.mem_singleton.1 h]; exact h1)
        go_wp2_with (first
          | ((with_reducible show wpList _ _ _ (⟨some 15, _, _, _, _, _⟩ :: _) _ _); refine wpList_loadv _ rfl 34 (.tmp 14) rfl 5 (by kernel_rfl) g (o + k * 5) cs (by go_simp) HA.out HLEN.out ?_)
          | (go_at_call 36; refine (HF.out wx cs x (HCK.out _ _ HC.out hb.out) HR.out).mono ?_; rintro e w2 ⟨rfl, bl⟩; rw [h1]; have HX2 := Lib.hid bl; clear bl))
        go_roundw
        case rel => exact ⟨k + 1, by omega, by go_num, HALL, Lib.hid (below_thenB hb.out hb.out.size HX2.out)⟩
        case measure => simp [intOf]; omega
    · obtain rfl : k = n := by omega
      go_wp2_with fail
      go_ret
      exact ⟨-1, rfl, .inl ⟨rfl, fun x hx => hall.out x (by rw [take_end HL.out]; exact hx)⟩, hb.out⟩
set_option maxRecDepth 100000 in
set_option maxHeartbeats 4000000 in
theorem del_pend (A : Option Addr) (n c ga gb : Nat) (L : List Pp) (p : Pp → Bool) (w : World) (C : World → Prop) (hO : LT rPpV 5 72 34 w A n c L) (hC : C w) (hCk : ∀ w1 w2, C w1 → Below w1.heap.size w1 w2 → C w2) (hCs : ∀ w1 w2 g cs, BL w1 g 34 cs → C w1 → Kp (· = g) w1 w2 → C w2)
    (hf : ∀ w1 cs x, C w1 → rPpV w1 cs x → Calls Tryz.prog 36 #[.agg cs.toArray, .pointer (some ⟨ga, 0, none⟩), .pointer (some ⟨gb, 0, none⟩)] w1 fun e w2 => e = .returned (.bool (p x)) ∧ Below w1.heap.size w1 w2) :
    Calls Tryz.prog 34 #[.slice A n c, .func (.func 36) #[] #[.pointer (some ⟨ga, 0, none⟩), .pointer (some ⟨gb, 0, none⟩)]] w fun e w' => ∃ n' c', e = .returned (.slice A n' c') ∧ LT rPpV 5 72 34 w' A n' c' (kpL p L) ∧ Kp (fun b => (Value.slice A n c).ownBlock = some b) w w' := by
  have hL := hO.1
  have hn := hL.len_le
  have hnc := hL.2.1
  have H := Lib.hid hL
  have HO := Lib.hid hO
  have HL := Lib.hid hL.1
  have HLIM := Lib.hid (show L.length * 72 ≤ lim by rw [hL.1]; exact hL.2.2.1)
  have HC := Lib.hid hC
  have HCK := Lib.hid hCk
  have HCS := Lib.hid hCs
  have HF := Lib.hid hf
  clear hL hO hC hCk hCs hf
  by_cases hall : ∀ x ∈ L, p x = false
  · have HALL := Lib.hid hall
    clear hall
    go_enter Tryz.func34, Tryz.ntmps34
    go_wp2_with (first
      | (go_at_call 54; refine (idx_pend A n c ga gb L p w C H.out HC.out HCK.out HF.out).mono ?_; rintro e w1 ⟨r, rfl, hr, b1⟩; obtain rfl := idxP.neg hr HALL.out; have HB1 := Lib.hid b1; clear hr b1))
    go_ret
    exact ⟨n, c, rfl, by rw [kpL_all HALL.out]; exact HO.out.kept stay_ppv HB1.out, Kp.of_below HB1.out⟩
  · have HALL := Lib.hid hall
    have hn0 : 0 < n := by
      rcases Nat.eq_zero_or_pos n with h | h
      · exfalso
        apply hall
        have : L = [] := List.eq_nil_of_length_eq_zero (by rw [HL.out]; exact h)
        subst this
        intro x hx; cases hx
      · exact h
    obtain ⟨g, o, rfl⟩ := HO.out.addr hn0 HL.out
    clear hall
    go_enter Tryz.func34, Tryz.ntmps34
    go_wp2_with (first
      | (go_at_call 54; refine (idx_pend (some ⟨g, o, none⟩) n c ga gb L p w C H.out HC.out HCK.out HF.out).mono ?_; rintro e w1 ⟨r, rfl, hr, b1⟩; obtain ⟨i0, x0, rfl, hx0, hp0, hal⟩ := idxP.pos hr HALL.out; have HB1 := Lib.hid b1; have HD1 := Lib.hid ((DFn.startL HO.out (fun _ => len_ppv) (by decide) hx0 hp0 hal).kept stay_ppv b1); have hi0 : i0 < n := (by have := (List.getElem?_eq_some_iff.1 hx0).1; rw [HL.out] at this; exact this); have e1 := ne_neg1 i0; clear hr b1 hx0 hp0 hal))
    go_loopw [5, 6] (fun iv jv wr => ∃ i j : Nat, i < j ∧ j ≤ n ∧ iv = .int .i64 (i : Int) ∧ jv = .int .i64 (j : Int) ∧ Hid (DFn rPpV 5 34 wr g o n c L p i j) ∧ Hid (C wr) ∧ Hid (Kp (· = g) w wr)) (fun _ jv _ => n - (intOf jv).toNat)
    case atStart => exact ⟨i0, i0 + 1, by omega, by omega, rfl, by go_num, HD1, Lib.hid (HCK.out _ _ HC.out HB1.out), Lib.hid (Kp.of_below HB1.out)⟩
    case round =>
      obtain ⟨i, j, hij, hj, rfl, rfl, hd, hc, hkp⟩ := hrel
      obtain ⟨wx, hwx⟩ : ∃ x, x = wr := ⟨_, rfl⟩
      rw [← hwx] at hd hc hkp ⊢
      clear hwx
      obtain ⟨cells, hbl, hfit⟩ := hd.out.blk
      have HBL := Lib.hid hbl
      have HFIT := Lib.hid hfit
      clear hbl hfit
      by_cases hlt : j < n
      · obtain ⟨x, cs, hs, hat, hr⟩ := hd.out.at_ hlt
        have HR := Lib.hid hr
        have HX := Lib.hid hs
        have HA := Lib.hid hat
        have HLEN := Lib.hid (len_ppv cs x hr)
        have HONE := Lib.hid (ones_ppv cs x hr)
        have his : i * 5 + 5 ≤ n * 5 := by omega
        clear hs hat hr
        cases h1 : p x with
        | true =>
          go_wp2_with (first
            | ((with_reducible show wpList _ _ _ (⟨some 25, _, _, _, _, _⟩ :: _) _ _); refine wpList_loadv _ rfl 34 (.tmp 24) rfl 5 (by kernel_rfl) g (o + j * 5) cs (by go_simp) HA.out HLEN.out ?_)
            | ((with_reducible show wpList _ _ _ (⟨some 7, _, _, _, _, _⟩ :: _) _ _); refine wpList_alloc _ rfl 34 rfl ppZ ppZero ?_; intro w3 a1 a2 a3; have HV3 := Lib.hid a1; have HX3 := Lib.hid a2; clear a1 a2 a3)
            | ((with_reducible show wpList _ _ _ (⟨none, _, _, _, _, _⟩ :: _) _ _); refine wpList_storev _ rfl 34 (.tmp 7) (.tmp 25) rfl 5 (by kernel_rfl) wx.heap.size 0 _ ppZ cs rfl rfl HV3.out HLEN.out HONE.out (by decide) ?_; intro w4 a1 a2 a3; rw [splice_fullV (l := ppZ) (vs := cs) HLEN.out] at a1; have HV4 : Hid (BL w4 wx.heap.size 34 cs) := Lib.hid a1; have HX4 : Hid (Below wx.heap.size wx w4) := Lib.hid (((Kp.of_below (S := fun _ => False) HX3.out).after a2 (fun i hi e => by omega)).below (Nat.le_refl _) (fun _ h => h.elim)); clear a1 a2 a3)
            | ((with_reducible show wpList _ _ _ (⟨some 27, _, _, _, _, _⟩ :: _) _ _); refine wpList_loadv _ rfl 34 (.tmp 7) rfl 5 (by kernel_rfl) wx.heap.size 0 cs rfl (BL.all HV4.out) HLEN.out ?_)
            | (go_at_call 36; refine (HF.out w4 cs x (HCK.out _ _ hc.out HX4.out) (stay_ppv _ _ _ _ HR.out HX4.out)).mono ?_; rintro e w5 ⟨rfl, bl⟩; rw [h1]; have HX5 := Lib.hid (below_thenB HX4.out HX4.out.size bl); clear bl))
          go_roundw
          case rel => exact ⟨i, j + 1, by omega, by omega, rfl, by go_num, Lib.hid ((hd.out.kept stay_ppv HX5.out).skip HX.out h1), Lib.hid (HCK.out _ _ hc.out HX5.out), Lib.hid (hkp.out.trans (Kp.of_below HX5.out))⟩
          case measure => simp [intOf]; omega
        | false =>
          have HBLg := HBL.out.lt
          go_wp2_with (first
            | ((with_reducible show wpList _ _ _ (⟨some 25, _, _, _, _, _⟩ :: _) _ _); refine wpList_loadv _ rfl 34 (.tmp 24) rfl 5 (by kernel_rfl) g (o + j * 5) cs (by go_simp) HA.out HLEN.out ?_)
            | ((with_reducible show wpList _ _ _ (⟨some 7, _, _, _, _, _⟩ :: _) _ _); refine wpList_alloc _ rfl 34 rfl ppZ ppZero ?_; intro w3 a1 a2 a3; have HV3 := Lib.hid a1; have HX3 := Lib.hid a2; clear a1 a2 a3)
            | ((with_reducible show wpList _ _ _ (⟨none, _, _, _, _, _⟩ :: _) _ _); refine wpList_storev _ rfl 34 (.tmp 7) (.tmp 25) rfl 5 (by kernel_rfl) wx.heap.size 0 _ ppZ cs rfl rfl HV3.out HLEN.out HONE.out (by decide) ?_; intro w4 a1 a2 a3; rw [splice_fullV (l := ppZ) (vs := cs) HLEN.out] at a1; have HV4 : Hid (BL w4 wx.heap.size 34 cs) := Lib.hid a1; have HX4 : Hid (Below wx.heap.size wx w4) := Lib.hid (((Kp.of_below (S := fun _ => False) HX3.out).after a2 (fun i hi e => by omega)).below (Nat.le_refl _) (fun _ h => h.elim)); clear a1 a2 a3)
            | ((with_reducible show wpList _ _ _ (⟨some 27, _, _, _, _, _⟩ :: _) _ _); refine wpList_loadv _ rfl 34 (.tmp 7) rfl 5 (by kernel_rfl) wx.heap.size 0 cs rfl (BL.all HV4.out) HLEN.out ?_)
            | (go_at_call 36; refine (HF.out w4 cs x (HCK.out _ _ hc.out HX4.out) (stay_ppv _ _ _ _ HR.out HX4.out)).mono ?_; rintro e w5 ⟨rfl, bl⟩; rw [h1]; have HV5 := Lib.hid (HV4.out.kept bl); have HX5 := Lib.hid (below_thenB HX4.out HX4.out.size bl); have HBL5 := Lib.hid (HBL.out.kept HX5.out); clear bl)
            | ((with_reducible show wpList _ _ _ (⟨some 32, _, _, _, _, _⟩ :: _) _ _); refine wpList_loadv _ rfl 34 (.tmp 7) rfl 5 (by kernel_rfl) wx.heap.size 0 cs rfl (BL.all HV5.out) HLEN.out ?_)
            | ((with_reducible show wpList _ _ _ (⟨none, _, _, _, _, _⟩ :: _) _ _); refine wpList_storev _ rfl 34 (.tmp 33) (.tmp 32) rfl 5 (by kernel_rfl) g (o + i * 5) _ cells cs (by go_simp) rfl HBL5.out HLEN.out HONE.out (by have := HFIT.out; omega) ?_; intro w6 a1 a2 a3; have HBL6 := Lib.hid a1; have HK6 := Lib.hid a2; clear a1 a2 a3))
          have HD6 := Lib.hid ((hd.out.kept stay_ppv HX5.out).store (fun _ => len_ppv) (show ∀ cs x, rPpV w5 cs x → rPpV w6 cs x from fun _ _ h => ⟨h.1.kp HK6.out (fun i t l hl ht => hl.ne HBL5.out (by rcases ht with rfl | rfl <;> decide)), h.2⟩) hij HX.out h1 HBL5.out HFIT.out (stay_ppv _ _ _ _ HR.out HX5.out) HBL6.out)
          go_roundw
          case rel => exact ⟨i + 1, j + 1, by omega, by omega, by go_num, by go_num, HD6, Lib.hid (HCS.out _ _ _ _ HBL5.out (HCK.out _ _ hc.out HX5.out) HK6.out), Lib.hid ((hkp.out.trans (Kp.of_below HX5.out)).trans HK6.out)⟩
          case measure => simp [intOf]; omega
      · obtain rfl : j = n := by omega
        go_wp2_with (first
          | ((with_reducible show wpList _ _ _ (⟨some 38, _, _, _, _, _⟩ :: _) _ _); refine wpList_cutV _ rfl (.tmp 36) (.tmp 37) 43 34 5 rfl Tryz.underlying43 (agg_size (P := Tryz.prog) _ (t := 34) (by kernel_rfl)) g o j c i rfl rfl hij hnc ?_)
          | ((with_reducible show wpList _ _ _ (⟨none, _, _, _, _, _⟩ :: _) _ _); obtain ⟨iS, i1, i2, i3, i4⟩ := info_some infoPp; refine wpList_clearV _ rfl (.tmp 38) 43 34 iS _ rfl Tryz.underlying43 i1 i2 (by decide) (one_val _ rfl) g (o + i * 5) (j - i) (c - i) 5 rfl cells rfl HBL.out (by have := HFIT.out; omega) (by omega) ?_; intro w6 zs a1 a2 a3; have HBL6 := Lib.hid a1; have HZS := Lib.hid a2; have HK6 := Lib.hid a3; clear a1 a2 a3 i1 i2 i3 i4)
          | ((with_reducible show wpList _ _ _ (⟨some 41, _, _, _, _, _⟩ :: _) _ _); refine wpList_preV _ rfl (.tmp 39) (.tmp 40) 43 34 5 rfl Tryz.underlying43 (agg_size (P := Tryz.prog) _ (t := 34) (by kernel_rfl)) g o j c i rfl rfl (by omega) hnc (by omega) ?_))
        go_ret
        exact ⟨i, c, rfl, ⟨hd.out.fin (fun _ => len_ppv) (fun _ _ h => ⟨h.1.kp HK6.out (fun i t l hl ht => hl.ne HBL.out (by rcases ht with rfl | rfl <;> decide)), h.2⟩) HBL.out HFIT.out HBL6.out HZS.out (by omega) hnc HLIM.out, fun a e => by cases e; exact ⟨_, HBL6.out⟩⟩, (hkp.out.trans HK6.out).mono (fun b _ h => by rw [h]; rfl)⟩
end Go.Proofs.YtgoefpbicohkfaaGreatDoor
