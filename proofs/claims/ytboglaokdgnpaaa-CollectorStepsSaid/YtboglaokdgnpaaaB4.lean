/- Several texts in one: Wy, Wz, Ya. -/
import Derived.Test.YtboglaokdgnpaaaA27
import Derived.Test.YtboglaokdgnpaaaA11
import Derived.Test.YtboglaokdgnpaaaA17
/- slices.DeleteFunc on a list in a block of its own: memory. -/
namespace Go.Proofs.Ytboglaokdgnpaaa
open Go Go.RowKit Gf Sha

section
variable {P : Program} (w : World) {ops : Array Oper} {rest : List Oper} {o : Oper} {a : Act} {Q : Exit → Act → World → Prop}
/-- x[k:], some of it left. -/
theorem wpList_cutV (hg : o.guard = none) (s lo : Operand) (ty te : TypeId) (m : Nat) (hop : o.op = .slice ty s (some lo) none none) (hu : P.underlying ty = some (.slice te)) (hs : (sizeOf te).run P w = .ok m w)
  (g p n c k : Nat) (hv : a.eval s = .slice (some ⟨g, p, none⟩) n c) (hlo : a.eval lo = .int .i64 (k : Int)) (hk : k < n) (hc : n ≤ c)
  (h : wpList P ops Q rest (a.put o.dst (.slice (some ⟨g, p + k * m, none⟩) (n - k) (c - k))) w) : wpList P ops Q (o :: rest) a w :=
 wpList_plain hg fun K hK => by
  unfold Oper.wp execOp
  simp only [hop, Option.map_some, Option.map_none, hv, hlo]
  have h1 : k ≤ n := by omega
  have h2 : ¬ c = k := by omega
  simp [Instr.sliceAt, Instr.slice, run_underlying hu, Instr.sliceBounds, Instr.sliceBound, asIntOf, hs, Result.andThen, addr_add, h1, h2]
  exact hK _ _ h
/-- x[:k]. -/
theorem wpList_preV (hg : o.guard = none) (s hi : Operand) (ty te : TypeId) (m : Nat) (hop : o.op = .slice ty s none (some hi) none) (hu : P.underlying ty = some (.slice te)) (hs : (sizeOf te).run P w = .ok m w)
  (g p n c k : Nat) (hv : a.eval s = .slice (some ⟨g, p, none⟩) n c) (hlo : a.eval hi = .int .i64 (k : Int)) (hk : k ≤ n) (hc : n ≤ c) (hc0 : 0 < c)
  (h : wpList P ops Q rest (a.put o.dst (.slice (some ⟨g, p, none⟩) k c)) w) : wpList P ops Q (o :: rest) a w :=
 wpList_plain hg fun K hK => by
  unfold Oper.wp execOp
  simp only [hop, Option.map_some, Option.map_none, hv, hlo]
  have h1 : k ≤ c := by omega
  have h2 : ¬ c = 0 := by omega
  simp [Instr.sliceAt, Instr.slice, run_underlying hu, Instr.sliceBounds, Instr.sliceBound, asIntOf, hs, Result.andThen, addr_add, h1, h2]
  exact hK _ _ h
theorem zeroCells_one {zc : Array Value} {n : Nat} (h0 : 0 < zc.size) (h : ∀ v ∈ zc.toList, v.oneCell' = true) : (Builtin.zeroCells zc n).toList.length = n * zc.size ∧ ∀ v ∈ (Builtin.zeroCells zc n).toList, v.oneCell' = true := by
 unfold Builtin.zeroCells
 refine ⟨by simp, fun v hv => ?_⟩
 simp only [Array.toList_map, Array.toList_range, List.mem_map, List.mem_range] at hv
 obtain ⟨i, _, rfl⟩ := hv
 have hm := Nat.mod_lt i h0
 rw [getElem!_pos zc _ hm]
 exact h _ (by simp)
/-- clear(x): the cells of the block ahead of it stand. -/
theorem run_clearV (t te ty : TypeId) (i : TypeInfo) (z : Value) (ht : P.underlying t = some (.slice te)) (hi : P.info? te = some i) (hz : i.zero = some z) (h0 : 0 < z.cells.size) (h1 : ∀ v ∈ z.cells.toList, v.oneCell' = true) (g p n c : Nat) (cs : List Value) (hb : BL w g te cs) (hp : p + n * z.cells.size ≤ cs.length) (hn : 0 < n) :
  ∃ w' zs, (Builtin.clear_ #[t] ty #[.slice (some ⟨g, p, none⟩) n c]).run P w = .ok (.tuple #[]) w' ∧ BL w' g te (splice cs p zs) ∧ zs.length = n * z.cells.size ∧ Kp (· = g) w w' := by
 obtain ⟨hl, ho⟩ := zeroCells_one (n := n) h0 h1
 obtain ⟨w', hr, hb', hk, _⟩ := run_storeCells (P := P) (Builtin.zeroCells z.cells n).toList ho p _ 0 cs w (Nat.zero_add _) hb (by rw [hl]; exact hp)
 rw [List.drop_zero] at hr hb'
 have hv : (zeroValue te).run P w = .ok z w := by simp [zeroValue, typeInfo, hi, hz]
 refine ⟨w', _, ?_, hb', hl, hk⟩
 obtain ⟨m, rfl⟩ : ∃ m, n = m + 1 := ⟨n - 1, by omega⟩
 simp [Builtin.clear_, run_underlying ht, hv, hr]
theorem wpList_clearV (hg : o.guard = none) (x : Operand) (t te : TypeId) (i : TypeInfo) (z : Value) (hop : o.op = .call { callee := .builtin .clear, args := #[x], argTypes := #[t] }) (ht : P.underlying t = some (.slice te)) (hi : P.info? te = some i) (hz : i.zero = some z) (h0 : 0 < z.cells.size) (h1 : ∀ v ∈ z.cells.toList, v.oneCell' = true) (g p n c m : Nat) (hm : z.cells.size = m) (cs : List Value) (hx : a.eval x = .slice (some ⟨g, p, none⟩) n c) (hb : BL w g te cs) (hp : p + n * m ≤ cs.length) (hn : 0 < n)
  (h : ∀ w' zs, BL w' g te (splice cs p zs) → zs.length = n * m → Kp (· = g) w w' → wpList P ops Q rest (a.put o.dst (.tuple #[])) w') : wpList P ops Q (o :: rest) a w :=
 wpList_plain hg fun K hK => by
  subst hm
  obtain ⟨w', zs, hr, h2, h3, h4⟩ := run_clearV w t te o.type i z ht hi hz h0 h1 g p n c cs hb hp hn
  unfold Oper.wp execOp
  simp only [hop, resolve, invoke, builtin, Sem.run_bind, Sem.run_pure, Result.andThen_ok, List.map_toArray, List.map_cons, List.map_nil, hx, hr]
  exact hK _ _ (h w' zs h2 h3 h4)
end
theorem splice_get {l vs : List Value} {o k : Nat} (h : o + vs.length ≤ l.length) : (splice l o vs)[k]? = if k < o then l[k]? else if k < o + vs.length then vs[k - o]? else l[k]? := by
 unfold splice
 have e1 : (l.take o).length = o := by rw [List.length_take]; omega
 by_cases h1 : k < o
 ·
  rw [if_pos h1, List.append_assoc, List.getElem?_append_left (by omega), List.getElem?_take_of_lt h1]
 rw [if_neg h1, List.append_assoc, List.getElem?_append_right (by omega), e1]
 by_cases h2 : k < o + vs.length
 ·
  rw [if_pos h2, List.getElem?_append_left (by omega)]
 ·
  rw [if_neg h2, List.getElem?_append_right (by omega), List.getElem?_drop, show o + vs.length + (k - o - vs.length) = k by omega]
section
variable {w w' : World} {g p q : Nat} {te : TypeId} {cs vs ms : List Value}
theorem BL.cells (h : BL w g te cs) {k : Nat} {v : Value} (hk : k < cs.length) (hv : w.cell? ⟨g, k, none⟩ = some v) : cs[k]? = some v := by
 obtain ⟨u, hu⟩ : ∃ u, cs[k]? = some u := ⟨cs[k], List.getElem?_eq_getElem hk⟩
 have := h.get hu
 rw [hv] at this
 rw [hu, this]
theorem at_splice (hb : BL w g te cs) (hb' : BL w' g te (splice cs p vs)) (hl : p + vs.length ≤ cs.length) (hat : At w g q ms) (hq : q + ms.length ≤ cs.length) (hne : q + ms.length ≤ p ∨ p + vs.length ≤ q) : At w' g q ms := fun j v hj => by
 have hj1 := (List.getElem?_eq_some_iff.1 hj).1
 refine hb'.get ?_
 rw [splice_get hl]
 have hc := hb.cells (by omega) (hat j v hj)
 rcases hne with h | h
 ·
  rw [if_pos (by omega)]; exact hc
 ·
  rw [if_neg (by omega), if_neg (by omega)]; exact hc
theorem at_spliced (hb' : BL w' g te (splice cs p vs)) (hl : p + vs.length ≤ cs.length) : At w' g p vs := fun j v hj => by
 have hj1 := (List.getElem?_eq_some_iff.1 hj).1
 refine hb'.get ?_
 rw [splice_get hl, if_neg (by omega), if_pos (by omega), show p + j - p = j by omega]; exact hj
end
/-- What IndexFunc returns. -/
def idxP {α : Type} (p : α → Bool) (L : List α) (r : Int) : Prop := (r = -1 ∧ ∀ x ∈ L, p x = false) ∨ ∃ (i : Nat) (x : α), r = (i : Int) ∧ L[i]? = some x ∧ p x = true ∧ ∀ y ∈ L.take i, p y = false
/-- The elements that are kept. -/
def kpL {α : Type} (p : α → Bool) (L : List α) : List α := L.filter fun x => !p x
theorem kpL_all {α : Type} {p : α → Bool} {L : List α} (h : ∀ x ∈ L, p x = false) : kpL p L = L := List.filter_eq_self.2 (fun x hx => by rw [h x hx]; rfl)
theorem kpL_step {α : Type} {p : α → Bool} {L : List α} {j : Nat} {x : α} (h : L[j]? = some x) : kpL p (L.take (j + 1)) = kpL p (L.take j) ++ if p x then [] else [x] := by
 unfold kpL
 rw [take_next h, List.filter_append]
 cases hp : p x <;> simp [hp]
/-- A list of which the first i are kept ones, and those behind j still stand. -/
structure DF {α : Type} (R : Rdg α) (s : Nat) (te : TypeId) (w : World) (g o n c : Nat) (L : List α) (p : α → Bool) (i j : Nat) : Prop where
 blk : ∃ cs, BL w g te cs ∧ o + n * s ≤ cs.length
 len : L.length = n
 ilen : (kpL p (L.take j)).length = i
 lo : ∀ m (h : m < (kpL p (L.take j)).length), ∃ cs, At w g (o + m * s) cs ∧ R w cs (kpL p (L.take j))[m]
 hi : ∀ m (h : m < L.length), j ≤ m → ∃ cs, At w g (o + m * s) cs ∧ R w cs L[m]
section
variable {α : Type} {R : Rdg α} {s : Nat} {te : TypeId} {w w' : World} {g o n c : Nat} {L : List α} {p : α → Bool} {i j : Nat}
theorem DF.kept (h : DF R s te w g o n c L p i j) (hR : Stay R) (hb : Below w.heap.size w w') : DF R s te w' g o n c L p i j :=
 ⟨let ⟨cs, h1, h2⟩ := h.blk; ⟨cs, h1.kept hb, h2⟩, h.len, h.ilen, fun m hm => let ⟨cs, h1, h2⟩ := h.lo m hm; ⟨cs, h1.kept hb, hR _ _ _ _ h2 hb⟩, fun m hm hj => let ⟨cs, h1, h2⟩ := h.hi m hm hj; ⟨cs, h1.kept hb, hR _ _ _ _ h2 hb⟩⟩
theorem DF.skip (h : DF R s te w g o n c L p i j) {x : α} (hx : L[j]? = some x) (hp : p x = true) : DF R s te w g o n c L p i (j + 1) := by
 have hk : kpL p (L.take (j + 1)) = kpL p (L.take j) := by rw [kpL_step hx, hp, if_pos rfl, List.append_nil]
 exact ⟨h.blk, h.len, by rw [hk]; exact h.ilen, by rw [hk]; exact h.lo, fun m hm hj => h.hi m hm (by omega)⟩
theorem DF.store (h : DF R s te w g o n c L p i j) (hlen : ∀ w cs x, R w cs x → cs.length = s) (hst : ∀ cs x, R w cs x → R w' cs x) (hij : i < j) {x : α} (hx : L[j]? = some x) (hp : p x = false) {cells vs : List Value} (hb : BL w g te cells) (hl : o + n * s ≤ cells.length) (hvs : R w vs x) (hb' : BL w' g te (splice cells (o + i * s) vs)) : DF R s te w' g o n c L p (i + 1) (j + 1) := by
 have hjn := (List.getElem?_eq_some_iff.1 hx).1
 have hvl := hlen _ _ _ hvs
 have hln := h.len
 have his : i * s + s ≤ n * s := by rw [← Nat.succ_mul]; exact Nat.mul_le_mul_right _ (by omega)
 have hfit : o + i * s + vs.length ≤ cells.length := by rw [hvl]; omega
 have hk : kpL p (L.take (j + 1)) = kpL p (L.take j) ++ [x] := by rw [kpL_step hx, hp]; rfl
 have hil := h.ilen
 refine ⟨⟨_, hb', by rw [splice_length _ _ _ hfit]; exact hl⟩, hln, by rw [hk, List.length_append, hil]; rfl, fun m hm => ?_, fun m hm hjm => ?_⟩
 ·
  by_cases hmi : m < i
  ·
   obtain ⟨cs, a1, a2⟩ := h.lo m (by omega)
   have hms : m * s + s ≤ i * s := by rw [← Nat.succ_mul]; exact Nat.mul_le_mul_right _ hmi
   have hcl := hlen _ _ _ a2
   refine ⟨cs, at_splice hb hb' hfit a1 (by omega) (.inl (by omega)), ?_⟩
   have e : (kpL p (L.take (j + 1)))[m] = (kpL p (L.take j))[m]'(by omega) := by
    have h9 : (kpL p (L.take (j + 1)))[m]? = (kpL p (L.take j))[m]? := by rw [hk, List.getElem?_append_left (by omega)]
    rw [List.getElem?_eq_getElem hm, List.getElem?_eq_getElem (by omega)] at h9
    exact Option.some.inj h9
   rw [e]; exact hst _ _ a2
  ·
   have hme : m = i := by rw [hk, List.length_append, hil, List.length_singleton] at hm; omega
   subst hme
   refine ⟨vs, at_spliced hb' hfit, ?_⟩
   have e : (kpL p (L.take (j + 1)))[m] = x := by
    have h9 : (kpL p (L.take (j + 1)))[m]? = some x := by rw [hk, List.getElem?_append_right (by omega), hil, Nat.sub_self]; rfl
    rw [List.getElem?_eq_getElem hm] at h9
    exact Option.some.inj h9
   rw [e]; exact hst _ _ hvs
 ·
  obtain ⟨cs, a1, a2⟩ := h.hi m hm (by omega)
  have hms : m * s + s ≤ n * s := by rw [← Nat.succ_mul]; exact Nat.mul_le_mul_right _ (by omega)
  have him : i * s + s ≤ m * s := by rw [← Nat.succ_mul]; exact Nat.mul_le_mul_right _ (by omega)
  have hcl := hlen _ _ _ a2
  exact ⟨cs, at_splice hb hb' hfit a1 (by omega) (.inr (by omega)), hst _ _ a2⟩
/-- At the end: what stands ahead of the cut. -/
theorem DF.fin {b : Nat} (h : DF R s te w g o n c L p i n) (hlen : ∀ w cs x, R w cs x → cs.length = s) (hst : ∀ cs x, R w cs x → R w' cs x) {cells zs : List Value} (hb : BL w g te cells) (hl : o + n * s ≤ cells.length) (hb' : BL w' g te (splice cells (o + i * s) zs)) (hz : zs.length = (n - i) * s) (hin : i ≤ n) (hnc : n ≤ c) (hlim : L.length * b ≤ lim) : LS R s b w' (some ⟨g, o, none⟩) i c (kpL p L) := by
 have hln := h.len
 have hil := h.ilen
 have hlo := h.lo
 rw [← hln, List.take_length] at hil hlo
 have hs0 : i * s + (n - i) * s = n * s := by rw [← Nat.add_mul, show i + (n - i) = n by omega]
 have hfit : o + i * s + zs.length ≤ cells.length := by rw [hz]; omega
 refine ⟨hil, by omega, ?_, fun m hm => ?_⟩
 ·
  exact Nat.le_trans (Nat.mul_le_mul_right _ (by rw [← hil]; exact List.length_filter_le _ _)) hlim
 ·
  obtain ⟨cs, a1, a2⟩ := hlo m (by omega)
  have hms : m * s + s ≤ i * s := by rw [← Nat.succ_mul]; exact Nat.mul_le_mul_right _ (by omega)
  have hcl := hlen _ _ _ a2
  exact ⟨g, o, cs, rfl, at_splice hb hb' hfit a1 (by omega) (.inl (by omega)), hst _ _ a2⟩
end
/-- A list in memory; its block is one of its own type. -/
def LT {α : Type} (R : Rdg α) (s b : Nat) (te : TypeId) (w : World) (A : Option Addr) (n c : Nat) (L : List α) : Prop := LS R s b w A n c L ∧ ∀ a, A = some a → ∃ cs, BL w a.block te cs
section
variable {α : Type} {R : Rdg α} {s b n c base g : Nat} {te t : TypeId} {w w' : World} {A : Option Addr} {L : List α} {l : List Value}
theorem LT.kp {S : Nat → Prop} (h : LT R s b te w A n c L) (hk : Kp S w w') (hn : ∀ a, A = some a → ¬ S a.block) (hR : ∀ cs x, R w cs x → R w' cs x) : LT R s b te w' A n c L :=
 ⟨h.1.kpn hR hk hn, fun a e => let ⟨cs, hb⟩ := h.2 a e; ⟨cs, hk.bl hb (hn a e)⟩⟩
theorem LT.kept (h : LT R s b te w A n c L) (hR : Stay R) (hb : Below w.heap.size w w') : LT R s b te w' A n c L :=
 ⟨h.1.kept hR hb, fun a e => let ⟨cs, h9⟩ := h.2 a e; ⟨cs, h9.kept hb⟩⟩
theorem LT.of (h : OT R s te base w (.slice A n c) L) (hl : L.length * b ≤ lim) : LT R s b te w A n c L :=
 ⟨h.ls' hl, fun _ e => let ⟨_, r⟩ := h.row; r.tyb e⟩
theorem LT.ne_bl (h : LT R s b te w A n c L) (hb : BL w g t l) (ht : t ≠ te) : ∀ a, A = some a → ¬ a.block = g := fun a e hg => by
 obtain ⟨cs, hb'⟩ := h.2 a e
 subst hg
 exact ht (hb.ty hb')
end
theorem BL.idx {w : World} {g k : Nat} {t : TypeId} {l : List Value} {v : Value} (h : BL w g t l) (hv : w.cell? ⟨g, k, none⟩ = some v) : k < l.length := by
 rcases Nat.lt_or_ge k l.length with h1 | h1
 ·
  exact h1
 ·
  exfalso
  have h9 : w.heap[g]? = some (.cells l.toArray t) := h
  have h10 : l.toArray[k]? = none := by simp [h1]
  simp [World.cell?, h9, h1] at hv
theorem DF.startL {α : Type} {R : Rdg α} {s b : Nat} {te : TypeId} {w : World} {g o n c : Nat} {L : List α} {p : α → Bool} {i : Nat} (h : LT R s b te w (some ⟨g, o, none⟩) n c L) (hlen : ∀ w cs x, R w cs x → cs.length = s) (hs : 0 < s) {x : α} (hx : L[i]? = some x) (hp : p x = true) (hall : ∀ y ∈ L.take i, p y = false) : DF R s te w g o n c L p i (i + 1) := by
 have hl : L.length = n := h.1.1
 have hin := (List.getElem?_eq_some_iff.1 hx).1
 have hk : kpL p (L.take (i + 1)) = L.take i := by rw [kpL_step hx, hp, if_pos rfl, List.append_nil, kpL_all hall]
 have hcell : ∀ m (hm : m < L.length), ∃ cs, At w g (o + m * s) cs ∧ R w cs L[m] := fun m hm => by
  obtain ⟨g', o', cs, e, h1, h2⟩ := h.1.2.2.2 m hm
  cases e
  exact ⟨cs, h1, h2⟩
 obtain ⟨cells, hb⟩ := h.2 _ rfl
 refine ⟨⟨cells, hb, ?_⟩, hl, by rw [hk, List.length_take]; omega, fun m hm => ?_, fun m hm _ => hcell m hm⟩
 ·
  obtain ⟨cs, a1, a2⟩ := hcell (n - 1) (by omega)
  have hcl := hlen _ _ _ a2
  have h3 := hb.idx (a1 (s - 1) (cs[s - 1]'(by omega)) (List.getElem?_eq_getElem _))
  have e : n * s = (n - 1) * s + s := by rw [← Nat.succ_mul]; congr 1; omega
  omega
 have hm' : m < i := by rw [hk, List.length_take] at hm; omega
 obtain ⟨cs, a1, a2⟩ := hcell m (by omega)
 refine ⟨cs, a1, ?_⟩
 have e : (kpL p (L.take (i + 1)))[m] = L[m]'(by omega) := by
  have h9 : (kpL p (L.take (i + 1)))[m]? = L[m]? := by rw [hk, List.getElem?_take_of_lt hm']
  rw [List.getElem?_eq_getElem hm, List.getElem?_eq_getElem (by omega)] at h9
  exact Option.some.inj h9
 rw [e]; exact a2
end Go.Proofs.Ytboglaokdgnpaaa
/- slices.IndexFunc, slices.DeleteFunc with the closures of collector.After. -/
namespace Go.Proofs.Ytboglaokdgnpaaa
open Go Go.RowKit Gf Sha

theorem idxP.neg {α : Type} {p : α → Bool} {L : List α} {r : Int} (h : idxP p L r) (ha : ∀ x ∈ L, p x = false) : r = -1 := by
 rcases h with ⟨h, _⟩ | ⟨i, x, _, h2, h3, _⟩
 ·
  exact h
 ·
  rw [ha x (List.mem_of_getElem? h2)] at h3; cases h3
theorem idxP.pos {α : Type} {p : α → Bool} {L : List α} {r : Int} (h : idxP p L r) (ha : ¬ ∀ x ∈ L, p x = false) : ∃ (i : Nat) (x : α), r = (i : Int) ∧ L[i]? = some x ∧ p x = true ∧ ∀ y ∈ L.take i, p y = false := by
 rcases h with ⟨_, h⟩ | h
 ·
  exact absurd h ha
 ·
  exact h
theorem DF.at_ {α : Type} {R : Rdg α} {s : Nat} {te : TypeId} {w : World} {g o n c : Nat} {L : List α} {p : α → Bool} {i j : Nat} (h : DF R s te w g o n c L p i j) (hj : j < n) : ∃ x cs, L[j]? = some x ∧ At w g (o + j * s) cs ∧ R w cs x := by
 have hl : j < L.length := by rw [h.len]; exact hj
 obtain ⟨cs, a1, a2⟩ := h.hi j hl (Nat.le_refl _)
 exact ⟨_, cs, List.getElem?_eq_getElem hl, a1, a2⟩
theorem LT.addr {α : Type} {R : Rdg α} {s b n c : Nat} {te : TypeId} {w : World} {A : Option Addr} {L : List α} (h : LT R s b te w A n c L) (hn : 0 < n) (hl : L.length = n) : ∃ g o, A = some ⟨g, o, none⟩ := by
 obtain ⟨g, o, cs, e, _⟩ := h.1.2.2.2 0 (by omega)
 exact ⟨g, o, e⟩
theorem ne_neg1 (i : Nat) : (((i : Int)) == (-1 : Int)) = false := by
 rw [beq_eq_false_iff_ne]; omega
theorem splice_fullV {l vs : List Value} (h : vs.length = l.length) : splice l 0 vs = vs := by simp [splice, h]
set_option maxRecDepth 100000 in
set_option maxHeartbeats 2000000 in
theorem idx_pc (A : Option Addr) (n c gc : Nat) (L : List Pc) (p : Pc → Bool) (w : World) (C : World → Prop) (hL : LS rPc 2 24 w A n c L) (hC : C w) (hCk : ∀ w1 w2, C w1 → Below w1.heap.size w1 w2 → C w2)
  (hf : ∀ w1 cs x, C w1 → rPc w1 cs x → Calls Try.prog 53 #[.agg cs.toArray, .pointer (some ⟨gc, 0, none⟩)] w1 fun e w2 => e = .returned (.bool (p x)) ∧ Below w1.heap.size w1 w2) :
  Calls Try.prog 87 #[.slice A n c, .func (.func 53) #[] #[.pointer (some ⟨gc, 0, none⟩)]] w fun e w' => ∃ r, e = .returned (.int .i64 r) ∧ idxP p L r ∧ Below w.heap.size w w' := by
 have hn := hL.len_le
 have H := Lib.hid hL
 have HL := Lib.hid hL.1
 have HC := Lib.hid hC
 have HCK := Lib.hid hCk
 have HF := Lib.hid hf
 clear hL hC hCk hf
 go_enter Try.func87, Try.ntmps87
 go_wp2_with fail
 go_loopw [8] (fun iv wr => ∃ k : Nat, k ≤ n ∧ iv = .int .i64 (k : Int) ∧ Hid (∀ x ∈ L.take k, p x = false) ∧ Hid (Below w.heap.size w wr)) (fun iv _ => n - (intOf iv).toNat)
 case atStart => exact ⟨0, by omega, rfl, Lib.hid (fun x hx => by simp at hx), Lib.hid (Below.refl _ _)⟩
 case round =>
  obtain ⟨k, hk, rfl, hall, hb⟩ := hrel
  obtain ⟨wx, hwx⟩ : ∃ x, x = wr := ⟨_, rfl⟩
  rw [← hwx] at hb ⊢
  clear hwx
  by_cases hlt : k < n
  ·
   obtain ⟨x, g, o, cs, hs, ea, hat, hr⟩ := H.out.at_ stay_pc hb.out hlt
   have HR := Lib.hid hr
   have HX := Lib.hid hs
   have HA := Lib.hid hat
   have HLEN := Lib.hid (len_pc cs x hr)
   subst ea
   clear hs hat hr
   cases h1 : p x with
   | true =>
    go_wp2_with (first
     | ((with_reducible show OpW 15); refine wpList_loadv _ rfl 39 (.tmp 14) rfl 2 (by kernel_rfl) g (o + k * 2) cs (by go_simp) HA.out HLEN.out ?_)
     | (go_at_call 53; refine (HF.out wx cs x (HCK.out _ _ HC.out hb.out) HR.out).mono ?_; rintro e w2 ⟨rfl, bl⟩; rw [h1]; have HX2 := Lib.hid bl; clear bl))
    go_ret
    exact ⟨(k : Int), rfl, .inr ⟨k, x, rfl, HX.out, h1, hall.out⟩, below_thenB hb.out hb.out.size HX2.out⟩
   | false =>
    have HALL : Hid (∀ x ∈ L.take (k + 1), p x = false) := Lib.hid (fun y hy => by
     rw [take_next HX.out] at hy
     rcases List.mem_append.1 hy with h | h
     ·
      exact hall.out y h
     ·
      rw [List.mem_singleton.1 h]; exact h1)
    go_wp2_with (first
     | ((with_reducible show OpW 15); refine wpList_loadv _ rfl 39 (.tmp 14) rfl 2 (by kernel_rfl) g (o + k * 2) cs (by go_simp) HA.out HLEN.out ?_)
     | (go_at_call 53; refine (HF.out wx cs x (HCK.out _ _ HC.out hb.out) HR.out).mono ?_; rintro e w2 ⟨rfl, bl⟩; rw [h1]; have HX2 := Lib.hid bl; clear bl))
    go_roundw
    case rel => exact ⟨k + 1, by omega, by go_num, HALL, Lib.hid (below_thenB hb.out hb.out.size HX2.out)⟩
    case measure => simp [intOf]; omega
  ·
   obtain rfl : k = n := by omega
   go_wp2_with fail
   go_ret
   exact ⟨-1, rfl, .inl ⟨rfl, fun x hx => hall.out x (by rw [take_end HL.out]; exact hx)⟩, hb.out⟩
set_option maxRecDepth 100000 in
set_option maxHeartbeats 4000000 in
theorem del_pc (A : Option Addr) (n c gc : Nat) (L : List Pc) (p : Pc → Bool) (w : World) (C : World → Prop) (hO : LT rPc 2 24 39 w A n c L) (hC : C w) (hCk : ∀ w1 w2, C w1 → Below w1.heap.size w1 w2 → C w2) (hCs : ∀ w1 w2 g cs, BL w1 g 39 cs → C w1 → Kp (· = g) w1 w2 → C w2)
  (hf : ∀ w1 cs x, C w1 → rPc w1 cs x → Calls Try.prog 53 #[.agg cs.toArray, .pointer (some ⟨gc, 0, none⟩)] w1 fun e w2 => e = .returned (.bool (p x)) ∧ Below w1.heap.size w1 w2) :
  Calls Try.prog 52 #[.slice A n c, .func (.func 53) #[] #[.pointer (some ⟨gc, 0, none⟩)]] w fun e w' => ∃ n' c', e = .returned (.slice A n' c') ∧ LT rPc 2 24 39 w' A n' c' (kpL p L) ∧ Kp (fun b => (Value.slice A n c).ownBlock = some b) w w' := by
 have hL := hO.1
 have hn := hL.len_le
 have hnc := hL.2.1
 have H := Lib.hid hL
 have HO := Lib.hid hO
 have HL := Lib.hid hL.1
 have HLIM := Lib.hid (show L.length * 24 ≤ lim by rw [hL.1]; exact hL.2.2.1)
 have HC := Lib.hid hC
 have HCK := Lib.hid hCk
 have HCS := Lib.hid hCs
 have HF := Lib.hid hf
 clear hL hO hC hCk hCs hf
 by_cases hall : ∀ x ∈ L, p x = false
 ·
  have HALL := Lib.hid hall
  clear hall
  go_enter Try.func52, Try.ntmps52
  go_wp2_with (first
   | (go_at_call 87; refine (idx_pc A n c gc L p w C H.out HC.out HCK.out HF.out).mono ?_; rintro e w1 ⟨r, rfl, hr, b1⟩; obtain rfl := idxP.neg hr HALL.out; have HB1 := Lib.hid b1; clear hr b1))
  go_ret
  exact ⟨n, c, rfl, by rw [kpL_all HALL.out]; exact HO.out.kept stay_pc HB1.out, Kp.of_below HB1.out⟩
 ·
  have HALL := Lib.hid hall
  have hn0 : 0 < n := by
   rcases Nat.eq_zero_or_pos n with h | h
   ·
    exfalso
    apply hall
    have : L = [] := List.eq_nil_of_length_eq_zero (by rw [HL.out]; exact h)
    subst this
    intro x hx; cases hx
   ·
    exact h
  obtain ⟨g, o, rfl⟩ := HO.out.addr hn0 HL.out
  clear hall
  go_enter Try.func52, Try.ntmps52
  go_wp2_with (first
   | (go_at_call 87; refine (idx_pc (some ⟨g, o, none⟩) n c gc L p w C H.out HC.out HCK.out HF.out).mono ?_; rintro e w1 ⟨r, rfl, hr, b1⟩; obtain ⟨i0, x0, rfl, hx0, hp0, hal⟩ := idxP.pos hr HALL.out; have HB1 := Lib.hid b1; have HD1 := Lib.hid ((DF.startL HO.out (fun _ => len_pc) (by decide) hx0 hp0 hal).kept stay_pc b1); have hi0 : i0 < n := (by have := (List.getElem?_eq_some_iff.1 hx0).1; rw [HL.out] at this; exact this); have e1 := ne_neg1 i0; clear hr b1 hx0 hp0 hal))
  go_loopw [5, 6] (fun iv jv wr => ∃ i j : Nat, i < j ∧ j ≤ n ∧ iv = .int .i64 (i : Int) ∧ jv = .int .i64 (j : Int) ∧ Hid (DF rPc 2 39 wr g o n c L p i j) ∧ Hid (C wr) ∧ Hid (Kp (· = g) w wr)) (fun _ jv _ => n - (intOf jv).toNat)
  case atStart => exact ⟨i0, i0 + 1, by omega, by omega, rfl, by go_num, HD1, Lib.hid (HCK.out _ _ HC.out HB1.out), Lib.hid (Kp.of_below HB1.out)⟩
  case round =>
   obtain ⟨i, j, hij, hj, rfl, rfl, hd, hc, hkp⟩ := hrel
   obtain ⟨wx, hwx⟩ : ∃ x, x = wr := ⟨_, rfl⟩
   rw [← hwx] at hd hc hkp ⊢
   clear hwx
   obtain ⟨cells, hbl, hfit⟩ := hd.out.blk
   have HBL := Lib.hid hbl
   have HFIT := Lib.hid hfit
   clear hbl hfit
   by_cases hlt : j < n
   ·
    obtain ⟨x, cs, hs, hat, hr⟩ := hd.out.at_ hlt
    have HR := Lib.hid hr
    have HX := Lib.hid hs
    have HA := Lib.hid hat
    have HLEN := Lib.hid (len_pc cs x hr)
    have HONE := Lib.hid (ones_pc cs x hr)
    have his : i * 2 + 2 ≤ n * 2 := by omega
    clear hs hat hr
    cases h1 : p x with
    | true =>
     go_wp2_with (first
      | ((with_reducible show OpW 25); refine wpList_loadv _ rfl 39 (.tmp 24) rfl 2 (by kernel_rfl) g (o + j * 2) cs (by go_simp) HA.out HLEN.out ?_)
      | ((with_reducible show OpW 7); refine wpList_alloc _ rfl 39 rfl pcZ pcZero ?_; intro w3 a1 a2 a3; have HV3 := Lib.hid a1; have HX3 := Lib.hid a2; clear a1 a2 a3)
      | ((with_reducible show OpN); refine wpList_storev _ rfl 39 (.tmp 7) (.tmp 25) rfl 2 (by kernel_rfl) wx.heap.size 0 _ pcZ cs rfl rfl HV3.out HLEN.out HONE.out (by decide) ?_; intro w4 a1 a2 a3; rw [splice_fullV (l := pcZ) (vs := cs) HLEN.out] at a1; have HV4 : Hid (BL w4 wx.heap.size 39 cs) := Lib.hid a1; have HX4 : Hid (Below wx.heap.size wx w4) := Lib.hid (((Kp.of_below (S := fun _ => False) HX3.out).after a2 (fun i hi e => by omega)).below (Nat.le_refl _) (fun _ h => h.elim)); clear a1 a2 a3)
      | ((with_reducible show OpW 27); refine wpList_loadv _ rfl 39 (.tmp 7) rfl 2 (by kernel_rfl) wx.heap.size 0 cs rfl (BL.all HV4.out) HLEN.out ?_)
      | (go_at_call 53; refine (HF.out w4 cs x (HCK.out _ _ hc.out HX4.out) (stay_pc _ _ _ _ HR.out HX4.out)).mono ?_; rintro e w5 ⟨rfl, bl⟩; rw [h1]; have HX5 := Lib.hid (below_thenB HX4.out HX4.out.size bl); clear bl))
     go_roundw
     case rel => exact ⟨i, j + 1, by omega, by omega, rfl, by go_num, Lib.hid ((hd.out.kept stay_pc HX5.out).skip HX.out h1), Lib.hid (HCK.out _ _ hc.out HX5.out), Lib.hid (hkp.out.trans (Kp.of_below HX5.out))⟩
     case measure => simp [intOf]; omega
    | false =>
     have HBLg := HBL.out.lt
     go_wp2_with (first
      | ((with_reducible show OpW 25); refine wpList_loadv _ rfl 39 (.tmp 24) rfl 2 (by kernel_rfl) g (o + j * 2) cs (by go_simp) HA.out HLEN.out ?_)
      | ((with_reducible show OpW 7); refine wpList_alloc _ rfl 39 rfl pcZ pcZero ?_; intro w3 a1 a2 a3; have HV3 := Lib.hid a1; have HX3 := Lib.hid a2; clear a1 a2 a3)
      | ((with_reducible show OpN); refine wpList_storev _ rfl 39 (.tmp 7) (.tmp 25) rfl 2 (by kernel_rfl) wx.heap.size 0 _ pcZ cs rfl rfl HV3.out HLEN.out HONE.out (by decide) ?_; intro w4 a1 a2 a3; rw [splice_fullV (l := pcZ) (vs := cs) HLEN.out] at a1; have HV4 : Hid (BL w4 wx.heap.size 39 cs) := Lib.hid a1; have HX4 : Hid (Below wx.heap.size wx w4) := Lib.hid (((Kp.of_below (S := fun _ => False) HX3.out).after a2 (fun i hi e => by omega)).below (Nat.le_refl _) (fun _ h => h.elim)); clear a1 a2 a3)
      | ((with_reducible show OpW 27); refine wpList_loadv _ rfl 39 (.tmp 7) rfl 2 (by kernel_rfl) wx.heap.size 0 cs rfl (BL.all HV4.out) HLEN.out ?_)
      | (go_at_call 53; refine (HF.out w4 cs x (HCK.out _ _ hc.out HX4.out) (stay_pc _ _ _ _ HR.out HX4.out)).mono ?_; rintro e w5 ⟨rfl, bl⟩; rw [h1]; have HV5 := Lib.hid (HV4.out.kept bl); have HX5 := Lib.hid (below_thenB HX4.out HX4.out.size bl); have HBL5 := Lib.hid (HBL.out.kept HX5.out); clear bl)
      | ((with_reducible show OpW 32); refine wpList_loadv _ rfl 39 (.tmp 7) rfl 2 (by kernel_rfl) wx.heap.size 0 cs rfl (BL.all HV5.out) HLEN.out ?_)
      | ((with_reducible show OpN); refine wpList_storev _ rfl 39 (.tmp 33) (.tmp 32) rfl 2 (by kernel_rfl) g (o + i * 2) _ cells cs (by go_simp) rfl HBL5.out HLEN.out HONE.out (by have := HFIT.out; omega) ?_; intro w6 a1 a2 a3; have HBL6 := Lib.hid a1; have HK6 := Lib.hid a2; clear a1 a2 a3))
     have HD6 := Lib.hid ((hd.out.kept stay_pc HX5.out).store (fun _ => len_pc) (show ∀ cs x, rPc w5 cs x → rPc w6 cs x from fun _ _ h => h) hij HX.out h1 HBL5.out HFIT.out (stay_pc _ _ _ _ HR.out HX5.out) HBL6.out)
     go_roundw
     case rel => exact ⟨i + 1, j + 1, by omega, by omega, by go_num, by go_num, HD6, Lib.hid (HCS.out _ _ _ _ HBL5.out (HCK.out _ _ hc.out HX5.out) HK6.out), Lib.hid ((hkp.out.trans (Kp.of_below HX5.out)).trans HK6.out)⟩
     case measure => simp [intOf]; omega
   ·
    obtain rfl : j = n := by omega
    go_wp2_with (first
     | ((with_reducible show OpW 38); refine wpList_cutV _ rfl (.tmp 36) (.tmp 37) 24 39 2 rfl Try.underlying24 (agg_size (P := Try.prog) _ (t := 39) (by kernel_rfl)) g o j c i rfl rfl hij hnc ?_)
     | ((with_reducible show OpN); obtain ⟨iS, i1, i2, i3, i4⟩ := info_some infoPc; refine wpList_clearV _ rfl (.tmp 38) 24 39 iS _ rfl Try.underlying24 i1 i2 (by decide) (one_val _ rfl) g (o + i * 2) (j - i) (c - i) 2 rfl cells rfl HBL.out (by have := HFIT.out; omega) (by omega) ?_; intro w6 zs a1 a2 a3; have HBL6 := Lib.hid a1; have HZS := Lib.hid a2; have HK6 := Lib.hid a3; clear a1 a2 a3 i1 i2 i3 i4)
     | ((with_reducible show OpW 41); refine wpList_preV _ rfl (.tmp 39) (.tmp 40) 24 39 2 rfl Try.underlying24 (agg_size (P := Try.prog) _ (t := 39) (by kernel_rfl)) g o j c i rfl rfl (by omega) hnc (by omega) ?_))
    go_ret
    exact ⟨i, c, rfl, ⟨hd.out.fin (fun _ => len_pc) (fun _ _ h => h) HBL.out HFIT.out HBL6.out HZS.out (by omega) hnc HLIM.out, fun a e => by cases e; exact ⟨_, HBL6.out⟩⟩, (hkp.out.trans HK6.out).mono (fun b _ h => by rw [h]; rfl)⟩
theorem len_spT {w : World} : ∀ cs x, rSpT w cs x → cs.length = 6 := fun cs x h => len_sp cs x h.1
set_option maxRecDepth 100000 in
set_option maxHeartbeats 2000000 in
theorem idx_sp (A : Option Addr) (n c gc : Nat) (L : List Sp) (p : Sp → Bool) (w : World) (C : World → Prop) (hL : LS rSpT 6 72 w A n c L) (hC : C w) (hCk : ∀ w1 w2, C w1 → Below w1.heap.size w1 w2 → C w2)
  (hf : ∀ w1 cs x, C w1 → rSpT w1 cs x → Calls Try.prog 56 #[.agg cs.toArray, .pointer (some ⟨gc, 0, none⟩)] w1 fun e w2 => e = .returned (.bool (p x)) ∧ Below w1.heap.size w1 w2) :
  Calls Try.prog 88 #[.slice A n c, .func (.func 56) #[] #[.pointer (some ⟨gc, 0, none⟩)]] w fun e w' => ∃ r, e = .returned (.int .i64 r) ∧ idxP p L r ∧ Below w.heap.size w w' := by
 have hn := hL.len_le
 have H := Lib.hid hL
 have HL := Lib.hid hL.1
 have HC := Lib.hid hC
 have HCK := Lib.hid hCk
 have HF := Lib.hid hf
 clear hL hC hCk hf
 go_enter Try.func88, Try.ntmps88
 go_wp2_with fail
 go_loopw [8] (fun iv wr => ∃ k : Nat, k ≤ n ∧ iv = .int .i64 (k : Int) ∧ Hid (∀ x ∈ L.take k, p x = false) ∧ Hid (Below w.heap.size w wr)) (fun iv _ => n - (intOf iv).toNat)
 case atStart => exact ⟨0, by omega, rfl, Lib.hid (fun x hx => by simp at hx), Lib.hid (Below.refl _ _)⟩
 case round =>
  obtain ⟨k, hk, rfl, hall, hb⟩ := hrel
  obtain ⟨wx, hwx⟩ : ∃ x, x = wr := ⟨_, rfl⟩
  rw [← hwx] at hb ⊢
  clear hwx
  by_cases hlt : k < n
  ·
   obtain ⟨x, g, o, cs, hs, ea, hat, hr⟩ := H.out.at_ stay_spT hb.out hlt
   have HR := Lib.hid hr
   have HX := Lib.hid hs
   have HA := Lib.hid hat
   have HLEN := Lib.hid (len_spT cs x hr)
   subst ea
   clear hs hat hr
   cases h1 : p x with
   | true =>
    go_wp2_with (first
     | ((with_reducible show OpW 15); refine wpList_loadv _ rfl 61 (.tmp 14) rfl 6 (by kernel_rfl) g (o + k * 6) cs (by go_simp) HA.out HLEN.out ?_)
     | (go_at_call 56; refine (HF.out wx cs x (HCK.out _ _ HC.out hb.out) HR.out).mono ?_; rintro e w2 ⟨rfl, bl⟩; rw [h1]; have HX2 := Lib.hid bl; clear bl))
    go_ret
    exact ⟨(k : Int), rfl, .inr ⟨k, x, rfl, HX.out, h1, hall.out⟩, below_thenB hb.out hb.out.size HX2.out⟩
   | false =>
    have HALL : Hid (∀ x ∈ L.take (k + 1), p x = false) := Lib.hid (fun y hy => by
     rw [take_next HX.out] at hy
     rcases List.mem_append.1 hy with h | h
     ·
      exact hall.out y h
     ·
      rw [List.mem_singleton.1 h]; exact h1)
    go_wp2_with (first
     | ((with_reducible show OpW 15); refine wpList_loadv _ rfl 61 (.tmp 14) rfl 6 (by kernel_rfl) g (o + k * 6) cs (by go_simp) HA.out HLEN.out ?_)
     | (go_at_call 56; refine (HF.out wx cs x (HCK.out _ _ HC.out hb.out) HR.out).mono ?_; rintro e w2 ⟨rfl, bl⟩; rw [h1]; have HX2 := Lib.hid bl; clear bl))
    go_roundw
    case rel => exact ⟨k + 1, by omega, by go_num, HALL, Lib.hid (below_thenB hb.out hb.out.size HX2.out)⟩
    case measure => simp [intOf]; omega
  ·
   obtain rfl : k = n := by omega
   go_wp2_with fail
   go_ret
   exact ⟨-1, rfl, .inl ⟨rfl, fun x hx => hall.out x (by rw [take_end HL.out]; exact hx)⟩, hb.out⟩
set_option maxRecDepth 100000 in
set_option maxHeartbeats 4000000 in
theorem del_sp (A : Option Addr) (n c gc : Nat) (L : List Sp) (p : Sp → Bool) (w : World) (C : World → Prop) (hO : LT rSpT 6 72 61 w A n c L) (hC : C w) (hCk : ∀ w1 w2, C w1 → Below w1.heap.size w1 w2 → C w2) (hCs : ∀ w1 w2 g cs, BL w1 g 61 cs → C w1 → Kp (· = g) w1 w2 → C w2)
  (hf : ∀ w1 cs x, C w1 → rSpT w1 cs x → Calls Try.prog 56 #[.agg cs.toArray, .pointer (some ⟨gc, 0, none⟩)] w1 fun e w2 => e = .returned (.bool (p x)) ∧ Below w1.heap.size w1 w2) :
  Calls Try.prog 55 #[.slice A n c, .func (.func 56) #[] #[.pointer (some ⟨gc, 0, none⟩)]] w fun e w' => ∃ n' c', e = .returned (.slice A n' c') ∧ LT rSpT 6 72 61 w' A n' c' (kpL p L) ∧ Kp (fun b => (Value.slice A n c).ownBlock = some b) w w' := by
 have hL := hO.1
 have hn := hL.len_le
 have hnc := hL.2.1
 have H := Lib.hid hL
 have HO := Lib.hid hO
 have HL := Lib.hid hL.1
 have HLIM := Lib.hid (show L.length * 72 ≤ lim by rw [hL.1]; exact hL.2.2.1)
 have HC := Lib.hid hC
 have HCK := Lib.hid hCk
 have HCS := Lib.hid hCs
 have HF := Lib.hid hf
 clear hL hO hC hCk hCs hf
 by_cases hall : ∀ x ∈ L, p x = false
 ·
  have HALL := Lib.hid hall
  clear hall
  go_enter Try.func55, Try.ntmps55
  go_wp2_with (first
   | (go_at_call 88; refine (idx_sp A n c gc L p w C H.out HC.out HCK.out HF.out).mono ?_; rintro e w1 ⟨r, rfl, hr, b1⟩; obtain rfl := idxP.neg hr HALL.out; have HB1 := Lib.hid b1; clear hr b1))
  go_ret
  exact ⟨n, c, rfl, by rw [kpL_all HALL.out]; exact HO.out.kept stay_spT HB1.out, Kp.of_below HB1.out⟩
 ·
  have HALL := Lib.hid hall
  have hn0 : 0 < n := by
   rcases Nat.eq_zero_or_pos n with h | h
   ·
    exfalso
    apply hall
    have : L = [] := List.eq_nil_of_length_eq_zero (by rw [HL.out]; exact h)
    subst this
    intro x hx; cases hx
   ·
    exact h
  obtain ⟨g, o, rfl⟩ := HO.out.addr hn0 HL.out
  clear hall
  go_enter Try.func55, Try.ntmps55
  go_wp2_with (first
   | (go_at_call 88; refine (idx_sp (some ⟨g, o, none⟩) n c gc L p w C H.out HC.out HCK.out HF.out).mono ?_; rintro e w1 ⟨r, rfl, hr, b1⟩; obtain ⟨i0, x0, rfl, hx0, hp0, hal⟩ := idxP.pos hr HALL.out; have HB1 := Lib.hid b1; have HD1 := Lib.hid ((DF.startL HO.out (fun _ => len_spT) (by decide) hx0 hp0 hal).kept stay_spT b1); have hi0 : i0 < n := (by have := (List.getElem?_eq_some_iff.1 hx0).1; rw [HL.out] at this; exact this); have e1 := ne_neg1 i0; clear hr b1 hx0 hp0 hal))
  go_loopw [5, 6] (fun iv jv wr => ∃ i j : Nat, i < j ∧ j ≤ n ∧ iv = .int .i64 (i : Int) ∧ jv = .int .i64 (j : Int) ∧ Hid (DF rSpT 6 61 wr g o n c L p i j) ∧ Hid (C wr) ∧ Hid (Kp (· = g) w wr)) (fun _ jv _ => n - (intOf jv).toNat)
  case atStart => exact ⟨i0, i0 + 1, by omega, by omega, rfl, by go_num, HD1, Lib.hid (HCK.out _ _ HC.out HB1.out), Lib.hid (Kp.of_below HB1.out)⟩
  case round =>
   obtain ⟨i, j, hij, hj, rfl, rfl, hd, hc, hkp⟩ := hrel
   obtain ⟨wx, hwx⟩ : ∃ x, x = wr := ⟨_, rfl⟩
   rw [← hwx] at hd hc hkp ⊢
   clear hwx
   obtain ⟨cells, hbl, hfit⟩ := hd.out.blk
   have HBL := Lib.hid hbl
   have HFIT := Lib.hid hfit
   clear hbl hfit
   by_cases hlt : j < n
   ·
    obtain ⟨x, cs, hs, hat, hr⟩ := hd.out.at_ hlt
    have HR := Lib.hid hr
    have HX := Lib.hid hs
    have HA := Lib.hid hat
    have HLEN := Lib.hid (len_spT cs x hr)
    have HONE := Lib.hid (ones_spT cs x hr)
    have his : i * 6 + 6 ≤ n * 6 := by omega
    clear hs hat hr
    cases h1 : p x with
    | true =>
     go_wp2_with (first
      | ((with_reducible show OpW 25); refine wpList_loadv _ rfl 61 (.tmp 24) rfl 6 (by kernel_rfl) g (o + j * 6) cs (by go_simp) HA.out HLEN.out ?_)
      | ((with_reducible show OpW 7); refine wpList_alloc _ rfl 61 rfl spZ spZero ?_; intro w3 a1 a2 a3; have HV3 := Lib.hid a1; have HX3 := Lib.hid a2; clear a1 a2 a3)
      | ((with_reducible show OpN); refine wpList_storev _ rfl 61 (.tmp 7) (.tmp 25) rfl 6 (by kernel_rfl) wx.heap.size 0 _ spZ cs rfl rfl HV3.out HLEN.out HONE.out (by decide) ?_; intro w4 a1 a2 a3; rw [splice_fullV (l := spZ) (vs := cs) HLEN.out] at a1; have HV4 : Hid (BL w4 wx.heap.size 61 cs) := Lib.hid a1; have HX4 : Hid (Below wx.heap.size wx w4) := Lib.hid (((Kp.of_below (S := fun _ => False) HX3.out).after a2 (fun i hi e => by omega)).below (Nat.le_refl _) (fun _ h => h.elim)); clear a1 a2 a3)
      | ((with_reducible show OpW 27); refine wpList_loadv _ rfl 61 (.tmp 7) rfl 6 (by kernel_rfl) wx.heap.size 0 cs rfl (BL.all HV4.out) HLEN.out ?_)
      | (go_at_call 56; refine (HF.out w4 cs x (HCK.out _ _ hc.out HX4.out) (stay_spT _ _ _ _ HR.out HX4.out)).mono ?_; rintro e w5 ⟨rfl, bl⟩; rw [h1]; have HX5 := Lib.hid (below_thenB HX4.out HX4.out.size bl); clear bl))
     go_roundw
     case rel => exact ⟨i, j + 1, by omega, by omega, rfl, by go_num, Lib.hid ((hd.out.kept stay_spT HX5.out).skip HX.out h1), Lib.hid (HCK.out _ _ hc.out HX5.out), Lib.hid (hkp.out.trans (Kp.of_below HX5.out))⟩
     case measure => simp [intOf]; omega
    | false =>
     have HBLg := HBL.out.lt
     go_wp2_with (first
      | ((with_reducible show OpW 25); refine wpList_loadv _ rfl 61 (.tmp 24) rfl 6 (by kernel_rfl) g (o + j * 6) cs (by go_simp) HA.out HLEN.out ?_)
      | ((with_reducible show OpW 7); refine wpList_alloc _ rfl 61 rfl spZ spZero ?_; intro w3 a1 a2 a3; have HV3 := Lib.hid a1; have HX3 := Lib.hid a2; clear a1 a2 a3)
      | ((with_reducible show OpN); refine wpList_storev _ rfl 61 (.tmp 7) (.tmp 25) rfl 6 (by kernel_rfl) wx.heap.size 0 _ spZ cs rfl rfl HV3.out HLEN.out HONE.out (by decide) ?_; intro w4 a1 a2 a3; rw [splice_fullV (l := spZ) (vs := cs) HLEN.out] at a1; have HV4 : Hid (BL w4 wx.heap.size 61 cs) := Lib.hid a1; have HX4 : Hid (Below wx.heap.size wx w4) := Lib.hid (((Kp.of_below (S := fun _ => False) HX3.out).after a2 (fun i hi e => by omega)).below (Nat.le_refl _) (fun _ h => h.elim)); clear a1 a2 a3)
      | ((with_reducible show OpW 27); refine wpList_loadv _ rfl 61 (.tmp 7) rfl 6 (by kernel_rfl) wx.heap.size 0 cs rfl (BL.all HV4.out) HLEN.out ?_)
      | (go_at_call 56; refine (HF.out w4 cs x (HCK.out _ _ hc.out HX4.out) (stay_spT _ _ _ _ HR.out HX4.out)).mono ?_; rintro e w5 ⟨rfl, bl⟩; rw [h1]; have HV5 := Lib.hid (HV4.out.kept bl); have HX5 := Lib.hid (below_thenB HX4.out HX4.out.size bl); have HBL5 := Lib.hid (HBL.out.kept HX5.out); clear bl)
      | ((with_reducible show OpW 32); refine wpList_loadv _ rfl 61 (.tmp 7) rfl 6 (by kernel_rfl) wx.heap.size 0 cs rfl (BL.all HV5.out) HLEN.out ?_)
      | ((with_reducible show OpN); refine wpList_storev _ rfl 61 (.tmp 33) (.tmp 32) rfl 6 (by kernel_rfl) g (o + i * 6) _ cells cs (by go_simp) rfl HBL5.out HLEN.out HONE.out (by have := HFIT.out; omega) ?_; intro w6 a1 a2 a3; have HBL6 := Lib.hid a1; have HK6 := Lib.hid a2; clear a1 a2 a3))
     have HD6 := Lib.hid ((hd.out.kept stay_spT HX5.out).store (fun _ => len_spT) (show ∀ cs x, rSpT w5 cs x → rSpT w6 cs x from fun _ _ h => h.kp HK6.out (fun i hi e => by subst e; exact ⟨_, _, HBL5.out, by decide⟩)) hij HX.out h1 HBL5.out HFIT.out (stay_spT _ _ _ _ HR.out HX5.out) HBL6.out)
     go_roundw
     case rel => exact ⟨i + 1, j + 1, by omega, by omega, by go_num, by go_num, HD6, Lib.hid (HCS.out _ _ _ _ HBL5.out (HCK.out _ _ hc.out HX5.out) HK6.out), Lib.hid ((hkp.out.trans (Kp.of_below HX5.out)).trans HK6.out)⟩
     case measure => simp [intOf]; omega
   ·
    obtain rfl : j = n := by omega
    go_wp2_with (first
     | ((with_reducible show OpW 38); refine wpList_cutV _ rfl (.tmp 36) (.tmp 37) 22 61 6 rfl Try.underlying22 (agg_size (P := Try.prog) _ (t := 61) (by kernel_rfl)) g o j c i rfl rfl hij hnc ?_)
     | ((with_reducible show OpN); obtain ⟨iS, i1, i2, i3, i4⟩ := info_some infoSp; refine wpList_clearV _ rfl (.tmp 38) 22 61 iS _ rfl Try.underlying22 i1 i2 (by decide) (one_val _ rfl) g (o + i * 6) (j - i) (c - i) 6 rfl cells rfl HBL.out (by have := HFIT.out; omega) (by omega) ?_; intro w6 zs a1 a2 a3; have HBL6 := Lib.hid a1; have HZS := Lib.hid a2; have HK6 := Lib.hid a3; clear a1 a2 a3 i1 i2 i3 i4)
     | ((with_reducible show OpW 41); refine wpList_preV _ rfl (.tmp 39) (.tmp 40) 22 61 6 rfl Try.underlying22 (agg_size (P := Try.prog) _ (t := 61) (by kernel_rfl)) g o j c i rfl rfl (by omega) hnc (by omega) ?_))
    go_ret
    exact ⟨i, c, rfl, ⟨hd.out.fin (fun _ => len_spT) (fun _ _ h => h.kp HK6.out (fun i hi e => by subst e; exact ⟨_, _, HBL.out, by decide⟩)) HBL.out HFIT.out HBL6.out HZS.out (by omega) hnc HLIM.out, fun a e => by cases e; exact ⟨_, HBL6.out⟩⟩, (hkp.out.trans HK6.out).mono (fun b _ h => by rw [h]; rfl)⟩
theorem set_splice {l : List Value} {k : Nat} {u : Value} (h : k < l.length) : l.set k u = splice l k [u] := by
 rw [List.set_eq_take_append_cons_drop, if_pos h]
 unfold splice
 simp
theorem at_str {w : World} {g o k : Nat} {x : List UInt8} {cs : List Value} (h : At w g (o + k * 1) cs) (hr : rStr w cs x) : w.cell? ⟨g, o + k, none⟩ = some (.string (strB x)) := by
 have := h 0 (.string (strB x)) (by rw [hr.1]; rfl)
 rw [Nat.mul_one] at this
 exact this
set_option maxRecDepth 100000 in
set_option maxHeartbeats 2000000 in
theorem idx_s3 (A : Option Addr) (n c gc : Nat) (L : List (List UInt8)) (p : List UInt8 → Bool) (w : World) (C : World → Prop) (hL : LS rStr 1 16 w A n c L) (hC : C w) (hCk : ∀ w1 w2, C w1 → Below w1.heap.size w1 w2 → C w2)
  (hf : ∀ w1 x, C w1 → x.length ≤ reachBytes → Calls Try.prog 58 #[.string (strB x), .pointer (some ⟨gc, 0, none⟩)] w1 fun e w2 => e = .returned (.bool (p x)) ∧ Below w1.heap.size w1 w2) :
  Calls Try.prog 89 #[.slice A n c, .func (.func 58) #[] #[.pointer (some ⟨gc, 0, none⟩)]] w fun e w' => ∃ r, e = .returned (.int .i64 r) ∧ idxP p L r ∧ Below w.heap.size w w' := by
 have hn := hL.len_le
 have H := Lib.hid hL
 have HL := Lib.hid hL.1
 have HC := Lib.hid hC
 have HCK := Lib.hid hCk
 have HF := Lib.hid hf
 clear hL hC hCk hf
 go_enter Try.func89, Try.ntmps89
 go_wp2_with fail
 go_loopw [8] (fun iv wr => ∃ k : Nat, k ≤ n ∧ iv = .int .i64 (k : Int) ∧ Hid (∀ x ∈ L.take k, p x = false) ∧ Hid (Below w.heap.size w wr)) (fun iv _ => n - (intOf iv).toNat)
 case atStart => exact ⟨0, by omega, rfl, Lib.hid (fun x hx => by simp at hx), Lib.hid (Below.refl _ _)⟩
 case round =>
  obtain ⟨k, hk, rfl, hall, hb⟩ := hrel
  obtain ⟨wx, hwx⟩ : ∃ x, x = wr := ⟨_, rfl⟩
  rw [← hwx] at hb ⊢
  clear hwx
  by_cases hlt : k < n
  ·
   obtain ⟨x, g, o, hs, ea, q1⟩ := H.out.str_at hb.out hlt
   have HX := Lib.hid hs
   have HXL := Lib.hid (H.out.str_ok hs)
   subst ea
   clear hs
   cases h1 : p x with
   | true =>
    go_wp2_with (first
     | (go_at_call 58; refine (HF.out wx x (HCK.out _ _ HC.out hb.out) HXL.out).mono ?_; rintro e w2 ⟨rfl, bl⟩; rw [h1]; have HX2 := Lib.hid bl; clear bl))
    go_ret
    exact ⟨(k : Int), rfl, .inr ⟨k, x, rfl, HX.out, h1, hall.out⟩, below_thenB hb.out hb.out.size HX2.out⟩
   | false =>
    have HALL : Hid (∀ x ∈ L.take (k + 1), p x = false) := Lib.hid (fun y hy => by
     rw [take_next HX.out] at hy
     rcases List.mem_append.1 hy with h | h
     ·
      exact hall.out y h
     ·
      rw [List.mem_singleton.1 h]; exact h1)
    go_wp2_with (first
     | (go_at_call 58; refine (HF.out wx x (HCK.out _ _ HC.out hb.out) HXL.out).mono ?_; rintro e w2 ⟨rfl, bl⟩; rw [h1]; have HX2 := Lib.hid bl; clear bl))
    go_roundw
    case rel => exact ⟨k + 1, by omega, by go_num, HALL, Lib.hid (below_thenB hb.out hb.out.size HX2.out)⟩
    case measure => simp [intOf]; omega
  ·
   obtain rfl : k = n := by omega
   go_wp2_with fail
   go_ret
   exact ⟨-1, rfl, .inl ⟨rfl, fun x hx => hall.out x (by rw [take_end HL.out]; exact hx)⟩, hb.out⟩
set_option maxRecDepth 100000 in
set_option maxHeartbeats 4000000 in
theorem del_s3 (A : Option Addr) (n c gc : Nat) (L : List (List UInt8)) (p : List UInt8 → Bool) (w : World) (C : World → Prop) (hO : LT rStr 1 16 9 w A n c L) (hC : C w) (hCk : ∀ w1 w2, C w1 → Below w1.heap.size w1 w2 → C w2) (hCs : ∀ w1 w2 g cs, BL w1 g 9 cs → C w1 → Kp (· = g) w1 w2 → C w2)
  (hf : ∀ w1 x, C w1 → x.length ≤ reachBytes → Calls Try.prog 58 #[.string (strB x), .pointer (some ⟨gc, 0, none⟩)] w1 fun e w2 => e = .returned (.bool (p x)) ∧ Below w1.heap.size w1 w2) :
  Calls Try.prog 57 #[.slice A n c, .func (.func 58) #[] #[.pointer (some ⟨gc, 0, none⟩)]] w fun e w' => ∃ n' c', e = .returned (.slice A n' c') ∧ LT rStr 1 16 9 w' A n' c' (kpL p L) ∧ Kp (fun b => (Value.slice A n c).ownBlock = some b) w w' := by
 have hL := hO.1
 have hn := hL.len_le
 have hnc := hL.2.1
 have H := Lib.hid hL
 have HO := Lib.hid hO
 have HL := Lib.hid hL.1
 have HLIM := Lib.hid (show L.length * 16 ≤ lim by rw [hL.1]; exact hL.2.2.1)
 have HC := Lib.hid hC
 have HCK := Lib.hid hCk
 have HCS := Lib.hid hCs
 have HF := Lib.hid hf
 clear hL hO hC hCk hCs hf
 by_cases hall : ∀ x ∈ L, p x = false
 ·
  have HALL := Lib.hid hall
  clear hall
  go_enter Try.func57, Try.ntmps57
  go_wp2_with (first
   | (go_at_call 89; refine (idx_s3 A n c gc L p w C H.out HC.out HCK.out HF.out).mono ?_; rintro e w1 ⟨r, rfl, hr, b1⟩; obtain rfl := idxP.neg hr HALL.out; have HB1 := Lib.hid b1; clear hr b1))
  go_ret
  exact ⟨n, c, rfl, by rw [kpL_all HALL.out]; exact HO.out.kept stay_str HB1.out, Kp.of_below HB1.out⟩
 ·
  have HALL := Lib.hid hall
  have hn0 : 0 < n := by
   rcases Nat.eq_zero_or_pos n with h | h
   ·
    exfalso
    apply hall
    have : L = [] := List.eq_nil_of_length_eq_zero (by rw [HL.out]; exact h)
    subst this
    intro x hx; cases hx
   ·
    exact h
  obtain ⟨g, o, rfl⟩ := HO.out.addr hn0 HL.out
  clear hall
  go_enter Try.func57, Try.ntmps57
  go_wp2_with (first
   | (go_at_call 89; refine (idx_s3 (some ⟨g, o, none⟩) n c gc L p w C H.out HC.out HCK.out HF.out).mono ?_; rintro e w1 ⟨r, rfl, hr, b1⟩; obtain ⟨i0, x0, rfl, hx0, hp0, hal⟩ := idxP.pos hr HALL.out; have HB1 := Lib.hid b1; have HD1 := Lib.hid ((DF.startL HO.out (fun _ => len_str) (by decide) hx0 hp0 hal).kept stay_str b1); have hi0 : i0 < n := (by have := (List.getElem?_eq_some_iff.1 hx0).1; rw [HL.out] at this; exact this); have e1 := ne_neg1 i0; clear hr b1 hx0 hp0 hal))
  go_loopw [5, 6] (fun iv jv wr => ∃ i j : Nat, i < j ∧ j ≤ n ∧ iv = .int .i64 (i : Int) ∧ jv = .int .i64 (j : Int) ∧ Hid (DF rStr 1 9 wr g o n c L p i j) ∧ Hid (C wr) ∧ Hid (Kp (· = g) w wr)) (fun _ jv _ => n - (intOf jv).toNat)
  case atStart => exact ⟨i0, i0 + 1, by omega, by omega, rfl, by go_num, HD1, Lib.hid (HCK.out _ _ HC.out HB1.out), Lib.hid (Kp.of_below HB1.out)⟩
  case round =>
   obtain ⟨i, j, hij, hj, rfl, rfl, hd, hc, hkp⟩ := hrel
   obtain ⟨wx, hwx⟩ : ∃ x, x = wr := ⟨_, rfl⟩
   rw [← hwx] at hd hc hkp ⊢
   clear hwx
   obtain ⟨cells, hbl, hfit⟩ := hd.out.blk
   have HBL := Lib.hid hbl
   have HFIT := Lib.hid hfit
   clear hbl hfit
   by_cases hlt : j < n
   ·
    obtain ⟨x, cs, hs, hat, hr⟩ := hd.out.at_ hlt
    have HR := Lib.hid hr
    have HX := Lib.hid hs
    have q1 := at_str hat hr
    have HXL := Lib.hid hr.2
    clear hs hat hr
    cases h1 : p x with
    | true =>
     go_wp2_with (first
      | (go_at_call 58; refine (HF.out wx x hc.out HXL.out).mono ?_; rintro e w5 ⟨rfl, bl⟩; rw [h1]; have HX5 := Lib.hid bl; clear bl))
     go_roundw
     case rel => exact ⟨i, j + 1, by omega, by omega, rfl, by go_num, Lib.hid ((hd.out.kept stay_str HX5.out).skip HX.out h1), Lib.hid (HCK.out _ _ hc.out HX5.out), Lib.hid (hkp.out.trans (Kp.of_below HX5.out))⟩
     case measure => simp [intOf]; omega
    | false =>
     have hilt : o + i < cells.length := by have := HFIT.out; omega
     go_wp2_with (first
      | (go_at_call 58; refine (HF.out wx x hc.out HXL.out).mono ?_; rintro e w5 ⟨rfl, bl⟩; rw [h1]; have HX5 := Lib.hid bl; have HBL5 := Lib.hid (HBL.out.kept bl); clear bl)
      | ((with_reducible show OpN); refine wpList_store1 _ rfl 9 (.tmp 33) (.tmp 32) rfl (slSz _ (by kernel_rfl) _) g (o + i) _ cells (.string (strB x)) (by go_simp) rfl HBL5.out rfl rfl hilt ?_; intro w6 a1 a2 a3; rw [set_splice hilt] at a1; have HBL6 := Lib.hid a1; have HK6 := Lib.hid a2; clear a1 a2 a3))
     have hbl6 : BL w6 g 9 (splice cells (o + i * 1) cs) := by rw [Nat.mul_one, HR.out.1]; exact HBL6.out
     have HD6 := Lib.hid ((hd.out.kept stay_str HX5.out).store (fun _ => len_str) (show ∀ cs x, rStr w5 cs x → rStr w6 cs x from fun _ _ h => h) hij HX.out h1 HBL5.out HFIT.out (show rStr w5 cs x from HR.out) hbl6)
     clear hbl6
     go_roundw
     case rel => exact ⟨i + 1, j + 1, by omega, by omega, by go_num, by go_num, HD6, Lib.hid (HCS.out _ _ _ _ HBL5.out (HCK.out _ _ hc.out HX5.out) HK6.out), Lib.hid ((hkp.out.trans (Kp.of_below HX5.out)).trans HK6.out)⟩
     case measure => simp [intOf]; omega
   ·
    obtain rfl : j = n := by omega
    go_wp2_with (first
     | ((with_reducible show OpW 38); refine wpList_cutV _ rfl (.tmp 36) (.tmp 37) 23 9 1 rfl Try.underlying23 (slSz _ (by kernel_rfl) _) g o j c i rfl rfl hij hnc ?_)
     | ((with_reducible show OpN); obtain ⟨iS, i1, i2, i3, i4⟩ := info_some infoStr; refine wpList_clearV _ rfl (.tmp 38) 23 9 iS _ rfl Try.underlying23 i1 i2 (by decide) (one_val _ rfl) g (o + i * 1) (j - i) (c - i) 1 rfl cells rfl HBL.out (by have := HFIT.out; omega) (by omega) ?_; intro w6 zs a1 a2 a3; have HBL6 := Lib.hid a1; have HZS := Lib.hid a2; have HK6 := Lib.hid a3; clear a1 a2 a3 i1 i2 i3 i4)
     | ((with_reducible show OpW 41); refine wpList_preV _ rfl (.tmp 39) (.tmp 40) 23 9 1 rfl Try.underlying23 (slSz _ (by kernel_rfl) _) g o j c i rfl rfl (by omega) hnc (by omega) ?_))
    go_ret
    exact ⟨i, c, rfl, ⟨hd.out.fin (fun _ => len_str) (fun _ _ h => h) HBL.out HFIT.out HBL6.out HZS.out (by omega) hnc HLIM.out, fun a e => by cases e; exact ⟨_, HBL6.out⟩⟩, (hkp.out.trans HK6.out).mono (fun b _ h => by rw [h]; rfl)⟩
set_option maxRecDepth 100000 in
set_option maxHeartbeats 2000000 in
theorem idx_s4 (A : Option Addr) (n c gc : Nat) (L : List (List UInt8)) (p : List UInt8 → Bool) (w : World) (C : World → Prop) (hL : LS rStr 1 16 w A n c L) (hC : C w) (hCk : ∀ w1 w2, C w1 → Below w1.heap.size w1 w2 → C w2)
  (hf : ∀ w1 x, C w1 → x.length ≤ reachBytes → Calls Try.prog 59 #[.string (strB x), .pointer (some ⟨gc, 0, none⟩)] w1 fun e w2 => e = .returned (.bool (p x)) ∧ Below w1.heap.size w1 w2) :
  Calls Try.prog 89 #[.slice A n c, .func (.func 59) #[] #[.pointer (some ⟨gc, 0, none⟩)]] w fun e w' => ∃ r, e = .returned (.int .i64 r) ∧ idxP p L r ∧ Below w.heap.size w w' := by
 have hn := hL.len_le
 have H := Lib.hid hL
 have HL := Lib.hid hL.1
 have HC := Lib.hid hC
 have HCK := Lib.hid hCk
 have HF := Lib.hid hf
 clear hL hC hCk hf
 go_enter Try.func89, Try.ntmps89
 go_wp2_with fail
 go_loopw [8] (fun iv wr => ∃ k : Nat, k ≤ n ∧ iv = .int .i64 (k : Int) ∧ Hid (∀ x ∈ L.take k, p x = false) ∧ Hid (Below w.heap.size w wr)) (fun iv _ => n - (intOf iv).toNat)
 case atStart => exact ⟨0, by omega, rfl, Lib.hid (fun x hx => by simp at hx), Lib.hid (Below.refl _ _)⟩
 case round =>
  obtain ⟨k, hk, rfl, hall, hb⟩ := hrel
  obtain ⟨wx, hwx⟩ : ∃ x, x = wr := ⟨_, rfl⟩
  rw [← hwx] at hb ⊢
  clear hwx
  by_cases hlt : k < n
  ·
   obtain ⟨x, g, o, hs, ea, q1⟩ := H.out.str_at hb.out hlt
   have HX := Lib.hid hs
   have HXL := Lib.hid (H.out.str_ok hs)
   subst ea
   clear hs
   cases h1 : p x with
   | true =>
    go_wp2_with (first
     | (go_at_call 59; refine (HF.out wx x (HCK.out _ _ HC.out hb.out) HXL.out).mono ?_; rintro e w2 ⟨rfl, bl⟩; rw [h1]; have HX2 := Lib.hid bl; clear bl))
    go_ret
    exact ⟨(k : Int), rfl, .inr ⟨k, x, rfl, HX.out, h1, hall.out⟩, below_thenB hb.out hb.out.size HX2.out⟩
   | false =>
    have HALL : Hid (∀ x ∈ L.take (k + 1), p x = false) := Lib.hid (fun y hy => by
     rw [take_next HX.out] at hy
     rcases List.mem_append.1 hy with h | h
     ·
      exact hall.out y h
     ·
      rw [List.mem_singleton.1 h]; exact h1)
    go_wp2_with (first
     | (go_at_call 59; refine (HF.out wx x (HCK.out _ _ HC.out hb.out) HXL.out).mono ?_; rintro e w2 ⟨rfl, bl⟩; rw [h1]; have HX2 := Lib.hid bl; clear bl))
    go_roundw
    case rel => exact ⟨k + 1, by omega, by go_num, HALL, Lib.hid (below_thenB hb.out hb.out.size HX2.out)⟩
    case measure => simp [intOf]; omega
  ·
   obtain rfl : k = n := by omega
   go_wp2_with fail
   go_ret
   exact ⟨-1, rfl, .inl ⟨rfl, fun x hx => hall.out x (by rw [take_end HL.out]; exact hx)⟩, hb.out⟩
set_option maxRecDepth 100000 in
set_option maxHeartbeats 4000000 in
theorem del_s4 (A : Option Addr) (n c gc : Nat) (L : List (List UInt8)) (p : List UInt8 → Bool) (w : World) (C : World → Prop) (hO : LT rStr 1 16 9 w A n c L) (hC : C w) (hCk : ∀ w1 w2, C w1 → Below w1.heap.size w1 w2 → C w2) (hCs : ∀ w1 w2 g cs, BL w1 g 9 cs → C w1 → Kp (· = g) w1 w2 → C w2)
  (hf : ∀ w1 x, C w1 → x.length ≤ reachBytes → Calls Try.prog 59 #[.string (strB x), .pointer (some ⟨gc, 0, none⟩)] w1 fun e w2 => e = .returned (.bool (p x)) ∧ Below w1.heap.size w1 w2) :
  Calls Try.prog 57 #[.slice A n c, .func (.func 59) #[] #[.pointer (some ⟨gc, 0, none⟩)]] w fun e w' => ∃ n' c', e = .returned (.slice A n' c') ∧ LT rStr 1 16 9 w' A n' c' (kpL p L) ∧ Kp (fun b => (Value.slice A n c).ownBlock = some b) w w' := by
 have hL := hO.1
 have hn := hL.len_le
 have hnc := hL.2.1
 have H := Lib.hid hL
 have HO := Lib.hid hO
 have HL := Lib.hid hL.1
 have HLIM := Lib.hid (show L.length * 16 ≤ lim by rw [hL.1]; exact hL.2.2.1)
 have HC := Lib.hid hC
 have HCK := Lib.hid hCk
 have HCS := Lib.hid hCs
 have HF := Lib.hid hf
 clear hL hO hC hCk hCs hf
 by_cases hall : ∀ x ∈ L, p x = false
 ·
  have HALL := Lib.hid hall
  clear hall
  go_enter Try.func57, Try.ntmps57
  go_wp2_with (first
   | (go_at_call 89; refine (idx_s4 A n c gc L p w C H.out HC.out HCK.out HF.out).mono ?_; rintro e w1 ⟨r, rfl, hr, b1⟩; obtain rfl := idxP.neg hr HALL.out; have HB1 := Lib.hid b1; clear hr b1))
  go_ret
  exact ⟨n, c, rfl, by rw [kpL_all HALL.out]; exact HO.out.kept stay_str HB1.out, Kp.of_below HB1.out⟩
 ·
  have HALL := Lib.hid hall
  have hn0 : 0 < n := by
   rcases Nat.eq_zero_or_pos n with h | h
   ·
    exfalso
    apply hall
    have : L = [] := List.eq_nil_of_length_eq_zero (by rw [HL.out]; exact h)
    subst this
    intro x hx; cases hx
   ·
    exact h
  obtain ⟨g, o, rfl⟩ := HO.out.addr hn0 HL.out
  clear hall
  go_enter Try.func57, Try.ntmps57
  go_wp2_with (first
   | (go_at_call 89; refine (idx_s4 (some ⟨g, o, none⟩) n c gc L p w C H.out HC.out HCK.out HF.out).mono ?_; rintro e w1 ⟨r, rfl, hr, b1⟩; obtain ⟨i0, x0, rfl, hx0, hp0, hal⟩ := idxP.pos hr HALL.out; have HB1 := Lib.hid b1; have HD1 := Lib.hid ((DF.startL HO.out (fun _ => len_str) (by decide) hx0 hp0 hal).kept stay_str b1); have hi0 : i0 < n := (by have := (List.getElem?_eq_some_iff.1 hx0).1; rw [HL.out] at this; exact this); have e1 := ne_neg1 i0; clear hr b1 hx0 hp0 hal))
  go_loopw [5, 6] (fun iv jv wr => ∃ i j : Nat, i < j ∧ j ≤ n ∧ iv = .int .i64 (i : Int) ∧ jv = .int .i64 (j : Int) ∧ Hid (DF rStr 1 9 wr g o n c L p i j) ∧ Hid (C wr) ∧ Hid (Kp (· = g) w wr)) (fun _ jv _ => n - (intOf jv).toNat)
  case atStart => exact ⟨i0, i0 + 1, by omega, by omega, rfl, by go_num, HD1, Lib.hid (HCK.out _ _ HC.out HB1.out), Lib.hid (Kp.of_below HB1.out)⟩
  case round =>
   obtain ⟨i, j, hij, hj, rfl, rfl, hd, hc, hkp⟩ := hrel
   obtain ⟨wx, hwx⟩ : ∃ x, x = wr := ⟨_, rfl⟩
   rw [← hwx] at hd hc hkp ⊢
   clear hwx
   obtain ⟨cells, hbl, hfit⟩ := hd.out.blk
   have HBL := Lib.hid hbl
   have HFIT := Lib.hid hfit
   clear hbl hfit
   by_cases hlt : j < n
   ·
    obtain ⟨x, cs, hs, hat, hr⟩ := hd.out.at_ hlt
    have HR := Lib.hid hr
    have HX := Lib.hid hs
    have q1 := at_str hat hr
    have HXL := Lib.hid hr.2
    clear hs hat hr
    cases h1 : p x with
    | true =>
     go_wp2_with (first
      | (go_at_call 59; refine (HF.out wx x hc.out HXL.out).mono ?_; rintro e w5 ⟨rfl, bl⟩; rw [h1]; have HX5 := Lib.hid bl; clear bl))
     go_roundw
     case rel => exact ⟨i, j + 1, by omega, by omega, rfl, by go_num, Lib.hid ((hd.out.kept stay_str HX5.out).skip HX.out h1), Lib.hid (HCK.out _ _ hc.out HX5.out), Lib.hid (hkp.out.trans (Kp.of_below HX5.out))⟩
     case measure => simp [intOf]; omega
    | false =>
     have hilt : o + i < cells.length := by have := HFIT.out; omega
     go_wp2_with (first
      | (go_at_call 59; refine (HF.out wx x hc.out HXL.out).mono ?_; rintro e w5 ⟨rfl, bl⟩; rw [h1]; have HX5 := Lib.hid bl; have HBL5 := Lib.hid (HBL.out.kept bl); clear bl)
      | ((with_reducible show OpN); refine wpList_store1 _ rfl 9 (.tmp 33) (.tmp 32) rfl (slSz _ (by kernel_rfl) _) g (o + i) _ cells (.string (strB x)) (by go_simp) rfl HBL5.out rfl rfl hilt ?_; intro w6 a1 a2 a3; rw [set_splice hilt] at a1; have HBL6 := Lib.hid a1; have HK6 := Lib.hid a2; clear a1 a2 a3))
     have hbl6 : BL w6 g 9 (splice cells (o + i * 1) cs) := by rw [Nat.mul_one, HR.out.1]; exact HBL6.out
     have HD6 := Lib.hid ((hd.out.kept stay_str HX5.out).store (fun _ => len_str) (show ∀ cs x, rStr w5 cs x → rStr w6 cs x from fun _ _ h => h) hij HX.out h1 HBL5.out HFIT.out (show rStr w5 cs x from HR.out) hbl6)
     clear hbl6
     go_roundw
     case rel => exact ⟨i + 1, j + 1, by omega, by omega, by go_num, by go_num, HD6, Lib.hid (HCS.out _ _ _ _ HBL5.out (HCK.out _ _ hc.out HX5.out) HK6.out), Lib.hid ((hkp.out.trans (Kp.of_below HX5.out)).trans HK6.out)⟩
     case measure => simp [intOf]; omega
   ·
    obtain rfl : j = n := by omega
    go_wp2_with (first
     | ((with_reducible show OpW 38); refine wpList_cutV _ rfl (.tmp 36) (.tmp 37) 23 9 1 rfl Try.underlying23 (slSz _ (by kernel_rfl) _) g o j c i rfl rfl hij hnc ?_)
     | ((with_reducible show OpN); obtain ⟨iS, i1, i2, i3, i4⟩ := info_some infoStr; refine wpList_clearV _ rfl (.tmp 38) 23 9 iS _ rfl Try.underlying23 i1 i2 (by decide) (one_val _ rfl) g (o + i * 1) (j - i) (c - i) 1 rfl cells rfl HBL.out (by have := HFIT.out; omega) (by omega) ?_; intro w6 zs a1 a2 a3; have HBL6 := Lib.hid a1; have HZS := Lib.hid a2; have HK6 := Lib.hid a3; clear a1 a2 a3 i1 i2 i3 i4)
     | ((with_reducible show OpW 41); refine wpList_preV _ rfl (.tmp 39) (.tmp 40) 23 9 1 rfl Try.underlying23 (slSz _ (by kernel_rfl) _) g o j c i rfl rfl (by omega) hnc (by omega) ?_))
    go_ret
    exact ⟨i, c, rfl, ⟨hd.out.fin (fun _ => len_str) (fun _ _ h => h) HBL.out HFIT.out HBL6.out HZS.out (by omega) hnc HLIM.out, fun a e => by cases e; exact ⟨_, HBL6.out⟩⟩, (hkp.out.trans HK6.out).mono (fun b _ h => by rw [h]; rfl)⟩
end Go.Proofs.Ytboglaokdgnpaaa
/- collector.clone: its lists of strings lie in blocks of their own. -/
namespace Go.Proofs.Ytboglaokdgnpaaa
open Go Go.RowKit Gf Sha

/-- The lists of strings lie apart. -/
structure ClN (b1 b2 b3 b4 : Option Addr) : Prop where
 n12 : ∀ a a', b1 = some a → b2 = some a' → a.block ≠ a'.block
 n23 : ∀ a a', b2 = some a → b3 = some a' → a.block ≠ a'.block
 n24 : ∀ a a', b2 = some a → b4 = some a' → a.block ≠ a'.block
 n14 : ∀ a a', b1 = some a → b4 = some a' → a.block ≠ a'.block
 n34 : ∀ a a', b3 = some a → b4 = some a' → a.block ≠ a'.block
def ClRN (x : Si) (w : World) (e : Ending) (w' : World) : Prop := ∃ b0 k0 d0 b1 k1 d1 b2 k2 d2 b3 k3 d3 b4 k4 d4 b5 k5 d5, e = .returned (.agg (siC b0 k0 d0 b1 k1 d1 b2 k2 d2 b3 k3 d3 b4 k4 d4 b5 k5 d5 x.pct).toArray) ∧ ClO w.heap.size w' b0 k0 d0 b1 k1 d1 b2 k2 d2 b3 k3 d3 b4 k4 d4 b5 k5 d5 x ∧ ClN b1 b2 b3 b4 ∧ Below w.heap.size w w'
/-- The lists of a situation, their blocks typed. -/
structure ClT (w : World) (b0 : Option Addr) (k0 d0 : Nat) (b1 : Option Addr) (k1 d1 : Nat) (b2 : Option Addr) (k2 d2 : Nat) (b3 : Option Addr) (k3 d3 : Nat) (b4 : Option Addr) (k4 d4 : Nat) (b5 : Option Addr) (k5 d5 : Nat) (x : Si) : Prop where
 sp : LT rSpT 6 72 61 w b0 k0 d0 x.sp
 need : LT rStr 1 16 9 w b1 k1 d1 x.need
 cond : LT rStr 1 16 9 w b2 k2 d2 x.cond
 drop : LT rStr 1 16 9 w b3 k3 d3 x.drop
 carr : LT rStr 1 16 9 w b4 k4 d4 x.carr
 held : LT rPc 2 24 39 w b5 k5 d5 x.held
section
variable {w w' : World} {base : Nat} {b0 b1 b2 b3 b4 b5 : Option Addr} {k0 d0 k1 d1 k2 d2 k3 d3 k4 d4 k5 d5 : Nat} {x : Si}
theorem ClT.of (h : ClO base w b0 k0 d0 b1 k1 d1 b2 k2 d2 b3 k3 d3 b4 k4 d4 b5 k5 d5 x) (hl : Lims x) : ClT w b0 k0 d0 b1 k1 d1 b2 k2 d2 b3 k3 d3 b4 k4 d4 b5 k5 d5 x :=
 ⟨LT.of h.sp hl.sp, LT.of h.need hl.need, LT.of h.cond hl.cond, LT.of h.drop hl.drop, LT.of h.carr hl.carr, LT.of h.held hl.held⟩
theorem ClT.si (h : ClT w b0 k0 d0 b1 k1 d1 b2 k2 d2 b3 k3 d3 b4 k4 d4 b5 k5 d5 x) (hp : wfI x.pct) : SiOk w b0 k0 d0 b1 k1 d1 b2 k2 d2 b3 k3 d3 b4 k4 d4 b5 k5 d5 x :=
 ⟨h.sp.1.mono (fun _ _ h => h.1), h.need.1, h.cond.1, h.drop.1, h.carr.1, h.held.1, hp⟩
theorem ClT.kept (h : ClT w b0 k0 d0 b1 k1 d1 b2 k2 d2 b3 k3 d3 b4 k4 d4 b5 k5 d5 x) (hb : Below w.heap.size w w') : ClT w' b0 k0 d0 b1 k1 d1 b2 k2 d2 b3 k3 d3 b4 k4 d4 b5 k5 d5 x :=
 ⟨h.sp.kept stay_spT hb, h.need.kept stay_str hb, h.cond.kept stay_str hb, h.drop.kept stay_str hb, h.carr.kept stay_str hb, h.held.kept stay_pc hb⟩
theorem ClT.put {g : Nat} {l : List Value} (h : ClT w b0 k0 d0 b1 k1 d1 b2 k2 d2 b3 k3 d3 b4 k4 d4 b5 k5 d5 x) (hk : Kp (· = g) w w') (hb : BL w g 33 l) : ClT w' b0 k0 d0 b1 k1 d1 b2 k2 d2 b3 k3 d3 b4 k4 d4 b5 k5 d5 x :=
 ⟨h.sp.kp hk (h.sp.ne_bl hb (by decide)) (fun _ _ h => h.kp hk (fun i hi e => by subst e; exact ⟨_, _, hb, by decide⟩)), h.need.kp hk (h.need.ne_bl hb (by decide)) (fun _ _ h => h), h.cond.kp hk (h.cond.ne_bl hb (by decide)) (fun _ _ h => h), h.drop.kp hk (h.drop.ne_bl hb (by decide)) (fun _ _ h => h), h.carr.kp hk (h.carr.ne_bl hb (by decide)) (fun _ _ h => h), h.held.kp hk (h.held.ne_bl hb (by decide)) (fun _ _ h => h)⟩
/-- A block of a list that has an address. -/
theorem own_addr {A : Option Addr} {k c b : Nat} (h : (Value.slice A k c).ownBlock = some b) : ∃ a, A = some a ∧ a.block = b := by
 cases A with
 | none => cases h
 | some a => exact ⟨a, rfl, Option.some.inj h⟩
theorem LT.ne_lt {α β : Type} {R : Rdg α} {R' : Rdg β} {s b n c s' b' n' c' : Nat} {te te' : TypeId} {A B : Option Addr} {L : List α} {M : List β} (h : LT R s b te w A n c L) (h' : LT R' s' b' te' w B n' c' M) (ht : te' ≠ te) : ∀ a, A = some a → ¬ (Value.slice B n' c').ownBlock = some a.block := fun a e hb => by
 obtain ⟨a', e', e2⟩ := own_addr hb
 obtain ⟨cs, hbl⟩ := h'.2 a' e'
 exact h.ne_bl hbl ht a e e2.symm
theorem LT.ref_ok {α : Type} {R : Rdg α} {s b n c : Nat} {te : TypeId} {B : Option Addr} {L : List α} (h : LT R s b te w B n c L) (ht : te ≠ 73) : ∀ i, i < w.heap.size → (Value.slice B n c).ownBlock = some i → ∃ t l, BL w i t l ∧ t ≠ 73 := fun i _ hb => by
 obtain ⟨a, e, rfl⟩ := own_addr hb
 obtain ⟨cs, hbl⟩ := h.2 a e
 exact ⟨_, _, hbl, ht⟩
theorem ne_own {A B : Option Addr} {n c : Nat} (h : ∀ a a', A = some a → B = some a' → a.block ≠ a'.block) : ∀ a, A = some a → ¬ (Value.slice B n c).ownBlock = some a.block := fun a e hb => by
 obtain ⟨a', e', e2⟩ := own_addr hb
 exact h a a' e e' e2.symm
theorem ClT.setHeld {k5' d5' : Nat} {L : List Pc} (h : ClT w b0 k0 d0 b1 k1 d1 b2 k2 d2 b3 k3 d3 b4 k4 d4 b5 k5 d5 x) (hk : Kp (fun b => (Value.slice b5 k5 d5).ownBlock = some b) w w') (hs : LT rPc 2 24 39 w' b5 k5' d5' L) : ClT w' b0 k0 d0 b1 k1 d1 b2 k2 d2 b3 k3 d3 b4 k4 d4 b5 k5' d5' { x with held := L } :=
 ⟨h.sp.kp hk (h.sp.ne_lt h.held (by decide)) (fun _ _ h9 => h9.kp hk (h.held.ref_ok (by decide))), h.need.kp hk (h.need.ne_lt h.held (by decide)) (fun _ _ h => h), h.cond.kp hk (h.cond.ne_lt h.held (by decide)) (fun _ _ h => h), h.drop.kp hk (h.drop.ne_lt h.held (by decide)) (fun _ _ h => h), h.carr.kp hk (h.carr.ne_lt h.held (by decide)) (fun _ _ h => h), hs⟩
theorem ClT.setSp {k0' d0' : Nat} {L : List Sp} (h : ClT w b0 k0 d0 b1 k1 d1 b2 k2 d2 b3 k3 d3 b4 k4 d4 b5 k5 d5 x) (hk : Kp (fun b => (Value.slice b0 k0 d0).ownBlock = some b) w w') (hs : LT rSpT 6 72 61 w' b0 k0' d0' L) : ClT w' b0 k0' d0' b1 k1 d1 b2 k2 d2 b3 k3 d3 b4 k4 d4 b5 k5 d5 { x with sp := L } :=
 ⟨hs, h.need.kp hk (h.need.ne_lt h.sp (by decide)) (fun _ _ h => h), h.cond.kp hk (h.cond.ne_lt h.sp (by decide)) (fun _ _ h => h), h.drop.kp hk (h.drop.ne_lt h.sp (by decide)) (fun _ _ h => h), h.carr.kp hk (h.carr.ne_lt h.sp (by decide)) (fun _ _ h => h), h.held.kp hk (h.held.ne_lt h.sp (by decide)) (fun _ _ h => h)⟩
theorem ClT.setCond {k2' d2' : Nat} {L : List (List UInt8)} (h : ClT w b0 k0 d0 b1 k1 d1 b2 k2 d2 b3 k3 d3 b4 k4 d4 b5 k5 d5 x) (hn : ClN b1 b2 b3 b4) (hk : Kp (fun b => (Value.slice b2 k2 d2).ownBlock = some b) w w') (hs : LT rStr 1 16 9 w' b2 k2' d2' L) : ClT w' b0 k0 d0 b1 k1 d1 b2 k2' d2' b3 k3 d3 b4 k4 d4 b5 k5 d5 { x with cond := L } :=
 ⟨h.sp.kp hk (h.sp.ne_lt h.cond (by decide)) (fun _ _ h9 => h9.kp hk (h.cond.ref_ok (by decide))), h.need.kp hk (ne_own hn.n12) (fun _ _ h => h), hs, h.drop.kp hk (ne_own (fun a a' e e' => (hn.n23 a' a e' e).symm)) (fun _ _ h => h), h.carr.kp hk (ne_own (fun a a' e e' => (hn.n24 a' a e' e).symm)) (fun _ _ h => h), h.held.kp hk (h.held.ne_lt h.cond (by decide)) (fun _ _ h => h)⟩
theorem ClT.setCarr {k4' d4' : Nat} {L : List (List UInt8)} (h : ClT w b0 k0 d0 b1 k1 d1 b2 k2 d2 b3 k3 d3 b4 k4 d4 b5 k5 d5 x) (hn : ClN b1 b2 b3 b4) (hk : Kp (fun b => (Value.slice b4 k4 d4).ownBlock = some b) w w') (hs : LT rStr 1 16 9 w' b4 k4' d4' L) : ClT w' b0 k0 d0 b1 k1 d1 b2 k2 d2 b3 k3 d3 b4 k4' d4' b5 k5 d5 { x with carr := L } :=
 ⟨h.sp.kp hk (h.sp.ne_lt h.carr (by decide)) (fun _ _ h9 => h9.kp hk (h.carr.ref_ok (by decide))), h.need.kp hk (ne_own hn.n14) (fun _ _ h => h), h.cond.kp hk (ne_own hn.n24) (fun _ _ h => h), h.drop.kp hk (ne_own hn.n34) (fun _ _ h => h), hs, h.held.kp hk (h.held.ne_lt h.carr (by decide)) (fun _ _ h => h)⟩
end
set_option maxRecDepth 100000 in
set_option maxHeartbeats 4000000 in
theorem clone_own (a0 : Option Addr) (n0 c0 : Nat) (a1 : Option Addr) (n1 c1 : Nat) (a2 : Option Addr) (n2 c2 : Nat) (a3 : Option Addr) (n3 c3 : Nat) (a4 : Option Addr) (n4 c4 : Nat) (a5 : Option Addr) (n5 c5 : Nat) (x : Si) (w : World) (hq : SiOk w a0 n0 c0 a1 n1 c1 a2 n2 c2 a3 n3 c3 a4 n4 c4 a5 n5 c5 x) :
  Calls Try.prog 51 #[.agg (siC a0 n0 c0 a1 n1 c1 a2 n2 c2 a3 n3 c3 a4 n4 c4 a5 n5 c5 x.pct).toArray] w (ClRN x w) := by
 have H := Lib.hid hq
 clear hq
 go_enter Try.func51, Try.ntmps51
 go_wp2_with (first
  | ((with_reducible show OpW 1); refine wpList_box _ rfl 33 (.tmp 0) rfl (siC a0 n0 c0 a1 n1 c1 a2 n2 c2 a3 n3 c3 a4 n4 c4 a5 n5 c5 x.pct) rfl ?_; intro w1 a1 a2 a3; have HB1 := Lib.hid a2; have HS1 := Lib.hid a1; clear a1 a2 a3)
  | ((with_reducible show OpW 2); refine wpList_alloc _ rfl 33 rfl siZ siZero ?_; intro w2 a1 a2 a3; have HR2 := Lib.hid a1; have HB2 := Lib.hid (below_then HB1.out a2); have HS2 := Lib.hid (HS1.out.kept a2); clear a1 a2 a3))
 have HG : Hid (w.heap.size ≤ w1.heap.size) := Lib.hid HB1.out.size
 refine Text.wp_region_text (fun w' => w'.cell? ⟨w.heap.size, 0, none⟩ = some (.slice a0 n0 c0) ∧ w'.cell? ⟨w.heap.size, 1, none⟩ = some (.slice a1 n1 c1) ∧ w'.cell? ⟨w.heap.size, 2, none⟩ = some (.slice a2 n2 c2) ∧ w'.cell? ⟨w.heap.size, 3, none⟩ = some (.slice a3 n3 c3) ∧ w'.cell? ⟨w.heap.size, 4, none⟩ = some (.slice a4 n4 c4) ∧ w'.cell? ⟨w.heap.size, 5, none⟩ = some (.slice a5 n5 c5) ∧ w'.cell? ⟨w.heap.size, 6, none⟩ = some (.int .i64 x.pct)) [(0, 4), (3, 4), (6, 4), (9, 4), (12, 4), (15, 4), (18, 4), (1, 0), (4, 0), (7, 0), (10, 0), (13, 0), (16, 0), (19, 0), (2, 2), (5, 2), (8, 2), (11, 2), (14, 2), (17, 2), (20, 0), (21, 3)] (by kernel_rfl) (by kernel_rfl) (fun _ _ _ _ _ h => h) ((HS2.out.kept (Below.refl _ _).drew).s7) ?_
 iterate 7 (refine Text.purek rfl rfl (fun K hK => ⟨_, fun w' => by go_simp <;> rfl, ?_⟩); go_simp; refine hK _ ?_; clear hK K)
 iterate 7 (refine Text.heldk rfl rfl (fun K hK => ⟨_, fun w' hw' => by go_simp <;> rfl, ?_⟩); go_simp; refine hK _ ?_; clear hK K)
 refine Text.eff rfl rfl (fun K hK => ?_)
 go_simp
 refine (copies_any _ _ _ _ _ (H.out.sp.kept stay_sp HB2.out.drew)).mono ?_
 rintro e w3 ⟨b0, d0, rfl, o0, x3⟩
 have HX3 : Hid (Below w2.heap.size w2 w3) := Lib.hid (below_ofDrew x3)
 have HO0 : Hid (OT rSpT 6 61 w2.heap.size w3 (.slice b0 n0 d0) x.sp) := Lib.hid o0
 refine hK _ _ (HS2.out.kept HX3.out).s7 ?_
 clear hK K x3 o0
 refine Text.eff rfl rfl (fun K hK => ?_)
 go_simp
 refine (clone_str _ _ _ _ _ (H.out.need.kept stay_str (below_thenB HB2.out HB2.out.size HX3.out))).mono ?_
 rintro e w4 ⟨b1, d1, rfl, o1, x4⟩
 have HI1 : Hid (∀ q, (Value.slice b1 n1 d1).ownBlock = some q → w3.heap.size ≤ q ∧ q < w4.heap.size) := Lib.hid (fun q e => ⟨o1.own q e, by obtain ⟨_, r⟩ := o1.row; exact r.lt e⟩)
 have HZ1 := Lib.hid x4.size
 have HX4 : Hid (Below w2.heap.size w2 w4) := Lib.hid (below_thenB HX3.out HX3.out.size x4)
 have HO1 : Hid (OT rStr 1 9 w2.heap.size w4 (.slice b1 n1 d1) x.need) := Lib.hid (OT.of o1 stay_str x4 HX3.out.size)
 replace HO0 := Lib.hid (HO0.out.kept stay_spT x4)
 refine hK _ _ (HS2.out.kept HX4.out).s7 ?_
 clear hK K x4 o1
 refine Text.eff rfl rfl (fun K hK => ?_)
 go_simp
 refine (clone_str _ _ _ _ _ (H.out.cond.kept stay_str (below_thenB HB2.out HB2.out.size HX4.out))).mono ?_
 rintro e w5 ⟨b2, d2, rfl, o2, x5⟩
 have HI2 : Hid (∀ q, (Value.slice b2 n2 d2).ownBlock = some q → w4.heap.size ≤ q ∧ q < w5.heap.size) := Lib.hid (fun q e => ⟨o2.own q e, by obtain ⟨_, r⟩ := o2.row; exact r.lt e⟩)
 have HZ2 := Lib.hid x5.size
 have HX5 : Hid (Below w2.heap.size w2 w5) := Lib.hid (below_thenB HX4.out HX4.out.size x5)
 have HO2 : Hid (OT rStr 1 9 w2.heap.size w5 (.slice b2 n2 d2) x.cond) := Lib.hid (OT.of o2 stay_str x5 HX4.out.size)
 replace HO0 := Lib.hid (HO0.out.kept stay_spT x5)
 replace HO1 := Lib.hid (HO1.out.kept stay_str x5)
 refine hK _ _ (HS2.out.kept HX5.out).s7 ?_
 clear hK K x5 o2
 refine Text.eff rfl rfl (fun K hK => ?_)
 go_simp
 refine (clone_str _ _ _ _ _ (H.out.drop.kept stay_str (below_thenB HB2.out HB2.out.size HX5.out))).mono ?_
 rintro e w6 ⟨b3, d3, rfl, o3, x6⟩
 have HI3 : Hid (∀ q, (Value.slice b3 n3 d3).ownBlock = some q → w5.heap.size ≤ q ∧ q < w6.heap.size) := Lib.hid (fun q e => ⟨o3.own q e, by obtain ⟨_, r⟩ := o3.row; exact r.lt e⟩)
 have HZ3 := Lib.hid x6.size
 have HX6 : Hid (Below w2.heap.size w2 w6) := Lib.hid (below_thenB HX5.out HX5.out.size x6)
 have HO3 : Hid (OT rStr 1 9 w2.heap.size w6 (.slice b3 n3 d3) x.drop) := Lib.hid (OT.of o3 stay_str x6 HX5.out.size)
 replace HO0 := Lib.hid (HO0.out.kept stay_spT x6)
 replace HO1 := Lib.hid (HO1.out.kept stay_str x6)
 replace HO2 := Lib.hid (HO2.out.kept stay_str x6)
 refine hK _ _ (HS2.out.kept HX6.out).s7 ?_
 clear hK K x6 o3
 refine Text.eff rfl rfl (fun K hK => ?_)
 go_simp
 refine (clone_str _ _ _ _ _ (H.out.carr.kept stay_str (below_thenB HB2.out HB2.out.size HX6.out))).mono ?_
 rintro e w7 ⟨b4, d4, rfl, o4, x7⟩
 have HI4 : Hid (∀ q, (Value.slice b4 n4 d4).ownBlock = some q → w6.heap.size ≤ q ∧ q < w7.heap.size) := Lib.hid (fun q e => ⟨o4.own q e, by obtain ⟨_, r⟩ := o4.row; exact r.lt e⟩)
 have HZ4 := Lib.hid x7.size
 have HX7 : Hid (Below w2.heap.size w2 w7) := Lib.hid (below_thenB HX6.out HX6.out.size x7)
 have HO4 : Hid (OT rStr 1 9 w2.heap.size w7 (.slice b4 n4 d4) x.carr) := Lib.hid (OT.of o4 stay_str x7 HX6.out.size)
 replace HO0 := Lib.hid (HO0.out.kept stay_spT x7)
 replace HO1 := Lib.hid (HO1.out.kept stay_str x7)
 replace HO2 := Lib.hid (HO2.out.kept stay_str x7)
 replace HO3 := Lib.hid (HO3.out.kept stay_str x7)
 refine hK _ _ (HS2.out.kept HX7.out).s7 ?_
 clear hK K x7 o4
 refine Text.eff rfl rfl (fun K hK => ?_)
 go_simp
 refine (clone_pc _ _ _ _ _ (H.out.held.kept stay_pc (below_thenB HB2.out HB2.out.size HX7.out))).mono ?_
 rintro e w8 ⟨b5, d5, rfl, o5, x8⟩
 have HX8 : Hid (Below w2.heap.size w2 w8) := Lib.hid (below_thenB HX7.out HX7.out.size x8)
 have HO5 : Hid (OT rPc 2 39 w2.heap.size w8 (.slice b5 n5 d5) x.held) := Lib.hid (OT.of o5 stay_pc x8 HX7.out.size)
 replace HO0 := Lib.hid (HO0.out.kept stay_spT x8)
 replace HO1 := Lib.hid (HO1.out.kept stay_str x8)
 replace HO2 := Lib.hid (HO2.out.kept stay_str x8)
 replace HO3 := Lib.hid (HO3.out.kept stay_str x8)
 replace HO4 := Lib.hid (HO4.out.kept stay_str x8)
 refine hK _ _ (HS2.out.kept HX8.out).s7 ?_
 clear hK K x8 o5
 refine Text.heldk rfl rfl (fun K hK => ?_)
 refine ⟨_, fun w' hw' => exec_build (v := .agg (siC b0 n0 d0 b1 n1 d1 b2 n2 d2 b3 n3 d3 b4 n4 d4 b5 n5 d5 x.pct).toArray) rfl (ps := #[(0, .slice b0 n0 d0), (1, .slice b1 n1 d1), (2, .slice b2 n2 d2), (3, .slice b3 n3 d3), (4, .slice b4 n4 d4), (5, .slice b5 n5 d5), (6, .int .i64 x.pct)]) (by rw [List.map_toArray]; rfl) (bldSi () _ _ _ _ _ _ _ _ _ _ _ _ _ _ _ _ _ _ _ _), ?_⟩
 go_simp
 refine hK _ ?_
 clear hK K
 refine Text.last rfl rfl (fun K hK => ?_)
 refine wp_storev 33 (.tmp 2) (.tmp 23) rfl 7 (by kernel_rfl) w1.heap.size 0 _ siZ (siC b0 n0 d0 b1 n1 d1 b2 n2 d2 b3 n3 d3 b4 n4 d4 b5 n5 d5 x.pct) rfl rfl (HR2.out.kept HX8.out) rfl (one_si _ _ _ _ _ _ _ _ _ _ _ _ _ _ _ _ _ _ _) (by decide) ?_
 intro w9 y1 y2 y3
 have HT9 : Hid (BL w9 w1.heap.size 33 (siC b0 n0 d0 b1 n1 d1 b2 n2 d2 b3 n3 d3 b4 n4 d4 b5 n5 d5 x.pct)) := Lib.hid y1
 have HK9 := Lib.hid y2
 clear y1 y2 y3
 refine hK _ _ ?_
 clear hK K
 refine Text.done ?_
 go_wp2_with fail
 (try simp only [Exit.inBlock, Exit.then])
 have HB9 : Hid (Below w.heap.size w w9) := Lib.hid (((Kp.of_below (S := fun _ => False) (below_thenB HB2.out HB2.out.size HX8.out)).after HK9.out (fun i hi e => by have := HG.out; omega)).below (Nat.le_refl _) (fun _ h => h.elim))
 have hne : ∀ (b : Nat), w2.heap.size ≤ b → ¬ b = w1.heap.size := fun b h1 h2 => by have := HR2.out.lt; omega
 have hcl : ClO w.heap.size w9 b0 n0 d0 b1 n1 d1 b2 n2 d2 b3 n3 d3 b4 n4 d4 b5 n5 d5 x := by
  have hb := HB2.out.size
  exact ⟨(HO0.out.kp HK9.out (fun b e => hne b (HO0.out.own b e)) (fun _ _ h => h.kp HK9.out (fun i hi e => by subst e; exact ⟨_, _, HR2.out.kept HX8.out, by decide⟩))).base hb,
   (HO1.out.kp HK9.out (fun b e => hne b (HO1.out.own b e)) (fun _ _ h => h)).base hb, (HO2.out.kp HK9.out (fun b e => hne b (HO2.out.own b e)) (fun _ _ h => h)).base hb,
   (HO3.out.kp HK9.out (fun b e => hne b (HO3.out.own b e)) (fun _ _ h => h)).base hb, (HO4.out.kp HK9.out (fun b e => hne b (HO4.out.own b e)) (fun _ _ h => h)).base hb,
   (HO5.out.kp HK9.out (fun b e => hne b (HO5.out.own b e)) (fun _ _ h => h)).base hb⟩
 refine bodyPost_ret (results_at w9 Try.results51 (n := 7) (by kernel_rfl) (g := w1.heap.size) (o := 0) rfl (ms := siC b0 n0 d0 b1 n1 d1 b2 n2 d2 b3 n3 d3 b4 n4 d4 b5 n5 d5 x.pct) (BL.all HT9.out) rfl) rfl ⟨b0, n0, d0, b1, n1, d1, b2, n2, d2, b3, n3, d3, b4, n4, d4, b5, n5, d5, rfl, hcl, ⟨fun a a' e1 e2 => ?_, fun a a' e1 e2 => ?_, fun a a' e1 e2 => ?_, fun a a' e1 e2 => ?_, fun a a' e1 e2 => ?_⟩, HB9.out⟩
 ·
  have h1 := HI1.out a.block (by rw [e1]; rfl)
  have h2 := HI2.out a'.block (by rw [e2]; rfl)
  omega
 ·
  have h1 := HI2.out a.block (by rw [e1]; rfl)
  have h2 := HI3.out a'.block (by rw [e2]; rfl)
  omega
 ·
  have h1 := HI2.out a.block (by rw [e1]; rfl)
  have h2 := HI4.out a'.block (by rw [e2]; rfl)
  have := HZ3.out
  omega
 ·
  have h1 := HI1.out a.block (by rw [e1]; rfl)
  have h2 := HI4.out a'.block (by rw [e2]; rfl)
  have := HZ2.out
  have := HZ3.out
  omega
 ·
  have h1 := HI3.out a.block (by rw [e1]; rfl)
  have h2 := HI4.out a'.block (by rw [e2]; rfl)
  omega
end Go.Proofs.Ytboglaokdgnpaaa
