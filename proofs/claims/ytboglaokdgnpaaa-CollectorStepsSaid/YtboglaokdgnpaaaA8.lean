/- Several texts in one: Gen, Cq0, Cr. -/
import Derived.Test.YtboglaokdgnpaaaA6
import Derived.Test.YtboglaokdgnpaaaA2
import Derived.Test.YtboglaokdgnpaaaA7
import Derived.Test.YtboglaokdgnpaaaA1
/- Rows, lists of strings: what speaks of no chapter. -/
namespace Go.Proofs.Ytboglaokdgnpaaa
open Go Go.RowKit Gf Sha

def usC (x : List UInt8) : Value := .string (strB x)
theorem usC_inj {x y : List UInt8} (h : usC x = usC y) : x = y := by
 unfold usC at h
 injection h with h
 exact strB_inj h
section
variable {P : Program} {w : World} {o : Oper} {a : Act} {Q : Exit → Act → World → Prop} {K : Act → World → Prop}
theorem exec_loadv (t : TypeId) (x : Operand) (hop : o.op = .load t x) (n : Nat) (ht : Agg P t n = true) (g p : Nat) (ms : List Value) (hx : a.eval x = .pointer (some ⟨g, p, none⟩))
  (hm : At w g p ms) (hn : ms.length = n) : (execOp a.eval o).run P w = .ok (.value (.agg ms.toArray)) w := by
 unfold execOp
 simp only [hop, hx]
 simp [run_loadAt w ht hm hn, Result.andThen]
theorem wp_alloc (t : TypeId) (hop : o.op = .alloc t) (l : List Value) (hz : (P.info? t).map (·.zero) = some (some (.agg l.toArray)))
  (h : ∀ w', BL w' w.heap.size t l → Below w.heap.size w w' → w'.heap.size = w.heap.size + 1 → K (a.put o.dst (.pointer (some ⟨w.heap.size, 0, none⟩))) w') : o.wp P a w K Q := by
 cases hi : P.info? t with
 | none => simp [hi] at hz
 | some i =>
  have hz' : i.zero = some (.agg l.toArray) := by simpa [hi] using hz
  unfold Oper.wp execOp
  simp only [hop]
  simp [Instr.alloc, zeroValue, typeInfo, hi, hz', newVar, newRow, Value.cells, Result.andThen]
  exact h _ (BL.new w t l) ((Below.refl _ _).alloc (Nat.le_refl _) _) (by simp)
/-- A store of one cell into a block known whole. -/
theorem wpList_store1 (w : World) {ops : Array Oper} {rest : List Oper} (hg : o.guard = none) (t : TypeId) (x y : Operand) (hop : o.op = .store t x y) (hs : (sizeOf t).run P w = .ok 1 w) (g p : Nat) (te : TypeId) (l : List Value) (u : Value) (hx : a.eval x = .pointer (some ⟨g, p, none⟩)) (hy : a.eval y = u)
  (hb : BL w g te l) (hu : u.cells = #[u]) (h1 : u.oneCell' = true) (hp : p < l.length)
  (h : ∀ w', BL w' g te (l.set p u) → Kp (· = g) w w' → w'.heap.size = w.heap.size → wpList P ops Q rest (a.put o.dst undef) w') : wpList P ops Q (o :: rest) a w :=
 wpList_plain hg fun K hK => by
  obtain ⟨w', hr, hb', hk, hz⟩ := run_storeCells (P := P) [u] (by simpa using h1) p 1 0 l w rfl hb (by simp; omega)
  have e : l.take (p + 0) ++ [u].drop 0 ++ l.drop (p + [u].length) = l.set p u := by
   rw [List.set_eq_take_append_cons_drop, if_pos hp]
   simp
  rw [e] at hb'
  rw [List.drop_zero] at hr
  unfold Oper.wp execOp
  simp only [hop, hx, hy]
  simp [Instr.storeAt, Instr.sureAddr, storeVar, Sem.run_bind, hs, hu, hr, Result.andThen]
  exact hK _ _ (h w' hb' hk hz)
end

section
variable {w w' : World}
theorem BL.ty {g : Nat} {t t' : TypeId} {l l' : List Value} (h : BL w g t l) (h' : BL w g t' l') : t = t' := by
 have := h.symm.trans h'
 cases this; rfl
theorem RW.ty {te : TypeId} {n m : Nat} {v : Value} {l : List Value} (h : RW w te m v n l) {b : Nat} (hb : v.ownBlock = some b) : ∃ cs, BL w b te cs := by
 rcases h.2 with ⟨rfl, _⟩ | ⟨g, o, c, cs, rfl, hb', r⟩
 ·
  cases hb
 ·
  cases hb; exact ⟨cs, hb'⟩
end
section
variable {w : World} {o : Oper} {a : Act} {Q : Exit → Act → World → Prop} {K : Act → World → Prop}
theorem wp_bslice {P : Program} (t te : TypeId) (n : Nat) (parts : Array (Nat × Operand)) (hop : o.op = .buildSlice t n parts) (ps : Array (Nat × Value)) (hps : (parts.map fun (i, x) => (i, a.eval x)) = ps) (l : List Value)
  (hr : (Instr.buildSlice t n ps).run P w = .ok (.slice (some ⟨w.heap.size, 0, none⟩) n n) (w.alloc (.cells l.toArray te)))
  (h : ∀ w', BL w' w.heap.size te l → Below w.heap.size w w' → w'.heap.size = w.heap.size + 1 → K (a.put o.dst (.slice (some ⟨w.heap.size, 0, none⟩) n n)) w') : o.wp P a w K Q := by
 unfold Oper.wp execOp
 simp only [hop, hps]
 simp [hr, Result.andThen]
 exact h _ (BL.new w te l) ((Below.refl _ _).alloc (Nat.le_refl _) _) (by simp)
end
section
variable {P : Program} (w : World) {o : Oper} {a : Act} {Q : Exit → Act → World → Prop} {K : Act → World → Prop}
theorem wp_appRW (sl x : Operand) (t te : TypeId) (s : Nat) (i : TypeInfo) (z : Value) (hop : o.op = .call { callee := .builtin .append, args := #[sl, x], argTypes := #[t, t] })
  (ht : P.underlying t = some (.slice te)) (hi : P.info? te = some i) (hz : i.zero = some z) (hs : i.size = s) (hzs : z.cells.size = s) (v : Value) (n : Nat) (l : List Value) (hv : a.eval sl = v) (h : RW w te s v n l)
  (g : Nat) (xs : List Value) (hx : a.eval x = .slice (some ⟨g, 0, none⟩) 1 1) (hbl : BL w g te xs) (hxl : xs.length = s) (h1 : ∀ u ∈ xs, u.oneCell' = true) (hb : (n + 1) * i.bytes ≤ 140737488355328) (hn : n + 1 ≤ 140737488355328)
  (hK : ∀ v' w', AppR w te s v n 1 l xs v' w' → K (a.put o.dst v') w') : o.wp P a w K Q := by
 have hrow : RW w te s (.slice (some ⟨g, 0, none⟩) 1 1) 1 xs := RW.of_blk hbl (by omega) (by decide)
 have hsrc : Src P s t (.slice (some ⟨g, 0, none⟩) 1 1) 1 xs w := ⟨.inl ⟨_, ht⟩, fun _ => rfl, hrow.firstCells, RW.firstCells hrow.drew, by omega, h1⟩
 obtain ⟨v', w', hr, h2⟩ := run_appRW (rt := o.type) ht hi hz hs hzs h hsrc (by decide) hb hn
 unfold Oper.wp execOp
 simp only [hop, resolve, invoke, builtin, Sem.run_bind, Sem.run_pure, Result.andThen_ok, List.map_toArray, List.map_cons, List.map_nil, hv, hx, hr]
 exact hK _ _ h2
end
/-- Bytes of the call's own. -/
def OwnB (w : World) (base : Nat) (v : Value) (n : Nat) (x : List UInt8) : Prop := RW w 5 1 v n (x.map B) ∧ ∀ b, v.ownBlock = some b → base ≤ b
theorem OwnB.kept {w w' : World} {base n : Nat} {v : Value} {x : List UInt8} (h : OwnB w base v n x) (hb : Below w.heap.size w w') : OwnB w' base v n x := ⟨h.1.kept hb, h.2⟩
theorem BS.of_rw {w : World} {n : Nat} {A : Option Addr} {c : Nat} {x : List UInt8} (h : RW w 5 1 (.slice A n c) n (x.map B)) (hn : n ≤ lim) : BS w A n c x := by
 have hl : x.length = n := by have := h.1; simpa using this
 obtain ⟨A', c', e, hc⟩ := h.form
 cases e
 refine ⟨hl, hc, hn, fun k hk => ?_⟩
 obtain ⟨g, o, c', e, _, hat⟩ := h.at_ (by omega)
 cases e
 refine ⟨g, o, rfl, ?_⟩
 have := hat k _ (by rw [List.getElem?_map, List.getElem?_eq_getElem (by omega)]; rfl)
 show w.cell? ⟨g, o + k, none⟩ = some (B (gB x k))
 rw [gB_eq (by omega)]
 exact this
theorem TS.of_rw {w : World} {n : Nat} {A : Option Addr} {c : Nat} {m : List (List UInt8)} (h : RW w 9 1 (.slice A n c) n (m.map usC)) (hn : n * 16 ≤ lim) : TS w A n c m := by
 have hl : m.length = n := by have := h.1; simpa using this
 obtain ⟨A', c', e, hc⟩ := h.form
 cases e
 refine ⟨hl, hc, hn, fun k hk => ?_⟩
 obtain ⟨g, o, c', e, _, hat⟩ := h.at_ (by omega)
 cases e
 refine ⟨g, o, rfl, ?_⟩
 have := hat k _ (by rw [List.getElem?_map, List.getElem?_eq_getElem (by omega)]; rfl)
 show w.cell? ⟨g, o + k, none⟩ = some (.string (strB (gR m k)))
 rw [gR_eq (by omega)]
 exact this
/-- v holds the list L; whatever turns in v's own block, the parts read on. -/
def OLn {α : Type} (R : Rdg α) (s : Nat) (te : TypeId) (base : Nat) (w : World) (v : Value) (L : List α) : Prop :=
 ∃ css : List (List Value), css.length = L.length ∧ (∀ cs ∈ css, cs.length = s) ∧ (∀ w', Kp (fun b => v.ownBlock = some b) w w' → ∀ k (h : k < L.length) (h' : k < css.length), R w' css[k] L[k]) ∧ RW w te s v L.length css.flatten ∧ ∀ b, v.ownBlock = some b → base ≤ b
section
variable {α : Type} {R : Rdg α} {s base : Nat} {te : TypeId} {w w' : World} {v v' : Value} {L : List α}
theorem Kp.before {S : Nat → Prop} {w w1 w2 : World} (h : Below w.heap.size w w1) (k : Kp S w1 w2) : Kp S w w2 := (Kp.of_below h).trans k
theorem OLn.kept (h : OLn R s te base w v L) (hb : Below w.heap.size w w') : OLn R s te base w' v L :=
 let ⟨css, h1, h2, h3, h4, h5⟩ := h; ⟨css, h1, h2, fun w'' hk => h3 w'' (Kp.before hb hk), h4.kept hb, h5⟩
theorem OLn.push {n : Nat} {css : List (List Value)} (hl : css.length = L.length) (h2 : ∀ cs ∈ css, cs.length = s) (h3 : ∀ w', Kp (fun b => v.ownBlock = some b) w w' → ∀ k (h : k < L.length) (h' : k < css.length), R w' css[k] L[k]) (h5 : ∀ b, v.ownBlock = some b → base ≤ b) (hn : L.length = n)
  {x : α} {xs : List Value} (hxs : xs.length = s) (hx : ∀ w', Kp (fun b => v.ownBlock = some b) w w' → R w' xs x) (hw : base ≤ w.heap.size) (ap : AppR w te s v n 1 css.flatten xs v' w') : OLn R s te base w' v' (L ++ [x]) := by
 have hk : ∀ w'', Kp (fun b => v'.ownBlock = some b) w' w'' → Kp (fun b => v.ownBlock = some b) w w'' := fun w'' h => ap.kp.after h (fun i hi e => (ap.own i e).elim id (fun h => absurd h (by omega)))
 refine ⟨css ++ [xs], by simp [hl], fun cs hcs => ?_, fun w'' hk'' k hk1 hk2 => ?_, ?_, fun b hb => (ap.own b hb).elim (h5 b) (fun h => Nat.le_trans hw h)⟩
 ·
  rcases List.mem_append.1 hcs with h | h
  ·
   exact h2 cs h
  ·
   rw [List.mem_singleton.1 h]; exact hxs
 ·
  by_cases hlt : k < L.length
  ·
   rw [List.getElem_append_left (by omega), List.getElem_append_left hlt]; exact h3 w'' (hk w'' hk'') k hlt (by omega)
  ·
   have e : k = L.length := by simp at hk1; omega
   subst e
   rw [List.getElem_append_right (by omega), List.getElem_append_right (by omega)]
   simp only [hl, Nat.sub_self, List.getElem_cons_zero]
   exact hx w'' (hk w'' hk'')
 ·
  have := ap.row
  rw [List.flatten_append, List.flatten_cons, List.flatten_nil, List.append_nil, List.length_append, hn]
  exact this
theorem OLn.ls {b : Nat} (h : OLn R s te base w v L) (hl : L.length * b ≤ lim) : ∃ A c, v = .slice A L.length c ∧ LS R s b w A L.length c L := by
 obtain ⟨css, h1, h2, h3, h4, h5⟩ := h
 obtain ⟨A, c, rfl, hc⟩ := h4.form
 refine ⟨A, c, rfl, rfl, hc, hl, fun k hk => ?_⟩
 obtain ⟨g, o, c', e, _, hat⟩ := h4.at_ (by omega)
 cases e
 have hk' : k < css.length := by omega
 exact ⟨g, o, css[k], rfl, at_flatten h2 hat hk', h3 w (Kp.refl _ _) k hk hk'⟩
end

/-- Block g holds the first of n elements, zeros behind them; whatever turns in it, the parts read on. -/
def BLn {α : Type} (R : Rdg α) (s : Nat) (te : TypeId) (z : List Value) (n : Nat) (w : World) (g : Nat) (L : List α) : Prop :=
 ∃ css : List (List Value), css.length = L.length ∧ (∀ cs ∈ css, cs.length = s) ∧ (∀ w', Kp (· = g) w w' → ∀ k (h : k < L.length) (h' : k < css.length), R w' css[k] L[k]) ∧ L.length ≤ n ∧ BL w g te (css.flatten ++ (List.replicate (n - L.length) ()).flatMap fun _ => z)
section
variable {α : Type} {R : Rdg α} {s n g : Nat} {te : TypeId} {z : List Value} {w w' : World} {L : List α}
theorem BLn.nil (R : Rdg α) (s : Nat) (h : BL w g te ((List.replicate n ()).flatMap fun _ => z)) : BLn R s te z n w g [] :=
 ⟨[], rfl, (fun _ h => by cases h), (fun _ _ k h => absurd h (by simp)), Nat.zero_le _, by simpa using h⟩
theorem BLn.kept (h : BLn R s te z n w g L) (hb : Below w.heap.size w w') : BLn R s te z n w' g L :=
 let ⟨css, h1, h2, h3, h4, h5⟩ := h; ⟨css, h1, h2, fun w'' hk => h3 w'' (Kp.before hb hk), h4, h5.kept hb⟩
theorem BLn.blk (h : BLn R s te z n w g L) (hz : z.length = s) : ∃ l, BL w g te l ∧ l.length = n * s := by
 obtain ⟨css, h1, h2, h3, h4, h5⟩ := h
 refine ⟨_, h5, ?_⟩
 rw [List.length_append, flatten_len h2, flat_length (s := s) (fun _ => hz), List.length_replicate, h1, ← Nat.add_mul]
 congr 1; omega
/-- One more laid. -/
theorem BLn.put {x : α} {xs : List Value} (h : BLn R s te z n w g L) (hz : z.length = s) (hlt : L.length < n) (hxs : xs.length = s) (hx : ∀ w', Kp (· = g) w w' → R w' xs x) {l : List Value} (hl : BL w g te l)
  (hw : BL w' g te (splice l (L.length * s) xs)) (hk : Kp (· = g) w w') : BLn R s te z n w' g (L ++ [x]) := by
 obtain ⟨css, h1, h2, h3, h4, h5⟩ := h
 have e : l = css.flatten ++ (List.replicate (n - L.length) ()).flatMap fun _ => z := by
  have := hl.symm.trans h5
  injection this with this
  injection this with this
  have := congrArg Array.toList this
  simpa using this
 subst e
 obtain ⟨j, hj⟩ : ∃ j, n - L.length = j + 1 := ⟨n - L.length - 1, by omega⟩
 refine ⟨css ++ [xs], by simp [h1], fun cs hcs => ?_, fun w'' hk'' k hk1 hk2 => ?_, by simp; omega, ?_⟩
 ·
  rcases List.mem_append.1 hcs with h | h
  ·
   exact h2 cs h
  ·
   rw [List.mem_singleton.1 h]; exact hxs
 ·
  by_cases hlt' : k < L.length
  ·
   rw [List.getElem_append_left (by omega), List.getElem_append_left hlt']; exact h3 w'' (hk.trans hk'') k hlt' (by omega)
  ·
   have e : k = L.length := by simp at hk1; omega
   subst e
   rw [List.getElem_append_right (by omega), List.getElem_append_right (by omega)]
   simp only [h1, Nat.sub_self, List.getElem_cons_zero]
   exact hx w'' (hk.trans hk'')
 ·
  rw [hj, List.replicate_succ, List.flatMap_cons, ← List.append_assoc, splice_mid _ _ _ _ _ (by rw [flatten_len h2, h1]) (by rw [hxs, hz])] at hw
  rw [List.flatten_append, List.flatten_cons, List.flatten_nil, List.append_nil, List.length_append, List.length_singleton, show n - (L.length + 1) = j by omega]
  exact hw
theorem BLn.ls {b : Nat} (h : BLn R s te z n w g L) (hl : L.length = n) (hb : n * b ≤ lim) : LS R s b w (some ⟨g, 0, none⟩) n n L := by
 obtain ⟨css, h1, h2, h3, h4, h5⟩ := h
 rw [hl, Nat.sub_self, List.replicate_zero, List.flatMap_nil, List.append_nil] at h5
 refine ⟨hl, Nat.le_refl _, hb, fun k hk => ?_⟩
 have hk' : k < css.length := by omega
 refine ⟨g, 0, css[k], rfl, at_flatten h2 h5.all hk', h3 w (Kp.refl _ _) k hk hk'⟩
end

theorem TS.pre {w : World} {A : Option Addr} {n c : Nat} {m : List (List UInt8)} (h : TS w A n c m) {k : Nat} (hk : k ≤ n) : TS w A k c (m.take k) := by
 refine ⟨by rw [List.length_take, h.1]; omega, by have := h.2.1; omega, by have := h.2.2.1; omega, fun j hj => ?_⟩
 have h1 := h.2.2.2 j (by omega)
 have h2 : gR (m.take k) j = gR m j := by
  rw [gR_eq (by rw [List.length_take, h.1]; omega), gR_eq (by rw [h.1]; omega), List.getElem_take]
 show ∃ g o, A = some ⟨g, o, none⟩ ∧ w.cell? ⟨g, o + j, none⟩ = some (.string (strB (gR (m.take k) j)))
 rw [h2]
 exact h1
theorem TS.form {w : World} {A : Option Addr} {n c : Nat} {m : List (List UInt8)} (h : TS w A n c m) (hn : 0 < n) : ∃ g o, A = some ⟨g, o, none⟩ := by
 obtain ⟨g, o, e, _⟩ := h.2.2.2 0 hn
 exact ⟨g, o, e⟩
end Go.Proofs.Ytboglaokdgnpaaa
/- Garbage collection, plainly: refs, stripes, situations, steps, and what the definition says of them. No program in sight. -/
namespace Go.Proofs.Ytboglaokdgnpaaa
open Go Gf

/-- A ref: its name, its generation, its size. -/
abbrev Rf := List UInt8 × Int × Int
structure Sp where
 id : List UInt8
 v : Int
 b : Int
 d : Int
 t : Int
 refs : List Rf
/-- A piece: its stripe, its index. -/
abbrev Pc := List UInt8 × Int
structure Si where
 sp : List Sp
 need : List (List UInt8)
 cond : List (List UInt8)
 drop : List (List UInt8)
 carr : List (List UInt8)
 held : List Pc
 pct : Int
structure Stp where
 kind : Int
 sts : List (List UInt8)
 pc : Pc
 refs : List Rf

def hasB (m : List (List UInt8)) (s : List UInt8) : Bool := m.any fun x => x == s
section
variable {α : Type} {l : List α} {p : α → Bool} {k : Nat} {x : α}
theorem take_next (h : l[k]? = some x) : l.take (k + 1) = l.take k ++ [x] := by rw [List.take_add_one, h]; rfl
theorem any_step (h : l[k]? = some x) (h1 : (l.take k).any p = false) (h2 : p x = false) : (l.take (k + 1)).any p = false := by
 rw [take_next h, List.any_append, h1]; simp [h2]
theorem any_hit (h : l[k]? = some x) (h2 : p x = true) : l.any p = true := List.any_eq_true.2 ⟨x, List.mem_of_getElem? h, h2⟩
theorem all_step (h : l[k]? = some x) (h1 : (l.take k).all p = true) (h2 : p x = true) : (l.take (k + 1)).all p = true := by
 rw [take_next h, List.all_append, h1]; simp [h2]
theorem all_miss (h : l[k]? = some x) (h2 : p x = false) : l.all p = false := List.all_eq_false.2 ⟨x, List.mem_of_getElem? h, by simp [h2]⟩
theorem filt_step (h : l[k]? = some x) : (l.take (k + 1)).filter p = (l.take k).filter p ++ (if p x then [x] else []) := by
 rw [take_next h, List.filter_append]
 congr 1
 by_cases hp : p x = true
 ·
  simp [hp]
 ·
  simp [hp]
theorem take_end (h : l.length = k) : l.take k = l := by rw [← h, List.take_length]
end
def liveB (x : Si) (id : List UInt8) : Bool := !hasB x.cond id && !hasB x.drop id
def inB (s : Sp) (n : List UInt8) : Bool := s.refs.any fun r => r.1 == n
def coverB (x : Si) (n : List UInt8) : Bool := x.sp.any fun s => liveB x s.id && inB s n
def uncov (x : Si) : List (List UInt8) := x.need.filter fun n => !coverB x n
def wanted (x : Si) (s : Sp) : List Rf := s.refs.filter fun r => hasB x.need r.1
def sizes (l : List Rf) : Int := l.foldl (fun n r => n + r.2.2) 0
def unneedB (x : Si) (s : Sp) : Bool := liveB x s.id && (wanted x s).isEmpty
def sparseB (x : Si) (s : Sp) : Bool := liveB x s.id && (!(wanted x s).isEmpty && decide (100 * sizes (wanted x s) < x.pct * sizes s.refs))
end Go.Proofs.Ytboglaokdgnpaaa
/- How refs, stripes, pieces, situations and steps lie in memory; arguments of these types opened. -/
namespace Go.Proofs.Ytboglaokdgnpaaa
open Go Go.ChangeShapes Go.WideShapes Go.ChangeAt Go.RowKit Gf Sha

/-- An int's range. -/
def wfI (z : Int) : Prop := (Lit.int .i64 z).wf = true
def okRf (r : Rf) : Prop := r.1.length ≤ reachBytes ∧ wfI r.2.1 ∧ wfI r.2.2
def okPc (p : Pc) : Prop := p.1.length ≤ reachBytes ∧ wfI p.2
def rfC (r : Rf) : List Value := [.string (strB r.1), .int .i64 r.2.1, .int .i64 r.2.2]
def pcC (p : Pc) : List Value := [.string (strB p.1), .int .i64 p.2]
def rRf : Rdg Rf := fun _ cs r => cs = rfC r ∧ okRf r
def rPc : Rdg Pc := fun _ cs p => cs = pcC p ∧ okPc p
def rSp : Rdg Sp := fun w cs s => ∃ A n c, cs = [.string (strB s.id), .int .i64 s.v, .int .i64 s.b, .int .i64 s.d, .int .i64 s.t, .slice A n c] ∧ LS rRf 3 32 w A n c s.refs ∧ s.id.length ≤ reachBytes ∧ wfI s.v ∧ wfI s.b ∧ wfI s.d ∧ wfI s.t
abbrev siC (a0 : Option Addr) (n0 c0 : Nat) (a1 : Option Addr) (n1 c1 : Nat) (a2 : Option Addr) (n2 c2 : Nat) (a3 : Option Addr) (n3 c3 : Nat) (a4 : Option Addr) (n4 c4 : Nat) (a5 : Option Addr) (n5 c5 : Nat) (p : Int) : List Value :=
 [.slice a0 n0 c0, .slice a1 n1 c1, .slice a2 n2 c2, .slice a3 n3 c3, .slice a4 n4 c4, .slice a5 n5 c5, .int .i64 p]
structure SiOk (w : World) (a0 : Option Addr) (n0 c0 : Nat) (a1 : Option Addr) (n1 c1 : Nat) (a2 : Option Addr) (n2 c2 : Nat) (a3 : Option Addr) (n3 c3 : Nat) (a4 : Option Addr) (n4 c4 : Nat) (a5 : Option Addr) (n5 c5 : Nat) (x : Si) : Prop where
 sp : LS rSp 6 72 w a0 n0 c0 x.sp
 need : LS rStr 1 16 w a1 n1 c1 x.need
 cond : LS rStr 1 16 w a2 n2 c2 x.cond
 drop : LS rStr 1 16 w a3 n3 c3 x.drop
 carr : LS rStr 1 16 w a4 n4 c4 x.carr
 held : LS rPc 2 24 w a5 n5 c5 x.held
 pct : wfI x.pct
def rSi : Rdg Si := fun w cs x => ∃ a0 n0 c0 a1 n1 c1 a2 n2 c2 a3 n3 c3 a4 n4 c4 a5 n5 c5, cs = siC a0 n0 c0 a1 n1 c1 a2 n2 c2 a3 n3 c3 a4 n4 c4 a5 n5 c5 x.pct ∧ SiOk w a0 n0 c0 a1 n1 c1 a2 n2 c2 a3 n3 c3 a4 n4 c4 a5 n5 c5 x
def rStp : Rdg Stp := fun w cs x => ∃ A0 n0 c0 A1 n1 c1, cs = [.int .i64 x.kind, .slice A0 n0 c0, .string (strB x.pc.1), .int .i64 x.pc.2, .slice A1 n1 c1] ∧ LS rStr 1 16 w A0 n0 c0 x.sts ∧ LS rRf 3 32 w A1 n1 c1 x.refs ∧ wfI x.kind ∧ okPc x.pc
theorem stay_rf : Stay rRf := fun _ _ _ _ h _ => h
theorem stay_pc : Stay rPc := fun _ _ _ _ h _ => h
theorem stay_sp : Stay rSp := fun _ _ _ _ ⟨A, n, c, e, h, r⟩ hb => ⟨A, n, c, e, h.kept stay_rf hb, r⟩
theorem SiOk.kept {w w' : World} {a0 a1 a2 a3 a4 a5 : Option Addr} {n0 c0 n1 c1 n2 c2 n3 c3 n4 c4 n5 c5 : Nat} {x : Si} (h : SiOk w a0 n0 c0 a1 n1 c1 a2 n2 c2 a3 n3 c3 a4 n4 c4 a5 n5 c5 x) (hb : Below w.heap.size w w') : SiOk w' a0 n0 c0 a1 n1 c1 a2 n2 c2 a3 n3 c3 a4 n4 c4 a5 n5 c5 x :=
 ⟨h.sp.kept stay_sp hb, h.need.kept stay_str hb, h.cond.kept stay_str hb, h.drop.kept stay_str hb, h.carr.kept stay_str hb, h.held.kept stay_pc hb, h.pct⟩
theorem SiOk.drew {w : World} {a0 a1 a2 a3 a4 a5 : Option Addr} {n0 c0 n1 c1 n2 c2 n3 c3 n4 c4 n5 c5 : Nat} {x : Si} (h : SiOk w a0 n0 c0 a1 n1 c1 a2 n2 c2 a3 n3 c3 a4 n4 c4 a5 n5 c5 x) : SiOk w.drew a0 n0 c0 a1 n1 c1 a2 n2 c2 a3 n3 c3 a4 n4 c4 a5 n5 c5 x := h.kept (Below.refl _ _).drew
theorem stay_stp : Stay rStp := fun _ _ _ _ ⟨A0, n0, c0, A1, n1, c1, e, h0, h1, r⟩ hb => ⟨A0, n0, c0, A1, n1, c1, e, h0.kept stay_str hb, h1.kept stay_rf hb, r⟩
abbrev spC (s : Sp) (A : Option Addr) (n c : Nat) : List Value := [.string (strB s.id), .int .i64 s.v, .int .i64 s.b, .int .i64 s.d, .int .i64 s.t, .slice A n c]
abbrev rfL (r : Rf) : List Value := [.string (strB r.1), .int .i64 r.2.1, .int .i64 r.2.2]
abbrev pcL (p : Pc) : List Value := [.string (strB p.1), .int .i64 p.2]
def rfZ : List Value := [.string (strB []), .int .i64 0, .int .i64 0]
def pcZ : List Value := [.string (strB []), .int .i64 0]
def spZ : List Value := [.string (strB []), .int .i64 0, .int .i64 0, .int .i64 0, .int .i64 0, .slice none 0 0]
theorem rfZero : (Try.prog.info? 73).map (·.zero) = some (some (.agg rfZ.toArray)) := by kernel_rfl
theorem pcZero : (Try.prog.info? 39).map (·.zero) = some (some (.agg pcZ.toArray)) := by kernel_rfl
theorem spZero : (Try.prog.info? 61).map (·.zero) = some (some (.agg spZ.toArray)) := by kernel_rfl
theorem infoRf : (Try.prog.info? 73).map (fun i => (i.zero, i.size, i.bytes)) = some (some (.agg rfZ.toArray), 3, 32) := by kernel_rfl
theorem infoPc : (Try.prog.info? 39).map (fun i => (i.zero, i.size, i.bytes)) = some (some (.agg pcZ.toArray), 2, 24) := by kernel_rfl
theorem infoSp : (Try.prog.info? 61).map (fun i => (i.zero, i.size, i.bytes)) = some (some (.agg spZ.toArray), 6, 72) := by kernel_rfl
theorem one_rf (r : Rf) : ∀ v ∈ rfL r, v.oneCell' = true := fun v hv => by
 simp only [List.mem_cons, List.not_mem_nil, or_false] at hv
 rcases hv with rfl | rfl | rfl <;> rfl
theorem one_pc (r : Pc) : ∀ v ∈ pcL r, v.oneCell' = true := fun v hv => by
 simp only [List.mem_cons, List.not_mem_nil, or_false] at hv
 rcases hv with rfl | rfl <;> rfl
theorem one_sp (s : Sp) (A : Option Addr) (n c : Nat) : ∀ v ∈ spC s A n c, v.oneCell' = true := fun v hv => by
 simp only [List.mem_cons, List.not_mem_nil, or_false] at hv
 rcases hv with rfl | rfl | rfl | rfl | rfl | rfl <;> rfl
theorem bslRf (r : Rf) (w : World) : (Instr.buildSlice 40 1 #[(0, .agg (rfL r).toArray)]).run Try.prog w = .ok (.slice (some ⟨w.heap.size, 0, none⟩) 1 1) (w.alloc (.cells (rfL r).toArray 73)) := by kernel_rfl
theorem one_val (vs : List Value) (h : vs.all (fun v => v.oneCell') = true) : ∀ v ∈ vs, v.oneCell' = true := fun v hv => by
 rw [List.all_eq_true] at h; exact h v hv
end Go.Proofs.Ytboglaokdgnpaaa
