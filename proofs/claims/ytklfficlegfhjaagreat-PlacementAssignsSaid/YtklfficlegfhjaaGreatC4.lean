/- Several texts in one: Ari, Ari2, G7, G8. -/
import Derived.Test.YtklfficlegfhjaaGreatC1
import Derived.Test.YtklfficlegfhjaaGreatC3
import Derived.Lib.Hide
import Derived.LoopTactic
import Derived.Deep.QuietTactic
import Derived.BigQuiet
import Derived.OwnWalk
import Derived.IntWalk
import Derived.Deep.LoopGhost
import Derived.Maps.RangeRun
import Derived.Laws.StructEq
/- Operations on unsigned 64-bit numbers that are casts of naturals, as laws at the operation. Proved for any program. -/
namespace Go.Proofs.YtklfficlegfhjaaGreat
open Go Go.RowKit Gf

section
variable {P : Program} (w : World) {ops : Array Oper} {rest : List Oper} {o : Oper} {a : Act} {Q : Exit → Act → World → Prop}
end
end Go.Proofs.YtklfficlegfhjaaGreat
/- More operations on numbers that are casts of naturals; a byte of a string. Proved for any program. -/
namespace Go.Proofs.YtklfficlegfhjaaGreat
open Go Go.RowKit Gf

section
variable {P : Program} (w : World) {ops : Array Oper} {rest : List Oper} {o : Oper} {a : Act} {Q : Exit → Act → World → Prop}
end
end Go.Proofs.YtklfficlegfhjaaGreat
/- General laws out of texts of chapter 49 (printed by bin/mk47.py). -/
namespace Go.Proofs.YtklfficlegfhjaaGreat
open Go Go.RowKit Go.ChangeMaps Gf Sha

section
variable {P : Program} (w : World) {ops : Array Oper} {rest : List Oper} {o : Oper} {a : Act} {Q : Exit → Act → World → Prop}
theorem wpList_want (hw : Region.wanted o (yielded ops a.tmps) = true)
  (h : ∀ K : Act → World → Prop, (∀ a w, wpList P ops Q rest a w → K a w) → o.wp P a w K Q) : wpList P ops Q (o :: rest) a w :=
 wpList_step fun K hK => by rw [if_pos hw]; exact h K hK
/-- A guarded load of many cells whose guard holds. -/
theorem wpList_loadvg (hw : Region.wanted o (yielded ops a.tmps) = true) (t : TypeId) (x : Operand) (hop : o.op = .load t x) (n : Nat) (ht : Agg P t n = true) (g p : Nat) (ms : List Value) (hx : a.eval x = .pointer (some ⟨g, p, none⟩))
  (hm : At w g p ms) (hn : ms.length = n) (h : wpList P ops Q rest (a.put o.dst (.agg ms.toArray)) w) : wpList P ops Q (o :: rest) a w :=
 wpList_want w hw fun K hK => by
  unfold Oper.wp execOp
  simp only [hop, hx]
  simp [run_loadAt w ht hm hn, Result.andThen]
  exact hK _ _ h
/-- A variable of one cell. -/
theorem wpList_alloc1 (hg : o.guard = none) (t : TypeId) (hop : o.op = .alloc t) (z : Value) (hz : (P.info? t).map (·.zero) = some (some z)) (hc : z.cells = #[z])
  (h : ∀ w', BL w' w.heap.size t [z] → Below w.heap.size w w' → w'.heap.size = w.heap.size + 1 → wpList P ops Q rest (a.put o.dst (.pointer (some ⟨w.heap.size, 0, none⟩))) w') : wpList P ops Q (o :: rest) a w :=
 wpList_plain hg fun K hK => by
  cases hi : P.info? t with
  | none => simp [hi] at hz
  | some i =>
   have hz' : i.zero = some z := by simpa [hi] using hz
   unfold Oper.wp execOp
   simp only [hop]
   simp [Instr.alloc, zeroValue, typeInfo, hi, hz', newVar, newRow, hc, Result.andThen]
   exact hK _ _ (h _ (BL.new w t [z]) ((Below.refl _ _).alloc (Nat.le_refl _) _) (by simp))
/-- A variable of one cell that holds a value. -/
theorem wpList_box1 (hg : o.guard = none) (t : TypeId) (x : Operand) (hop : o.op = .box t x) (v : Value) (hx : a.eval x = v) (hc : v.cells = #[v])
  (h : ∀ w', BL w' w.heap.size t [v] → Below w.heap.size w w' → w'.heap.size = w.heap.size + 1 → wpList P ops Q rest (a.put o.dst (.pointer (some ⟨w.heap.size, 0, none⟩))) w') : wpList P ops Q (o :: rest) a w :=
 wpList_plain hg fun K hK => by
  unfold Oper.wp execOp
  simp only [hop, hx]
  simp [Instr.box, newVar, newRow, hc, Result.andThen]
  exact hK _ _ (h _ (BL.new w t [v]) ((Below.refl _ _).alloc (Nat.le_refl _) _) (by simp))
theorem wpList_bsliceg (hw : Region.wanted o (yielded ops a.tmps) = true) (t te : TypeId) (n : Nat) (parts : Array (Nat × Operand)) (hop : o.op = .buildSlice t n parts) (ps : Array (Nat × Value)) (hps : (parts.map fun (i, x) => (i, a.eval x)) = ps) (l : List Value)
  (hr : (Instr.buildSlice t n ps).run P w = .ok (.slice (some ⟨w.heap.size, 0, none⟩) n n) (w.alloc (.cells l.toArray te)))
  (h : ∀ w', BL w' w.heap.size te l → Below w.heap.size w w' → w'.heap.size = w.heap.size + 1 → wpList P ops Q rest (a.put o.dst (.slice (some ⟨w.heap.size, 0, none⟩) n n)) w') : wpList P ops Q (o :: rest) a w :=
 wpList_want w hw fun K hK => by
  unfold Oper.wp execOp
  simp only [hop, hps]
  simp [hr, Result.andThen]
  exact hK _ _ (h _ (BL.new w te l) ((Below.refl _ _).alloc (Nat.le_refl _) _) (by simp))
theorem wpList_buildg (hw : Region.wanted o (yielded ops a.tmps) = true) (t : TypeId) (parts : Array (Nat × Operand)) (hop : o.op = .build t parts) (ps : Array (Nat × Value)) (hps : (parts.map fun (i, x) => (i, a.eval x)) = ps) (v : Value) (hr : (Instr.build t ps).run P w = .ok v w)
  (h : wpList P ops Q rest (a.put o.dst v) w) : wpList P ops Q (o :: rest) a w :=
 wpList_want w hw fun K hK => by
  unfold Oper.wp execOp
  simp only [hop, hps]
  simp [hr, Result.andThen]
  exact hK _ _ h
end
theorem Kp.bl {S : Nat → Prop} {w w' : World} {g : Nat} {t : TypeId} {l : List Value} (h : Kp S w w') (hb : BL w g t l) (hn : ¬ S g) : BL w' g t l := (h.block g hb.lt hn).trans hb
theorem sz1 (t : TypeId) (hz : (Tryz.prog.info? t).map (·.size) = some 1) (w : World) : (sizeOf t).run Tryz.prog w = .ok 1 w := by
 cases hi : Tryz.prog.info? t with
 | none => simp [hi] at hz
 | some i =>
  have hz' : i.size = 1 := by simpa [hi] using hz
  simp [sizeOf, typeInfo, hi, hz']
theorem LS.kpn {α : Type} {R : Rdg α} {s b n c : Nat} {w w' : World} {A : Option Addr} {L : List α} {S : Nat → Prop} (h : LS R s b w A n c L) (hR : ∀ cs x, R w cs x → R w' cs x) (hk : Kp S w w') (hn : ∀ a, A = some a → ¬ S a.block) : LS R s b w' A n c L :=
 ⟨h.1, h.2.1, h.2.2.1, fun k hk' => let ⟨g, o, cs, e, h1, h2⟩ := h.2.2.2 k hk'; ⟨g, o, cs, e, fun j v hj => hk.cell (h1 j v hj) (by have := hn _ e; exact this), hR _ _ h2⟩⟩
end Go.Proofs.YtklfficlegfhjaaGreat
/- General laws out of texts of chapter 49 (printed by bin/mk47b.py out of bin/g8.txt). -/
namespace Go.Proofs.YtklfficlegfhjaaGreat
open Go Go.ChangeShapes Go.WideShapes Go.ChangeAt Go.RowKit Go.ChangeMaps Gf Sha
section
theorem LS.len_le {α : Type} {R : Rdg α} {s b n c : Nat} {w : World} {A : Option Addr} {L : List α} (h : LS R s b w A n c L) : n * b ≤ 140737488355328 := by have := h.2.2.1; unfold lim at this; exact this
end
section
variable {α : Type} {l : List α} {p : α → Bool} {k : Nat} {x : α}
theorem take_next (h : l[k]? = some x) : l.take (k + 1) = l.take k ++ [x] := by rw [List.take_add_one, h]; rfl
theorem take_end (h : l.length = k) : l.take k = l := by rw [← h, List.take_length]
end
section
theorem reach_key {x : List UInt8} (h : x.length ≤ reachBytes) : x.length ≤ 9223372036854775807 := by unfold reachBytes at h; omega
end
section
variable {κ : Type} {P : Program} (w : World) {ops : Array Oper} {rest : List Oper} {o : Oper} {a : Act} {Q : Exit → Act → World → Prop} {enc : κ → Value}
theorem wpList_lookGv (hg : o.guard = none) (m x : Operand) (t k e : TypeId) (hop : o.op = .lookup t m x false) (K : Go.Maps.Keyed P k) (ht : P.underlying t = some (.map k e)) (z : Value) (hz : (P.info? e).map (·.zero) = some (some z))
  (b : Nat) (g : κ → Value) (hm : a.eval m = .map (some b)) (hb : MG P k enc z w b g) (xv : κ) (hx : a.eval x = enc xv) (hk : ∃ lx, keyOf P k (enc xv) = some lx) (v : Value) (hv : g xv = v)
  (h : wpList P ops Q rest (a.put o.dst v) w) : wpList P ops Q (o :: rest) a w :=
 wpList_lookG w hg m x t k e hop K ht z hz b g hm hb xv hx hk (by rw [hv]; exact h)
theorem wpList_lookGgv (hw : Region.wanted o (yielded ops a.tmps) = true) (m x : Operand) (t k e : TypeId) (hop : o.op = .lookup t m x false) (K : Go.Maps.Keyed P k) (ht : P.underlying t = some (.map k e)) (z : Value) (hz : (P.info? e).map (·.zero) = some (some z))
  (b : Nat) (g : κ → Value) (hm : a.eval m = .map (some b)) (hb : MG P k enc z w b g) (xv : κ) (hx : a.eval x = enc xv) (hk : ∃ lx, keyOf P k (enc xv) = some lx) (v : Value) (hv : g xv = v)
  (h : wpList P ops Q rest (a.put o.dst v) w) : wpList P ops Q (o :: rest) a w :=
 wpList_lookGg w hw m x t k e hop K ht z hz b g hm hb xv hx hk (by rw [hv]; exact h)
theorem wpList_lookokFv (hg : o.guard = none) (m x : Operand) (t k e : TypeId) (hop : o.op = .lookup t m x true) (K : Go.Maps.Keyed P k) (ht : P.underlying t = some (.map k e)) (z : Value) (hz : (P.info? e).map (·.zero) = some (some z))
  (b : Nat) (f : κ → Option Value) (hm : a.eval m = .map (some b)) (hb : MF P k enc w b f) (xv : κ) (hx : a.eval x = enc xv) (hk : ∃ lx, keyOf P k (enc xv) = some lx) (v : Value) (c : Bool) (hv : (f xv).getD z = v) (hc : (f xv).isSome = c)
  (h : wpList P ops Q rest (a.put o.dst (.tuple #[v, .bool c])) w) : wpList P ops Q (o :: rest) a w :=
 wpList_lookokF w hg m x t k e hop K ht z hz b f hm hb xv hx hk (by rw [hv, hc]; exact h)
end
section
theorem boolZero : (Tryz.prog.info? 4).map (·.zero) = some (some (.bool false)) := by kernel_rfl
theorem intZero : (Tryz.prog.info? 3).map (·.zero) = some (some (.int .i64 0)) := by kernel_rfl
/-- An int's range. -/
def wfI (z : Int) : Prop := (Lit.int .i64 z).wf = true
theorem BL.ne {w : World} {g g' : Nat} {t t' : TypeId} {l l' : List Value} (h : BL w g t l) (h' : BL w g' t' l') (ht : t ≠ t') : g ≠ g' := fun e => by
 subst e
 exact ht (h.ty h')
end
section
variable {w w' w1 : World} {te t : TypeId} {s n g : Nat} {v v' : Value} {l cs xs : List Value}
theorem RW.ne_bl (h : RW w te s v n l) (hb : BL w g t cs) (ht : t ≠ te) : ∀ b, v.ownBlock = some b → b ≠ g := fun b hv e => by
 subst e
 obtain ⟨cs', h1⟩ := h.ty hv
 exact ht (hb.ty h1)
theorem AppR.bl {m : Nat} (ap : AppR w te s v n m l xs v' w') (h : RW w te s v n l) (hb : BL w g t cs) (ht : t ≠ te) : BL w' g t cs :=
 ap.kp.bl hb (fun e => h.ne_bl hb ht g e rfl)
theorem OL.kp {α : Type} {R : Rdg α} {w0 : World} {L : List α} {S : Nat → Prop} (h : OL R s te w0 w v L) (hk : Kp S w w') (hn : ∀ b, v.ownBlock = some b → ¬ S b) : OL R s te w0 w' v L :=
 let ⟨css, h1, h2, h3, h4, h5⟩ := h; ⟨css, h1, h2, h3, h4.kp hk hn, h5⟩
end
section
end
section
variable {α : Type} {R : Rdg α} {s b n c m : Nat} {w w' : World} {A : Option Addr} {L : List α} {P : Program} {te : TypeId} {v : Value} {l : List Value}
/-- The cells of a list. -/
theorem LS.css (h : LS R s b w A n c L) (hlen : ∀ cs x, R w cs x → cs.length = s) : ∃ css : List (List Value), css.length = L.length ∧ (∀ cs ∈ css, cs.length = s) ∧ (∀ k (h : k < L.length) (h' : k < css.length), R w css[k] L[k]) ∧ ∀ g o, A = some ⟨g, o, none⟩ → At w g o css.flatten := by
 have key : ∀ k, k ≤ L.length → ∃ css : List (List Value), css.length = k ∧ (∀ cs ∈ css, cs.length = s) ∧ (∀ j (h : j < L.length) (h' : j < css.length), R w css[j] L[j]) ∧ ∀ g o, A = some ⟨g, o, none⟩ → At w g o css.flatten := by
  intro k
  induction k with
  | zero => intro _; exact ⟨[], rfl, (fun _ h => by cases h), (fun _ _ h => absurd h (by simp)), fun g o _ j v hj => by simp at hj⟩
  | succ k ih =>
   intro hk
   obtain ⟨css, h1, h2, h3, h4⟩ := ih (by omega)
   obtain ⟨g, o, cs, e, h5, h6⟩ := h.2.2.2 k (by omega)
   refine ⟨css ++ [cs], by simp [h1], fun c hc => ?_, fun j hj hj' => ?_, fun g' o' e' => ?_⟩
   ·
    rcases List.mem_append.1 hc with h | h
    ·
     exact h2 c h
    ·
     rw [List.mem_singleton.1 h]; exact hlen _ _ h6
   ·
    by_cases hlt : j < css.length
    ·
     rw [List.getElem_append_left hlt]; exact h3 j hj hlt
    ·
     have e9 : j = k := by simp at hj'; omega
     subst e9
     rw [List.getElem_append_right (by omega)]
     simp only [h1, Nat.sub_self, List.getElem_cons_zero]
     exact h6
   ·
    rw [e] at e'
    cases e'
    have hf := flatten_len h2
    have h7 := h4 g o e
    rw [List.flatten_append, List.flatten_cons, List.flatten_nil, List.append_nil]
    intro j u hj
    by_cases hlt : j < css.flatten.length
    ·
     rw [List.getElem?_append_left hlt] at hj; exact h7 j u hj
    ·
     rw [List.getElem?_append_right (by omega)] at hj
     have h8 := h5 (j - css.flatten.length) u hj
     rw [show o + j = o + k * s + (j - css.flatten.length) by rw [hf, h1] at hlt ⊢; omega]
     exact h8
 exact key _ (Nat.le_refl _)
theorem LS.src (h : LS R s b w A n c L) (hlen : ∀ cs x, R w cs x → cs.length = s) (hone : ∀ cs x, R w cs x → ∀ u ∈ cs, u.oneCell' = true) {tx e' : TypeId} (hk : P.underlying tx = some (.slice e')) :
  ∃ css : List (List Value), css.length = L.length ∧ (∀ cs ∈ css, cs.length = s) ∧ (∀ k (h : k < L.length) (h' : k < css.length), R w css[k] L[k]) ∧ ∀ w', Below w.heap.size w w' → Src P s tx (.slice A n c) n css.flatten w' := by
 obtain ⟨css, h1, h2, h3, h4⟩ := h.css hlen
 have hfl : css.flatten.length = n * s := by rw [flatten_len h2, h1, h.1]
 have h1c : ∀ u ∈ css.flatten, u.oneCell' = true := fun u hu => by
  obtain ⟨cs, hcs, hu⟩ := List.mem_flatten.1 hu
  obtain ⟨k, hk⟩ := List.mem_iff_getElem?.1 hcs
  obtain ⟨hk1, hk2⟩ := List.getElem?_eq_some_iff.1 hk
  have h9 := h3 k (by omega) hk1
  rw [hk2] at h9
  exact hone _ _ h9 u hu
 refine ⟨css, h1, h2, h3, fun w' hbel => ?_⟩
 cases A with
 | none =>
  have h0 : n = 0 := by
   rcases Nat.eq_zero_or_pos n with h9 | h9
   ·
    exact h9
   ·
    obtain ⟨g, o, cs, e, _⟩ := h.2.2.2 0 (by rw [h.1]; exact h9)
    cases e
  subst h0
  have : css.flatten = [] := List.eq_nil_of_length_eq_zero (by omega)
  rw [this]
  exact Src.ofNil w' hk c
 | some a =>
  refine Src.ofSlice w' hk a n c _ hfl (fun j u hj => ?_) h1c
  have hn : 0 < n := by
   rcases Nat.eq_zero_or_pos n with h9 | h9
   ·
    subst h9
    have : css.flatten = [] := List.eq_nil_of_length_eq_zero (by omega)
    rw [this] at hj; simp at hj
   ·
    exact h9
  obtain ⟨g, o, cs, e, _⟩ := h.2.2.2 0 (by rw [h.1]; exact hn)
  cases e
  rw [Addr.add_lit]
  exact (h4 g o rfl).kept hbel j u hj
theorem run_appS {t tx rt : TypeId} {i : TypeInfo} {z : Value} (ht : P.underlying t = some (.slice te)) (hi : P.info? te = some i) (hz : i.zero = some z) (hs : i.size = s) (hzs : z.cells.size = s) (h : RW w te s v n l) {x : Value} {xs : List Value}
  (hx : Src P s tx x m xs w) (hb : (n + m) * i.bytes ≤ 140737488355328) (hn : n + m ≤ 140737488355328) :
  ∃ v' w', (Builtin.append_ #[t, tx] rt #[v, x]).run P w = .ok v' w' ∧ AppR w te s v n m l xs v' w' := by
 rcases Nat.eq_zero_or_pos m with h0 | hm
 ·
  subst h0
  have hxs : xs = [] := List.eq_nil_of_length_eq_zero (by have := hx.newsLen; omega)
  subst hxs
  have hap : AppR w te s v n 0 l [] v w := ⟨by rw [Nat.add_zero, List.append_nil]; exact h, Kp.of_below (Below.refl _ _), fun b hb => .inl hb⟩
  rcases h.2 with ⟨rfl, rfl⟩ | ⟨g, o, c, cs, rfl, hbl, h1, h2, h3, h4⟩
  ·
   refine ⟨_, w, ?_, hap⟩
   rcases hx.kind with ⟨e', hk⟩ | hk <;> simp [Builtin.append_, run_underlying ht, run_underlying hk, sizeOf, typeInfo, hi, hs, hx.len, hx.cells, Result.andThen]
  ·
   refine ⟨_, w, ?_, hap⟩
   have hx' : Src P i.size tx x 0 [] w := by rw [hs]; exact hx
   have h9 := run_append_room_src (P := P) w t tx rt te i ht hi g o n c x 0 [] hx' (by omega) (fun j hj => absurd hj (by simp)) (fun j hj => absurd hj (by simp))
   exact h9
 ·
  exact run_appRW ht hi hz hs hzs h hx hm hb hn
end
section
variable {P : Program} (w : World) {ops : Array Oper} {rest : List Oper} {o : Oper} {a : Act} {Q : Exit → Act → World → Prop} {K' : Act → World → Prop}
/-- append(r, x...). -/
theorem wp_appX (sl x : Operand) (t te : TypeId) (s : Nat) (i : TypeInfo) (z : Value) (hop : o.op = .call { callee := .builtin .append, args := #[sl, x], argTypes := #[t, t] })
  (ht : P.underlying t = some (.slice te)) (hi : P.info? te = some i) (hz : i.zero = some z) (hs : i.size = s) (hzs : z.cells.size = s) (v : Value) (n : Nat) (l : List Value) (hv : a.eval sl = v) (h : RW w te s v n l)
  (xv : Value) (m : Nat) (xs : List Value) (hx : a.eval x = xv) (hsrc : Src P s t xv m xs w) (hb : (n + m) * i.bytes ≤ 140737488355328) (hn : n + m ≤ 140737488355328)
  (hK : ∀ v' w', AppR w te s v n m l xs v' w' → K' (a.put o.dst v') w') : o.wp P a w K' Q := by
 obtain ⟨v', w', hr, h2⟩ := run_appS (rt := o.type) ht hi hz hs hzs h hsrc hb hn
 unfold Oper.wp execOp
 simp only [hop, resolve, invoke, builtin, Sem.run_bind, Sem.run_pure, Result.andThen_ok, List.map_toArray, List.map_cons, List.map_nil, hv, hx, hr]
 exact hK _ _ h2
theorem wpList_appX (hg : o.guard = none) (sl x : Operand) (t te : TypeId) (s : Nat) (i : TypeInfo) (z : Value) (hop : o.op = .call { callee := .builtin .append, args := #[sl, x], argTypes := #[t, t] })
  (ht : P.underlying t = some (.slice te)) (hi : P.info? te = some i) (hz : i.zero = some z) (hs : i.size = s) (hzs : z.cells.size = s) (v : Value) (n : Nat) (l : List Value) (hv : a.eval sl = v) (h : RW w te s v n l)
  (xv : Value) (m : Nat) (xs : List Value) (hx : a.eval x = xv) (hsrc : Src P s t xv m xs w) (hb : (n + m) * i.bytes ≤ 140737488355328) (hn : n + m ≤ 140737488355328)
  (hK : ∀ v' w', AppR w te s v n m l xs v' w' → wpList P ops Q rest (a.put o.dst v') w') : wpList P ops Q (o :: rest) a w :=
 wpList_plain hg fun _ hK' => wp_appX w sl x t te s i z hop ht hi hz hs hzs v n l hv h xv m xs hx hsrc hb hn (fun v' w' h2 => hK' _ _ (hK v' w' h2))
end
section
/-- A list with another one behind it. -/
theorem OL.app {α : Type} {R : Rdg α} {s m : Nat} {te : TypeId} {w0 w w' : World} {v v' : Value} {L M : List α} {n : Nat} {css : List (List Value)} (hl : css.length = L.length) (h2 : ∀ cs ∈ css, cs.length = s) (h3 : ∀ k (h : k < L.length) (h' : k < css.length), R w0 css[k] L[k]) (h5 : ∀ b, v.ownBlock = some b → w0.heap.size ≤ b) (hn : L.length = n)
  {dss : List (List Value)} (kl : dss.length = M.length) (k2 : ∀ cs ∈ dss, cs.length = s) (k3 : ∀ k (h : k < M.length) (h' : k < dss.length), R w0 dss[k] M[k]) (km : M.length = m) (hw : w0.heap.size ≤ w.heap.size) (ap : AppR w te s v n m css.flatten dss.flatten v' w') : OL R s te w0 w' v' (L ++ M) := by
 refine ⟨css ++ dss, by simp [hl, kl], fun cs hcs => (List.mem_append.1 hcs).elim (h2 cs) (k2 cs), fun k hk hk' => ?_, ?_, fun b hb => (ap.own b hb).elim (h5 b) (fun h => Nat.le_trans hw h)⟩
 ·
  by_cases hlt : k < L.length
  ·
   rw [List.getElem_append_left (by omega), List.getElem_append_left hlt]; exact h3 k hlt (by omega)
  ·
   rw [List.getElem_append_right (by omega), List.getElem_append_right (by omega)]
   simp only [hl]
   exact k3 _ (by rw [List.length_append] at hk; omega) _
 ·
  have := ap.row
  rw [List.flatten_append, List.length_append, hn, km]
  exact this
theorem LS.none_len {α : Type} {R : Rdg α} {s b n c : Nat} {w : World} {L : List α} (h : LS R s b w none n c L) : n = 0 := by
 rcases Nat.eq_zero_or_pos n with h9 | h9
 ·
  exact h9
 ·
  obtain ⟨g, o, cs, e, _⟩ := h.2.2.2 0 (by rw [h.1]; exact h9)
  cases e
/-- A list in a block of its own whose parts read now. -/
def OT {α : Type} (R : Rdg α) (s : Nat) (te : TypeId) (base : Nat) (w : World) (v : Value) (L : List α) : Prop :=
 ∃ css : List (List Value), css.length = L.length ∧ (∀ cs ∈ css, cs.length = s) ∧ (∀ k (h : k < L.length) (h' : k < css.length), R w css[k] L[k]) ∧ RW w te s v L.length css.flatten ∧ ∀ b, v.ownBlock = some b → base ≤ b
end
section
variable {α : Type} {R : Rdg α} {s base : Nat} {te : TypeId} {w w' : World} {v : Value} {L : List α}
theorem OT.kept (h : OT R s te base w v L) (hR : Stay R) (hb : Below w.heap.size w w') : OT R s te base w' v L :=
 let ⟨css, h1, h2, h3, h4, h5⟩ := h; ⟨css, h1, h2, fun k hk hk' => hR _ _ _ _ (h3 k hk hk') hb, h4.kept hb, h5⟩
theorem OT.of_ol {w0 : World} (h : OL R s te w0 w v L) (hR : Stay R) (hb : Below w0.heap.size w0 w) : OT R s te w0.heap.size w v L :=
 let ⟨css, h1, h2, h3, h4, h5⟩ := h; ⟨css, h1, h2, fun k hk hk' => hR _ _ _ _ (h3 k hk hk') hb, h4, h5⟩
theorem OT.ls {b : Nat} (h : OT R s te base w v L) (hl : L.length * b ≤ lim) : ∃ A c, v = .slice A L.length c ∧ LS R s b w A L.length c L := by
 obtain ⟨css, h1, h2, h3, h4, h5⟩ := h
 obtain ⟨A, c, rfl, hc⟩ := h4.form
 refine ⟨A, c, rfl, rfl, hc, hl, fun k hk => ?_⟩
 obtain ⟨g, o, c', e, _, hat⟩ := h4.at_ (by omega)
 cases e
 have hk' : k < css.length := by omega
 exact ⟨g, o, css[k], rfl, at_flatten h2 hat hk', h3 k hk hk'⟩
theorem LS.mono {R' : Rdg α} {b n c : Nat} {A : Option Addr} (h : LS R s b w A n c L) (hR : ∀ cs x, R w cs x → R' w cs x) : LS R' s b w A n c L :=
 ⟨h.1, h.2.1, h.2.2.1, fun k hk => let ⟨g, o, cs, e, h1, h2⟩ := h.2.2.2 k hk; ⟨g, o, cs, e, h1, hR _ _ h2⟩⟩
end
section
theorem OT.kp {α : Type} {R : Rdg α} {s base : Nat} {te : TypeId} {w w' : World} {v : Value} {L : List α} {S : Nat → Prop} (h : OT R s te base w v L) (hk : Kp S w w') (hn : ∀ b, v.ownBlock = some b → ¬ S b) (hR : ∀ cs x, R w cs x → R w' cs x) : OT R s te base w' v L :=
 let ⟨css, h1, h2, h3, h4, h5⟩ := h; ⟨css, h1, h2, fun k hk hk' => hR _ _ (h3 k hk hk'), h4.kp hk hn, h5⟩
theorem OT.base {α : Type} {R : Rdg α} {s base base' : Nat} {te : TypeId} {w : World} {v : Value} {L : List α} (h : OT R s te base w v L) (hb : base' ≤ base) : OT R s te base' w v L :=
 let ⟨css, h1, h2, h3, h4, h5⟩ := h; ⟨css, h1, h2, h3, h4, fun b e => Nat.le_trans hb (h5 b e)⟩
theorem OT.of {α : Type} {R : Rdg α} {s base : Nat} {te : TypeId} {w0 w : World} {v : Value} {L : List α} (h : OL R s te w0 w v L) (hR : Stay R) (hb : Below w0.heap.size w0 w) (hbase : base ≤ w0.heap.size) : OT R s te base w v L := (OT.of_ol h hR hb).base hbase
theorem OT.own {α : Type} {R : Rdg α} {s base : Nat} {te : TypeId} {w : World} {v : Value} {L : List α} (h : OT R s te base w v L) : ∀ b, v.ownBlock = some b → base ≤ b := let ⟨_, _, _, _, _, h5⟩ := h; h5
theorem OLn.mono {α : Type} {R R' : Rdg α} {s base : Nat} {te : TypeId} {w : World} {v : Value} {L : List α} (h : OLn R s te base w v L) (hR : ∀ w cs x, R w cs x → R' w cs x) : OLn R' s te base w v L :=
 let ⟨css, h1, h2, h3, h4, h5⟩ := h; ⟨css, h1, h2, fun w' hk k h h' => hR _ _ _ (h3 w' hk k h h'), h4, h5⟩
theorem OLn.row {α : Type} {R : Rdg α} {s base : Nat} {te : TypeId} {w : World} {v : Value} {L : List α} (h : OLn R s te base w v L) : ∃ cs, RW w te s v L.length cs := let ⟨_, _, _, _, h4, _⟩ := h; ⟨_, h4⟩
end
end Go.Proofs.YtklfficlegfhjaaGreat
