/- Several texts in one: Pu0, Pu1, Ol. -/
import Derived.Test.YtboglaokdgnpaaaA2
import Derived.Test.YtboglaokdgnpaaaA3
import Derived.DeepKeys4
import Derived.Test.YtboglaokdgnpaaaA4
import Derived.Test.YtboglaokdgnpaaaA5
/- Piece IDs as keys of maps. -/
namespace Go.Proofs.Ytboglaokdgnpaaa
open Go Go.RowKit Go.WideMaps Gf
set_option maxRecDepth 100000

theorem laidOutT : laidOutB Try.prog = true := by kernel_rfl
theorem pidRow : (39 : TypeId) < Try.prog.types.size := of_decide_eq_true (by kernel_rfl)
theorem pidWide : (match Try.prog.underlying 39 with | some (.array _ _) | some (.struct _) => true | _ => false) = true := by kernel_rfl
theorem pidLaw : KeyLaw Try.prog 39 := deep_law_laid laidOutT (m := 2) (by omega) pidRow (by kernel_rfl) pidWide
theorem pidKeyed : Go.Maps.Keyed Try.prog 39 := Go.Maps.Keyed.of_law pidLaw
theorem strKeyed : Go.Maps.Keyed Try.prog 9 := Go.Maps.string_keyed Try.underlying9
theorem pidType : Try.prog.keyType 39 = true := by kernel_rfl
theorem keyPid (s : List UInt8) (i : Int) (hs : s.length ≤ 9223372036854775807) (hi : (Lit.int .i64 i).wf = true) : ∃ lx, keyOf Try.prog 39 (.agg #[.string (strB s), .int .i64 i]) = some lx := by
 have hc : Try.prog.cellsOf 39 = 2 := by kernel_rfl
 have hcs : Try.prog.cellsOf 9 = 1 := by kernel_rfl
 have hci : Try.prog.cellsOf 3 = 1 := by kernel_rfl
 have hm : (strB s).size ≤ maxLen := by rw [strB_size]; exact hs
 have hf : (Value.agg #[.string (strB s), .int .i64 i]).formed Try.prog 39 = true := by
  simp [Value.formed, Try.underlying39, hc]
 have hk : ∃ ls, Try.prog.keyLits (Try.prog.types.size + 1) 39 (Value.agg #[.string (strB s), .int .i64 i]).cells.toList = some ls := by
  obtain ⟨m, hm'⟩ : ∃ m, Try.prog.types.size = m + 1 := ⟨Try.prog.types.size - 1, by kernel_rfl⟩
  rw [hm']
  unfold Program.keyLits
  rw [Try.underlying39]
  simp only [Value.cells, hc]
  simp [Program.keyLits, Try.underlying9, Try.underlying3, hcs, hci, hm, hi]
 obtain ⟨ls, hk⟩ := hk
 exact ⟨.string (keyBytes ls), by
  unfold keyOf
  rw [Try.underlying39]
  simp only [pidType, hf, hk]
  rfl⟩
end Go.Proofs.Ytboglaokdgnpaaa
/- Slices in a block alone, from anywhere in it, of elements of many cells: append and cut. Proved for any program. -/
namespace Go.Proofs.Ytboglaokdgnpaaa
open Go Go.RowKit Gf

/-- v is a slice of n elements of s cells, its block whole from there on. -/
def RW (w : World) (te : TypeId) (s : Nat) (v : Value) (n : Nat) (l : List Value) : Prop :=
 l.length = n * s ∧ ((v = .slice none 0 0 ∧ n = 0) ∨ ∃ g o c cs, v = .slice (some ⟨g, o, none⟩) n c ∧ BL w g te cs ∧ n ≤ c ∧ c ≤ maxLen ∧ o + c * s ≤ cs.length ∧ (cs.drop o).take (n * s) = l)

section
variable {w w' : World} {te : TypeId} {s n : Nat} {v : Value} {l : List Value}
theorem RW.nil (w : World) (te : TypeId) (s : Nat) : RW w te s (.slice none 0 0) 0 [] := ⟨by simp, .inl ⟨rfl, rfl⟩⟩
theorem RW.kp {S : Nat → Prop} (h : RW w te s v n l) (hk : Kp S w w') (hn : ∀ b, v.ownBlock = some b → ¬ S b) : RW w' te s v n l := by
 refine ⟨h.1, ?_⟩
 rcases h.2 with h2 | ⟨g, o, c, cs, rfl, hb, r⟩
 ·
  exact .inl h2
 ·
  exact .inr ⟨g, o, c, cs, rfl, hb.kp hk (hn g rfl), r⟩
theorem RW.kept (h : RW w te s v n l) (hb : Below w.heap.size w w') : RW w' te s v n l := by
 refine ⟨h.1, ?_⟩
 rcases h.2 with h2 | ⟨g, o, c, cs, rfl, hb', r⟩
 ·
  exact .inl h2
 ·
  exact .inr ⟨g, o, c, cs, rfl, hb'.kept hb, r⟩
theorem RW.drew (h : RW w te s v n l) : RW w.drew te s v n l := h
theorem RW.lt (h : RW w te s v n l) {b : Nat} (hb : v.ownBlock = some b) : b < w.heap.size := by
 rcases h.2 with ⟨rfl, _⟩ | ⟨g, o, c, cs, rfl, hb', r⟩
 ·
  cases hb
 ·
  cases hb; exact hb'.lt
theorem RW.form (h : RW w te s v n l) : ∃ A c, v = .slice A n c ∧ n ≤ c := by
 rcases h.2 with ⟨rfl, rfl⟩ | ⟨g, o, c, cs, rfl, hb', hn, r⟩
 ·
  exact ⟨none, 0, rfl, Nat.le_refl _⟩
 ·
  exact ⟨_, c, rfl, hn⟩
theorem RW.at_ (h : RW w te s v n l) (hn : 0 < n) : ∃ g o c, v = .slice (some ⟨g, o, none⟩) n c ∧ n ≤ c ∧ At w g o l := by
 rcases h.2 with ⟨_, h0⟩ | ⟨g, o, c, cs, rfl, hb, h1, h2, h3, rfl⟩
 ·
  omega
 ·
  refine ⟨g, o, c, rfl, h1, fun j x hj => hb.get ?_⟩
  obtain ⟨hj1, _⟩ := List.getElem?_eq_some_iff.1 hj
  rw [List.getElem?_take_of_lt (by rw [List.length_take] at hj1; omega), List.getElem?_drop] at hj
  exact hj
theorem RW.of_blk {g : Nat} (h : BL w g te l) (hl : l.length = n * s) (hn : n ≤ maxLen) : RW w te s (.slice (some ⟨g, 0, none⟩) n n) n l :=
 ⟨hl, .inr ⟨g, 0, n, l, rfl, h, Nat.le_refl _, hn, by omega, by rw [List.drop_zero, ← hl, List.take_length]⟩⟩
theorem RW.firstCells {P : Program} {A : Option Addr} {c : Nat} (h : RW w te s (.slice A n c) n l) : (Builtin.firstCells s n (.slice A n c)).run P w = .ok l.toArray w := by
 rcases h.2 with ⟨e, h0⟩ | ⟨g, o, c', cs, e, hb, h1, h2, h3, h4⟩
 ·
  cases e
  have hl : l = [] := List.eq_nil_of_length_eq_zero (by rw [h.1]; omega)
  subst hl
  simp [Builtin.firstCells]
 ·
  cases e
  have ha : At w g o l := by
   subst h4
   intro j x hj
   obtain ⟨hj1, _⟩ := List.getElem?_eq_some_iff.1 hj
   rw [List.getElem?_take_of_lt (by rw [List.length_take] at hj1; omega), List.getElem?_drop] at hj
   exact hb.get hj
  have hl := run_loadCells_list (P := P) w ⟨g, o, none⟩ l (fun j x hj => by rw [addr_add]; exact ha j x hj)
  rw [h.1] at hl
  simp [Builtin.firstCells, hl]

theorem splice_row (cs : List Value) (o k m : Nat) (xs : List Value) (hx : xs.length = m) (h : o + (k + m) ≤ cs.length) : ((splice cs (o + k) xs).drop o).take (k + m) = (cs.drop o).take k ++ xs := by
 have e1 : (cs.take (o + k)).length = o + k := by rw [List.length_take]; omega
 have e2 : (splice cs (o + k) xs).drop o = (cs.drop o).take k ++ (xs ++ cs.drop (o + k + xs.length)) := by
  unfold splice
  rw [List.append_assoc, List.drop_append, e1, show o - (o + k) = 0 by omega, List.drop_zero, List.drop_take, show o + k - o = k by omega]
 rw [e2, ← List.append_assoc]
 have e3 : ((cs.drop o).take k ++ xs).length = k + m := by rw [List.length_append, List.length_take, List.length_drop, hx]; omega
 rw [← e3, List.take_left]
theorem splice_length (cs : List Value) (o : Nat) (xs : List Value) (h : o + xs.length ≤ cs.length) : (splice cs o xs).length = cs.length := by
 unfold splice
 rw [List.length_append, List.length_append, List.length_take, List.length_drop]; omega

/-- What an append leaves: the row is longer; it lies where it lay, or in a new block. -/
structure AppR (w : World) (te : TypeId) (s : Nat) (v : Value) (n m : Nat) (l xs : List Value) (v' : Value) (w' : World) : Prop where
 row : RW w' te s v' (n + m) (l ++ xs)
 kp : Kp (fun b => v.ownBlock = some b) w w'
 own : ∀ b, v'.ownBlock = some b → v.ownBlock = some b ∨ w.heap.size ≤ b

theorem run_appRW {P : Program} {t tx rt : TypeId} {i : TypeInfo} {z : Value} (ht : P.underlying t = some (.slice te)) (hi : P.info? te = some i) (hz : i.zero = some z) (hs : i.size = s) (hzs : z.cells.size = s) (h : RW w te s v n l) {x : Value} {m : Nat} {xs : List Value}
  (hx : Src P s tx x m xs w) (hm : 0 < m) (hb : (n + m) * i.bytes ≤ 140737488355328) (hn : n + m ≤ 140737488355328) :
  ∃ v' w', (Builtin.append_ #[t, tx] rt #[v, x]).run P w = .ok v' w' ∧ AppR w te s v n m l xs v' w' := by
 obtain ⟨A, c, rfl, hnc⟩ := h.form
 have hxl := hx.newsLen
 by_cases hroom : n + m ≤ c
 ·
  rcases h.2 with ⟨e, _⟩ | ⟨g, o, c', cs, e, hbl, h1, h2, h3, h4⟩
  ·
   cases e; omega
  ·
   cases e
   have hle : o + n * s + xs.length ≤ cs.length := by
    have : (n + m) * s ≤ c * s := Nat.mul_le_mul_right _ hroom
    rw [Nat.add_mul] at this
    omega
   obtain ⟨w', hr, hb', hk, hsz⟩ := run_storeCells (P := P) xs hx.one (o + n * s) xs.length 0 cs w (by omega) hbl hle
   rw [List.drop_zero] at hr hb'
   refine ⟨.slice (some ⟨g, o, none⟩) (n + m) c, w', ?_, ⟨⟨by rw [List.length_append, h.1, hxl, Nat.add_mul], .inr ⟨g, o, c, _, rfl, hb', hroom, h2, ?_, ?_⟩⟩, ⟨hk.os, hk.tape, hk.output, hk.size, fun j hj hn' => hk.block j hj (fun e => hn' (by subst e; rfl))⟩, fun b hb => .inl hb⟩⟩
   ·
    rcases hx.kind with ⟨e', hk'⟩ | hk' <;> simp [Builtin.append_, run_underlying ht, run_underlying hk', sizeOf, typeInfo, hi, hs, hx.len, hroom, hx.cells, Addr.add_lit, hr, Result.andThen]
   ·
    have e9 : (splice cs (o + n * s) xs).length = cs.length := splice_length _ _ _ hle
    rw [Nat.add_zero]
    exact Nat.le_trans h3 (Nat.le_of_eq e9.symm)
   ·
    rw [Nat.add_mul, ← hxl]
    have := splice_row cs o (n * s) xs.length xs rfl (by omega)
    rw [h4] at this
    exact this
 ·
  have hg : c < n + m := by omega
  have hf : (Builtin.firstCells i.size n (.slice A n c)).run P w.drew = .ok l.toArray w.drew := by rw [hs]; exact RW.firstCells h.drew
  have hx' : Src P i.size tx x m xs w := by rw [hs]; exact hx
  have hr := run_append_grow_src (P := P) w t tx rt te i z ht hi hz A n c l hf x m xs hx' hg (by omega) (growslice_fits hg hb)
  have hge := grownCap_ge w (n + m) c te
  have hcm : grownCap w (n + m) c te ≤ maxLen := grownCap_le_maxLen w (n + m) c te (by simp only [maxLen]; omega)
  have hlx : (l ++ xs).length = (n + m) * s := by rw [List.length_append, h.1, hxl, Nat.add_mul]
  refine ⟨_, _, hr, ⟨⟨hlx, .inr ⟨w.heap.size, 0, _, ((l ++ xs).toArray ++ Builtin.zeroCells z.cells (grownCap w (n + m) c te - (n + m))).toList, rfl, ?_, hge, hcm, ?_, ?_⟩⟩, Kp.of_below (((Below.refl _ _).drew).alloc (Nat.le_refl _) _), fun b hb => .inr (by cases hb; exact Nat.le_refl _)⟩⟩
  ·
   exact BL.new w.drew te _
  ·
   rw [Array.toList_append, List.length_append, hlx, Array.length_toList, size_zeroCells, hzs, Nat.zero_add, ← Nat.add_mul]
   exact Nat.le_of_eq (by congr 1; omega)
  ·
   rw [List.drop_zero, Array.toList_append, ← hlx]
   exact List.take_left
end

section
variable {P : Program} (w : World) {ops : Array Oper} {rest : List Oper} {o : Oper} {a : Act} {Q : Exit → Act → World → Prop}
/-- append(r, x), x boxed in a slice of one. -/
theorem wpList_appRW (hg : o.guard = none) (sl x : Operand) (t te : TypeId) (s : Nat) (i : TypeInfo) (z : Value) (hop : o.op = .call { callee := .builtin .append, args := #[sl, x], argTypes := #[t, t] })
  (ht : P.underlying t = some (.slice te)) (hi : P.info? te = some i) (hz : i.zero = some z) (hs : i.size = s) (hzs : z.cells.size = s) (v : Value) (n : Nat) (l : List Value) (hv : a.eval sl = v) (h : RW w te s v n l)
  (g : Nat) (xs : List Value) (hx : a.eval x = .slice (some ⟨g, 0, none⟩) 1 1) (hbl : BL w g te xs) (hxl : xs.length = s) (h1 : ∀ u ∈ xs, u.oneCell' = true) (hb : (n + 1) * i.bytes ≤ 140737488355328) (hn : n + 1 ≤ 140737488355328)
  (hK : ∀ v' w', AppR w te s v n 1 l xs v' w' → wpList P ops Q rest (a.put o.dst v') w') : wpList P ops Q (o :: rest) a w :=
 wpList_plain hg fun K hK' => by
  have hrow : RW w te s (.slice (some ⟨g, 0, none⟩) 1 1) 1 xs := RW.of_blk hbl (by omega) (by decide)
  have hsrc : Src P s t (.slice (some ⟨g, 0, none⟩) 1 1) 1 xs w := ⟨.inl ⟨_, ht⟩, fun _ => rfl, hrow.firstCells, RW.firstCells hrow.drew, by omega, h1⟩
  obtain ⟨v', w', hr, h2⟩ := run_appRW (rt := o.type) ht hi hz hs hzs h hsrc (by decide) hb hn
  unfold Oper.wp execOp
  simp only [hop, resolve, invoke, builtin, Sem.run_bind, Sem.run_pure, Result.andThen_ok, List.map_toArray, List.map_cons, List.map_nil, hv, hx, hr]
  exact hK' _ _ (hK v' w' h2)
end
end Go.Proofs.Ytboglaokdgnpaaa
/- Lists that a loop builds by append: elements of many cells, their parts in memory that was there before. For any program. -/
namespace Go.Proofs.Ytboglaokdgnpaaa
open Go Go.RowKit Gf Sha

theorem at_flatten {w : World} {g s : Nat} : ∀ {css : List (List Value)} {o : Nat}, (∀ cs ∈ css, cs.length = s) → At w g o css.flatten → ∀ {k : Nat} (hk : k < css.length), At w g (o + k * s) css[k]
 | [], _, _, _, k, hk => absurd hk (by simp)
 | c :: r, o, h, hat, k, hk => by
  have hc : c.length = s := h c (by simp)
  rw [List.flatten_cons] at hat
  cases k with
  | zero => rw [Nat.zero_mul, Nat.add_zero]; exact hat.left
  | succ k =>
   have h2 : At w g (o + s) r.flatten := fun j v hj => by
    have := hat (s + j) v (by rw [List.getElem?_append_right (by omega), hc, Nat.add_sub_cancel_left]; exact hj)
    rw [Nat.add_assoc]; exact this
   have := at_flatten (fun cs hcs => h cs (by simp [hcs])) h2 (k := k) (by simpa using hk)
   rw [Nat.succ_mul, show o + (k * s + s) = o + s + k * s by omega]
   exact this
theorem flatten_len {s : Nat} : ∀ {css : List (List Value)}, (∀ cs ∈ css, cs.length = s) → css.flatten.length = css.length * s
 | [], _ => by simp
 | c :: r, h => by
  rw [List.flatten_cons, List.length_append, h c (by simp), flatten_len (fun cs hcs => h cs (by simp [hcs])), List.length_cons, Nat.succ_mul]; omega

/-- v holds the list L, in a block of its own that is newer than w0; its parts read in w0. -/
def OL {α : Type} (R : Rdg α) (s : Nat) (te : TypeId) (w0 w : World) (v : Value) (L : List α) : Prop :=
 ∃ css : List (List Value), css.length = L.length ∧ (∀ cs ∈ css, cs.length = s) ∧ (∀ k (h : k < L.length) (h' : k < css.length), R w0 css[k] L[k]) ∧ RW w te s v L.length css.flatten ∧ ∀ b, v.ownBlock = some b → w0.heap.size ≤ b
section
variable {α : Type} {R : Rdg α} {s : Nat} {te : TypeId} {w0 w w' : World} {v v' : Value} {L : List α}
theorem OL.nil (R : Rdg α) (s : Nat) (te : TypeId) (w0 w : World) : OL R s te w0 w (.slice none 0 0) [] := ⟨[], rfl, (fun _ h => by cases h), (fun k h => absurd h (by simp)), RW.nil _ _ _, (fun b hb => by cases hb)⟩
theorem OL.kept (h : OL R s te w0 w v L) (hb : Below w.heap.size w w') : OL R s te w0 w' v L :=
 let ⟨css, h1, h2, h3, h4, h5⟩ := h; ⟨css, h1, h2, h3, h4.kept hb, h5⟩
theorem OL.row (h : OL R s te w0 w v L) : ∃ cs, RW w te s v L.length cs := let ⟨_, _, _, _, h4, _⟩ := h; ⟨_, h4⟩
theorem OL.own (h : OL R s te w0 w v L) : ∀ b, v.ownBlock = some b → w0.heap.size ≤ b := let ⟨_, _, _, _, _, h5⟩ := h; h5
/-- Pushed: the append's row is what the law on append takes. -/
theorem OL.push {n : Nat} {css : List (List Value)} (hl : css.length = L.length) (h2 : ∀ cs ∈ css, cs.length = s) (h3 : ∀ k (h : k < L.length) (h' : k < css.length), R w0 css[k] L[k]) (h5 : ∀ b, v.ownBlock = some b → w0.heap.size ≤ b) (hn : L.length = n)
  {x : α} {xs : List Value} (hxs : xs.length = s) (hx : R w0 xs x) (hw : w0.heap.size ≤ w.heap.size) (ap : AppR w te s v n 1 css.flatten xs v' w') : OL R s te w0 w' v' (L ++ [x]) := by
 refine ⟨css ++ [xs], by simp [hl], fun cs hcs => ?_, fun k hk hk' => ?_, ?_, fun b hb => (ap.own b hb).elim (h5 b) (fun h => Nat.le_trans hw h)⟩
 ·
  rcases List.mem_append.1 hcs with h | h
  ·
   exact h2 cs h
  ·
   rw [List.mem_singleton.1 h]; exact hxs
 ·
  by_cases hlt : k < L.length
  ·
   rw [List.getElem_append_left (by omega), List.getElem_append_left hlt]; exact h3 k hlt (by omega)
  ·
   have e : k = L.length := by simp at hk; omega
   subst e
   rw [List.getElem_append_right (by omega), List.getElem_append_right (by omega)]
   simp only [hl, Nat.sub_self, List.getElem_cons_zero]
   exact hx
 ·
  have := ap.row
  rw [List.flatten_append, List.flatten_cons, List.flatten_nil, List.append_nil, List.length_append, hn]
  exact this
theorem OL.ls {b : Nat} (h : OL R s te w0 w v L) (hR : Stay R) (hb : Below w0.heap.size w0 w) (hl : L.length * b ≤ lim) : ∃ A c, v = .slice A L.length c ∧ LS R s b w A L.length c L := by
 obtain ⟨css, h1, h2, h3, h4, h5⟩ := h
 obtain ⟨A, c, rfl, hc⟩ := h4.form
 refine ⟨A, c, rfl, rfl, hc, hl, fun k hk => ?_⟩
 obtain ⟨g, o, c', e, _, hat⟩ := h4.at_ (by omega)
 cases e
 have hk' : k < css.length := by omega
 exact ⟨g, o, css[k], rfl, at_flatten h2 hat hk', hR _ _ _ _ (h3 k hk hk') hb⟩
end
end Go.Proofs.Ytboglaokdgnpaaa
