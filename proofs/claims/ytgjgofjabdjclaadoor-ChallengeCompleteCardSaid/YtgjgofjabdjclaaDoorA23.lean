/- Several texts in one: Ls, Ol. -/
import Derived.Test.YtgjgofjabdjclaaDoorA9
import Derived.Test.YtgjgofjabdjclaaDoorA14
import Derived.Test.YtgjgofjabdjclaaDoorA19
import Derived.Test.YtgjgofjabdjclaaDoorA15
/- Slices of elements of many cells that read as lists; arguments of any shape opened, part by part. For any program. -/
namespace Go.Proofs.YtgjgofjabdjclaaDoor
open Go Go.ChangeShapes Go.WideShapes Go.ChangeAt Go.RowKit Gf Sha

/-- A reading of cells as data. -/
abbrev Rdg (α : Type) := World → List Value → α → Prop
/-- It stays while nothing old turns. -/
def Stay {α : Type} (R : Rdg α) : Prop := ∀ w w' cs x, R w cs x → Below w.heap.size w w' → R w' cs x
/-- A slice of n elements of s cells, b bytes. -/
def LS {α : Type} (R : Rdg α) (s b : Nat) (w : World) (A : Option Addr) (n c : Nat) (L : List α) : Prop :=
  L.length = n ∧ n ≤ c ∧ n * b ≤ lim ∧ ∀ k (h : k < L.length), ∃ g o cs, A = some ⟨g, o, none⟩ ∧ At w g (o + k * s) cs ∧ R w cs L[k]
section
variable {α : Type} {R : Rdg α} {s b n c : Nat} {w w' : World} {A : Option Addr} {L : List α}
theorem LS.kept (h : LS R s b w A n c L) (hR : Stay R) (hb : Below w.heap.size w w') : LS R s b w' A n c L :=
  ⟨h.1, h.2.1, h.2.2.1, fun k hk => let ⟨g, o, cs, e, h1, h2⟩ := h.2.2.2 k hk; ⟨g, o, cs, e, h1.kept hb, hR _ _ _ _ h2 hb⟩⟩
theorem LS.drew (h : LS R s b w A n c L) (hR : Stay R) : LS R s b w.drew A n c L := h.kept hR (Below.refl _ _).drew
theorem LS.at_ (h : LS R s b w A n c L) (hR : Stay R) (hb : Below w.heap.size w w') {k : Nat} (hk : k < n) :
    ∃ x g o cs, L[k]? = some x ∧ A = some ⟨g, o, none⟩ ∧ At w' g (o + k * s) cs ∧ R w' cs x := by
  have hk' : k < L.length := by rw [h.1]; exact hk
  obtain ⟨g, o, cs, e, h1, h2⟩ := (h.kept hR hb).2.2.2 k hk'
  exact ⟨L[k], g, o, cs, List.getElem?_eq_getElem hk', e, h1, h2⟩
theorem LS.nil : LS R s b w none 0 0 [] := ⟨rfl, Nat.le_refl _, by simp, fun k hk => absurd hk (by simp)⟩
theorem LS.pre (h : LS R s b w A n c L) {k : Nat} (hk : k ≤ n) : LS R s b w A k c (L.take k) := by
  refine ⟨by rw [List.length_take, h.1]; omega, by have := h.2.1; omega, Nat.le_trans (Nat.mul_le_mul_right _ hk) h.2.2.1, fun j hj => ?_⟩
  rw [List.length_take] at hj
  have := h.2.2.2 j (by omega)
  rw [List.getElem_take]
  exact this
theorem LS.suf {g o : Nat} (h : LS R s b w (some ⟨g, o, none⟩) n c L) {k : Nat} (hk : k ≤ n) : LS R s b w (some ⟨g, o + k * s, none⟩) (n - k) (c - k) (L.drop k) := by
  refine ⟨by rw [List.length_drop, h.1], by have := h.2.1; omega, Nat.le_trans (Nat.mul_le_mul_right _ (Nat.sub_le _ _)) h.2.2.1, fun j hj => ?_⟩
  rw [List.length_drop] at hj
  obtain ⟨g', o', cs, e, h1, h2⟩ := h.2.2.2 (k + j) (by omega)
  cases e
  refine ⟨g, o + k * s, cs, rfl, ?_, ?_⟩
  · rw [Nat.add_assoc, ← Nat.add_mul]; exact h1
  · rw [List.getElem_drop]; exact h2
end

section
variable {H : Type} (enc : TypeId × Value → H) (P : Program) (W : World)
/-- Whatever an argument of type e reads as, it reads so. -/
def Opens {α : Type} (e : TypeId) (R : Rdg α) : Prop :=
  ∀ (cs : List Value) (d : DataW H) (ps : List MemPlace) (n : Nat), DataW.trod enc P W 0 (fun _ => true) true n e cs = some (d, ps) → (∀ m ∈ d.weights P e, m ≤ reachBytes) → cs.length = P.cellsOf e → ∃ x, R W cs x
end
section
variable {H : Type} {enc : TypeId × Value → H} {P : Program} {W : World}
def rStr : Rdg (List UInt8) := fun _ cs x => cs = [.string (strB x)] ∧ x.length ≤ reachBytes
def rInt : Rdg Int := fun _ cs x => cs = [.int .i64 x] ∧ (Lit.int .i64 x).wf = true
def rBytes : Rdg (List UInt8) := fun w cs x => ∃ A n c, cs = [.slice A n c] ∧ BS w A n c x
def rList {α : Type} (R : Rdg α) (s b : Nat) : Rdg (List α) := fun w cs L => ∃ A n c, cs = [.slice A n c] ∧ LS R s b w A n c L
theorem stay_str : Stay rStr := fun _ _ _ _ h _ => h
theorem stay_int : Stay rInt := fun _ _ _ _ h _ => h
theorem stay_bytes : Stay rBytes := fun _ _ _ _ ⟨A, n, c, e, h⟩ hb => ⟨A, n, c, e, h.kept hb⟩
theorem stay_list {α : Type} {R : Rdg α} {s b : Nat} (hR : Stay R) : Stay (rList R s b) := fun _ _ _ _ ⟨A, n, c, e, h⟩ hb => ⟨A, n, c, e, h.kept hR hb⟩
theorem opens_str {e : TypeId} (he : P.underlying e = some .string) : Opens enc P W e rStr := fun cs d ps n h hw _ => by
  obtain ⟨s, e1, e2, _⟩ := DataW.trod_string he h
  simp only [Prod.mk.injEq] at e2
  obtain ⟨rfl, _⟩ := e2
  refine ⟨s.data.toList, by rw [e1, strB_of], hw _ (by simp [DataW.weights])⟩
theorem opens_int {e : TypeId} (he : P.underlying e = some (.int .i64)) : Opens enc P W e rInt := fun cs d ps n h hw _ => by
  obtain ⟨z, e1, _, h3⟩ := DataW.trod_int he h
  exact ⟨z, e1, h3⟩
theorem slice_form {t e : TypeId} {fuel : Nat} {cs : List Value} {x : DataW H × List MemPlace} (ht : P.underlying t = some (.slice e)) (h : DataW.trod enc P W 0 (fun _ => true) true fuel t cs = some x) : ∃ A n c, cs = [.slice A n c] := by
  rcases Deep.open_slice ht h with ⟨e1, _⟩ | ⟨a, len, cap, _, _, _, _, e1, _⟩
  · exact ⟨_, _, _, e1⟩
  · exact ⟨_, _, _, e1⟩
theorem opens_bytes {t e : TypeId} (ht : P.underlying t = some (.slice e)) (he : P.underlying e = some (.int .u8)) (hc : P.cellsOf e = 1) (hby : P.bytesOf e = 1) : Opens enc P W t rBytes := fun cs d ps n h hw _ => by
  obtain ⟨A, k, c, rfl⟩ := slice_form ht h
  obtain ⟨z, hz⟩ := open_bs ht he hc hby h hw
  exact ⟨z, A, k, c, rfl, hz⟩
theorem opens_list {α : Type} {R : Rdg α} {t e : TypeId} {s b : Nat} (ht : P.underlying t = some (.slice e)) (hs : 0 < s) (hc : P.cellsOf e = s) (hby : P.bytesOf e = b) (hR : Opens enc P W e R) : Opens enc P W t (rList R s b) := fun cs d ps n h hw _ => by
  rcases Deep.open_slice ht h with ⟨rfl, _⟩ | ⟨a, len, cap', m, n', D, Pl, rfl, _, hl, _, hm, hx, hel⟩
  · exact ⟨[], none, 0, 0, rfl, LS.nil⟩
  · simp only [if_true] at hm
    injection hx with hd _
    subst hd
    have hw0 := hw (((List.range len).length + (List.range (m - len)).length) * b) (by simp [DataW.weights, ht, hby])
    have each : ∀ i, i < len → ∃ q : List Value × α, q.1.length = s ∧ (∀ j, j < s → W.cell? ((a.add (i * s)).add j) = q.1[j]?) ∧ R W q.1 q.2 := fun i hi => by
      obtain ⟨cs', h1, h2⟩ := hel i (by omega)
      rw [hc] at h1
      obtain ⟨_, h3, h4⟩ := World.cells?_some h1
      obtain ⟨x, hx⟩ := hR cs' _ _ _ h2 (fun k hk => hw k (by
        simp only [DataW.weights, ht, List.mem_cons, List.mem_append]
        exact .inr (.inl (mem_weightsAll (d := D i) hk (List.mem_map.2 ⟨i, List.mem_range.2 hi, rfl⟩))))) (by rw [h3, hc])
      exact ⟨(cs', x), h3, h4, hx⟩
    by_cases h0 : 0 < len
    · obtain ⟨q, hq⟩ : ∃ q : Nat → List Value × α, ∀ i, i < len → (q i).1.length = s ∧ (∀ j, j < s → W.cell? ((a.add (i * s)).add j) = (q i).1[j]?) ∧ R W (q i).1 (q i).2 :=
        ⟨fun i => if hi : i < len then Classical.choose (each i hi) else Classical.choose (each 0 h0), fun i hi => by simp only [dif_pos hi]; exact Classical.choose_spec (each i hi)⟩
      have hcell : ∀ i j v, i < len → (q i).1[j]? = some v → W.cell? (a.add (i * s + j)) = some v := fun i j v hi hv => by
        have hj : j < s := by rw [← (hq i hi).1]; exact (List.getElem?_eq_some_iff.1 hv).1
        have := (hq i hi).2.1 j hj
        rw [Deep.add_add, hv] at this
        exact this
      refine ⟨(List.range len).map fun i => (q i).2, some a, len, cap', rfl, by simp, hl, ?_, fun k hk => ?_⟩
      · simp only [List.length_range, reachBytes] at hw0
        have h9 : len * b ≤ (len + (m - len)) * b := Nat.mul_le_mul_right _ (by omega)
        unfold lim
        omega
      · rw [List.length_map, List.length_range] at hk
        have hsp : a.spot = none := by
          have h9 := (hq 0 h0).1
          match hl0 : (q 0).1, h9 with
          | [], h9 => simp at h9; omega
          | v :: r, _ =>
            have := hcell 0 0 v h0 (by rw [hl0]; rfl)
            rw [Nat.zero_mul] at this
            have e : a.add (0 + 0) = a := by simp [Addr.add]
            rw [e] at this
            exact addr_spot this
        obtain ⟨b', o', s'⟩ := a
        simp only at hsp
        subst hsp
        refine ⟨b', o', (q k).1, rfl, fun j v hv => ?_, ?_⟩
        · have := addr_addL (hcell k j v hk hv)
          rw [Nat.add_assoc]
          exact this
        · simp only [List.getElem_map, List.getElem_range]
          exact (hq k hk).2.2
    · obtain rfl : len = 0 := by omega
      exact ⟨[], some a, 0, cap', rfl, rfl, by omega, by simp, fun k hk => absurd hk (by simp)⟩
/-- The parts of a struct. -/
theorem struct_each {e : TypeId} {fs : Array Field} {cs : List Value} {d : DataW H} {ps : List MemPlace} {n : Nat} (he : P.underlying e = some (.struct fs)) (h : DataW.trod enc P W 0 (fun _ => true) true n e cs = some (d, ps)) (hw : ∀ m ∈ d.weights P e, m ≤ reachBytes) :
    ∀ (i : Nat) (f : Field), fs[i]? = some f → ∀ {α : Type} {R : Rdg α}, Opens enc P W f.type R → f.offset + P.cellsOf f.type ≤ cs.length → ∃ x, R W ((cs.drop f.offset).take (P.cellsOf f.type)) x := by
  intro i f hf α R hR hle
  obtain ⟨xs, k, _, hx, hl, hxl, hel⟩ := DataW.trod_struct he h
  have hi : i < xs.length := by rw [hxl]; exact (Array.getElem?_eq_some_iff.1 hf).1
  have h1 := hel i f hf
  rw [List.getElem?_eq_getElem hi] at h1
  simp only [Prod.mk.injEq] at hx
  obtain ⟨rfl, _⟩ := hx
  refine hR _ _ _ _ h1 (fun m hm => hw m ?_) (by rw [List.length_take, List.length_drop]; omega)
  simp only [DataW.weights, he]
  exact DataW.weights_mem_each (j := i) (t := f.type) (d := xs[i].1) (by simp [hf]) (by simp [List.getElem?_eq_getElem hi]) m hm
end
end Go.Proofs.YtgjgofjabdjclaaDoor
/- Lists that a loop builds by append: elements of many cells, their parts in memory that was there before. For any program. -/
namespace Go.Proofs.YtgjgofjabdjclaaDoor
open Go Go.RowKit Gf Sha

theorem at_flatten {w : World} {g s : Nat} : ∀ {css : List (List Value)} {o : Nat}, (∀ cs ∈ css, cs.length = s) → At w g o css.flatten → ∀ {k : Nat} (hk : k < css.length), At w g (o + k * s) css[k]
  | [], _, _, _, k, hk => absurd hk (by simp)
  | c :: r, o, h, hat, k, hk => by
    have hc : c.length = s := h c (by simp)
    rw [List.flatten_cons] at hat
    cases k with
    | zero => rw [Nat.zero_mul, Nat.add_zero]; exact hat.left
    | succ k =>
      have h2 : At w g (o + s) r.flatten := fun j v hj => by
        have := hat (s + j) v (by rw [List.getElem?_append_right (by omega), hc, Nat.add_sub_cancel_left]; exact hj)
        rw [Nat.add_assoc]; exact this
      have := at_flatten (fun cs hcs => h cs (by simp [hcs])) h2 (k := k) (by simpa using hk)
      rw [Nat.succ_mul, show o + (k * s + s) = o + s + k * s by omega]
      exact this
theorem flatten_len {s : Nat} : ∀ {css : List (List Value)}, (∀ cs ∈ css, cs.length = s) → css.flatten.length = css.length * s
  | [], _ => by simp
  | c :: r, h => by
    rw [List.flatten_cons, List.length_append, h c (by simp), flatten_len (fun cs hcs => h cs (by simp [hcs])), List.length_cons, Nat.succ_mul]; omega

/-- v holds the list L, in a block of its own that is newer than w0; its parts read in w0. -/
def OL {α : Type} (R : Rdg α) (s : Nat) (te : TypeId) (w0 w : World) (v : Value) (L : List α) : Prop :=
  ∃ css : List (List Value), css.length = L.length ∧ (∀ cs ∈ css, cs.length = s) ∧ (∀ k (h : k < L.length) (h' : k < css.length), R w0 css[k] L[k]) ∧ RW w te s v L.length css.flatten ∧ ∀ b, v.ownBlock = some b → w0.heap.size ≤ b
section
variable {α : Type} {R : Rdg α} {s : Nat} {te : TypeId} {w0 w w' : World} {v v' : Value} {L : List α}
theorem OL.nil (R : Rdg α) (s : Nat) (te : TypeId) (w0 w : World) : OL R s te w0 w (.slice none 0 0) [] := ⟨[], rfl, (fun _ h => by cases h), (fun k h => absurd h (by simp)), RW.nil _ _ _, (fun b hb => by cases hb)⟩
theorem OL.nil' {g : Nat} (R : Rdg α) (s : Nat) (h : BL w g te []) (hg : w0.heap.size ≤ g) : OL R s te w0 w (.slice (some ⟨g, 0, none⟩) 0 0) [] :=
  ⟨[], rfl, (fun _ h => by cases h), (fun k h => absurd h (by simp)), RW.of_blk h (by simp) (by decide), (fun b hb => by cases hb; exact hg)⟩
theorem OL.kept (h : OL R s te w0 w v L) (hb : Below w.heap.size w w') : OL R s te w0 w' v L :=
  let ⟨css, h1, h2, h3, h4, h5⟩ := h; ⟨css, h1, h2, h3, h4.kept hb, h5⟩
theorem OL.row (h : OL R s te w0 w v L) : ∃ cs, RW w te s v L.length cs := let ⟨_, _, _, _, h4, _⟩ := h; ⟨_, h4⟩
theorem OL.own (h : OL R s te w0 w v L) : ∀ b, v.ownBlock = some b → w0.heap.size ≤ b := let ⟨_, _, _, _, _, h5⟩ := h; h5
/-- Pushed: the append's row is what the law on append takes. -/
theorem OL.push {n : Nat} {css : List (List Value)} (hl : css.length = L.length) (h2 : ∀ cs ∈ css, cs.length = s) (h3 : ∀ k (h : k < L.length) (h' : k < css.length), R w0 css[k] L[k]) (h5 : ∀ b, v.ownBlock = some b → w0.heap.size ≤ b) (hn : L.length = n)
    {x : α} {xs : List Value} (hxs : xs.length = s) (hx : R w0 xs x) (hw : w0.heap.size ≤ w.heap.size) (ap : AppR w te s v n 1 css.flatten xs v' w') : OL R s te w0 w' v' (L ++ [x]) := by
  refine ⟨css ++ [xs], by simp [hl], fun cs hcs => ?_, fun k hk hk' => ?_, ?_, fun b hb => (ap.own b hb).elim (h5 b) (fun h => Nat.le_trans hw h)⟩
  · rcases List.mem_append.1 hcs with h | h
    · exact h2 cs h
    · rw [List.mem_singleton.1 h]; exact hxs
  · by_cases hlt : k < L.length
    · rw [List.getElem_append_left (by omega), List.getElem_append_left hlt]; exact h3 k hlt (by omega)
    · have e : k = L.length := by simp at hk; omega
      subst e
      rw [List.getElem_append_right (by omega), List.getElem_append_right (by omega)]
      simp only [hl, Nat.sub_self, List.getElem_cons_zero]
      exact hx
  · have := ap.row
    rw [List.flatten_append, List.flatten_cons, List.flatten_nil, List.append_nil, List.length_append, hn]
    exact this
theorem OL.ls {b : Nat} (h : OL R s te w0 w v L) (hR : Stay R) (hb : Below w0.heap.size w0 w) (hl : L.length * b ≤ lim) : ∃ A c, v = .slice A L.length c ∧ LS R s b w A L.length c L := by
  obtain ⟨css, h1, h2, h3, h4, h5⟩ := h
  obtain ⟨A, c, rfl, hc⟩ := h4.form
  refine ⟨A, c, rfl, rfl, hc, hl, fun k hk => ?_⟩
  obtain ⟨g, o, c', e, _, hat⟩ := h4.at_ (by omega)
  cases e
  have hk' : k < css.length := by omega
  exact ⟨g, o, css[k], rfl, at_flatten h2 hat hk', hR _ _ _ _ (h3 k hk hk') hb⟩
end
end Go.Proofs.YtgjgofjabdjclaaDoor
