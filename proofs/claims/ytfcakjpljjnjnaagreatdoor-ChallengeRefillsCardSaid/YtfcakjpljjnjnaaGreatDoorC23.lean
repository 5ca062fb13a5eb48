/- Several texts in one: Ls, Mer4, Ol, Mer5, Mt6, Mt7, Mt8, Gen, Cq0, Cr, Ca, Cb, Cc. -/
import Derived.Test.YtfcakjpljjnjnaaGreatDoorC7
import Derived.Test.YtfcakjpljjnjnaaGreatDoorC10
import Derived.Test.YtfcakjpljjnjnaaGreatDoorC22
import Derived.Test.YtfcakjpljjnjnaaGreatDoorC15
import Derived.Test.YtfcakjpljjnjnaaGreatDoorC21
import Derived.Test.YtfcakjpljjnjnaaGreatDoorC12
import Derived.OwnWalk
import Derived.Test.YtfcakjpljjnjnaaGreatDoorC2
import Derived.Test.YtfcakjpljjnjnaaGreatDoorC1
import Derived.Lib.Hide
import Derived.LoopTactic
import Derived.Deep.QuietTactic
import Derived.BigQuiet
import Derived.IntWalk
import Derived.Deep.LoopGhost
/- Slices of elements of many cells that read as lists; arguments of any shape opened, part by part. For any program. -/
namespace Go.Proofs.YtfcakjpljjnjnaaGreatDoor
open Go Go.ChangeShapes Go.WideShapes Go.ChangeAt Go.RowKit Gf Sha

/-- A reading of cells as data. -/
abbrev Rdg (α : Type) := World → List Value → α → Prop
/-- It stays while nothing old turns. -/
def Stay {α : Type} (R : Rdg α) : Prop := ∀ w w' cs x, R w cs x → Below w.heap.size w w' → R w' cs x
/-- A slice of n elements of s cells, b bytes. -/
def LS {α : Type} (R : Rdg α) (s b : Nat) (w : World) (A : Option Addr) (n c : Nat) (L : List α) : Prop :=
 L.length = n ∧ n ≤ c ∧ n * b ≤ lim ∧ ∀ k (h : k < L.length), ∃ g o cs, A = some ⟨g, o, none⟩ ∧ At w g (o + k * s) cs ∧ R w cs L[k]
section
variable {α : Type} {R : Rdg α} {s b n c : Nat} {w w' : World} {A : Option Addr} {L : List α}
theorem LS.kept (h : LS R s b w A n c L) (hR : Stay R) (hb : Below w.heap.size w w') : LS R s b w' A n c L :=
 ⟨h.1, h.2.1, h.2.2.1, fun k hk => let ⟨g, o, cs, e, h1, h2⟩ := h.2.2.2 k hk; ⟨g, o, cs, e, h1.kept hb, hR _ _ _ _ h2 hb⟩⟩
theorem LS.drew (h : LS R s b w A n c L) (hR : Stay R) : LS R s b w.drew A n c L := h.kept hR (Below.refl _ _).drew
theorem LS.at_ (h : LS R s b w A n c L) (hR : Stay R) (hb : Below w.heap.size w w') {k : Nat} (hk : k < n) :
  ∃ x g o cs, L[k]? = some x ∧ A = some ⟨g, o, none⟩ ∧ At w' g (o + k * s) cs ∧ R w' cs x := by
 have hk' : k < L.length := by rw [h.1]; exact hk
 obtain ⟨g, o, cs, e, h1, h2⟩ := (h.kept hR hb).2.2.2 k hk'
 exact ⟨L[k], g, o, cs, List.getElem?_eq_getElem hk', e, h1, h2⟩
theorem LS.nil : LS R s b w none 0 0 [] := ⟨rfl, Nat.le_refl _, by simp, fun k hk => absurd hk (by simp)⟩
theorem LS.pre (h : LS R s b w A n c L) {k : Nat} (hk : k ≤ n) : LS R s b w A k c (L.take k) := by
 refine ⟨by rw [List.length_take, h.1]; omega, by have := h.2.1; omega, Nat.le_trans (Nat.mul_le_mul_right _ hk) h.2.2.1, fun j hj => ?_⟩
 rw [List.length_take] at hj
 have := h.2.2.2 j (by omega)
 rw [List.getElem_take]
 exact this
theorem LS.suf {g o : Nat} (h : LS R s b w (some ⟨g, o, none⟩) n c L) {k : Nat} (hk : k ≤ n) : LS R s b w (some ⟨g, o + k * s, none⟩) (n - k) (c - k) (L.drop k) := by
 refine ⟨by rw [List.length_drop, h.1], by have := h.2.1; omega, Nat.le_trans (Nat.mul_le_mul_right _ (Nat.sub_le _ _)) h.2.2.1, fun j hj => ?_⟩
 rw [List.length_drop] at hj
 obtain ⟨g', o', cs, e, h1, h2⟩ := h.2.2.2 (k + j) (by omega)
 cases e
 refine ⟨g, o + k * s, cs, rfl, ?_, ?_⟩
 ·
  rw [Nat.add_assoc, ← Nat.add_mul]; exact h1
 ·
  rw [List.getElem_drop]; exact h2
end

section
variable {H : Type} (enc : TypeId × Value → H) (P : Program) (W : World)
/-- Whatever an argument of type e reads as, it reads so. -/
def Opens {α : Type} (e : TypeId) (R : Rdg α) : Prop :=
 ∀ (cs : List Value) (d : DataW H) (ps : List MemPlace) (n : Nat), DataW.trod enc P W 0 (fun _ => true) true n e cs = some (d, ps) → (∀ m ∈ d.weights P e, m ≤ reachBytes) → cs.length = P.cellsOf e → ∃ x, R W cs x
end
section
variable {H : Type} {enc : TypeId × Value → H} {P : Program} {W : World}
def rStr : Rdg (List UInt8) := fun _ cs x => cs = [.string (strB x)] ∧ x.length ≤ reachBytes
def rInt : Rdg Int := fun _ cs x => cs = [.int .i64 x] ∧ (Lit.int .i64 x).wf = true
def rBytes : Rdg (List UInt8) := fun w cs x => ∃ A n c, cs = [.slice A n c] ∧ BS w A n c x
def rList {α : Type} (R : Rdg α) (s b : Nat) : Rdg (List α) := fun w cs L => ∃ A n c, cs = [.slice A n c] ∧ LS R s b w A n c L
theorem stay_str : Stay rStr := fun _ _ _ _ h _ => h
theorem stay_int : Stay rInt := fun _ _ _ _ h _ => h
theorem opens_str {e : TypeId} (he : P.underlying e = some .string) : Opens enc P W e rStr := fun cs d ps n h hw _ => by
 obtain ⟨s, e1, e2, _⟩ := DataW.trod_string he h
 simp only [Prod.mk.injEq] at e2
 obtain ⟨rfl, _⟩ := e2
 refine ⟨s.data.toList, by rw [e1, strB_of], hw _ (by simp [DataW.weights])⟩
theorem opens_int {e : TypeId} (he : P.underlying e = some (.int .i64)) : Opens enc P W e rInt := fun cs d ps n h hw _ => by
 obtain ⟨z, e1, _, h3⟩ := DataW.trod_int he h
 exact ⟨z, e1, h3⟩
theorem slice_form {t e : TypeId} {fuel : Nat} {cs : List Value} {x : DataW H × List MemPlace} (ht : P.underlying t = some (.slice e)) (h : DataW.trod enc P W 0 (fun _ => true) true fuel t cs = some x) : ∃ A n c, cs = [.slice A n c] := by
 rcases Deep.open_slice ht h with ⟨e1, _⟩ | ⟨a, len, cap, _, _, _, _, e1, _⟩
 ·
  exact ⟨_, _, _, e1⟩
 ·
  exact ⟨_, _, _, e1⟩
theorem opens_bytes {t e : TypeId} (ht : P.underlying t = some (.slice e)) (he : P.underlying e = some (.int .u8)) (hc : P.cellsOf e = 1) (hby : P.bytesOf e = 1) : Opens enc P W t rBytes := fun cs d ps n h hw _ => by
 obtain ⟨A, k, c, rfl⟩ := slice_form ht h
 obtain ⟨z, hz⟩ := open_bs ht he hc hby h hw
 exact ⟨z, A, k, c, rfl, hz⟩
theorem opens_list {α : Type} {R : Rdg α} {t e : TypeId} {s b : Nat} (ht : P.underlying t = some (.slice e)) (hs : 0 < s) (hc : P.cellsOf e = s) (hby : P.bytesOf e = b) (hR : Opens enc P W e R) : Opens enc P W t (rList R s b) := fun cs d ps n h hw _ => by
 rcases Deep.open_slice ht h with ⟨rfl, _⟩ | ⟨a, len, cap', m, n', D, Pl, rfl, _, hl, _, hm, hx, hel⟩
 ·
  exact ⟨[], none, 0, 0, rfl, LS.nil⟩
 ·
  simp only [if_true] at hm
  injection hx with hd _
  subst hd
  have hw0 := hw (((List.range len).length + (List.range (m - len)).length) * b) (by simp [DataW.weights, ht, hby])
  have each : ∀ i, i < len → ∃ q : List Value × α, q.1.length = s ∧ (∀ j, j < s → W.cell? ((a.add (i * s)).add j) = q.1[j]?) ∧ R W q.1 q.2 := fun i hi => by
   obtain ⟨cs', h1, h2⟩ := hel i (by omega)
   rw [hc] at h1
   obtain ⟨_, h3, h4⟩ := World.cells?_some h1
   obtain ⟨x, hx⟩ := hR cs' _ _ _ h2 (fun k hk => hw k (by
    simp only [DataW.weights, ht, List.mem_cons, List.mem_append]
    exact .inr (.inl (mem_weightsAll (d := D i) hk (List.mem_map.2 ⟨i, List.mem_range.2 hi, rfl⟩))))) (by rw [h3, hc])
   exact ⟨(cs', x), h3, h4, hx⟩
  by_cases h0 : 0 < len
  ·
   obtain ⟨q, hq⟩ : ∃ q : Nat → List Value × α, ∀ i, i < len → (q i).1.length = s ∧ (∀ j, j < s → W.cell? ((a.add (i * s)).add j) = (q i).1[j]?) ∧ R W (q i).1 (q i).2 :=
    ⟨fun i => if hi : i < len then Classical.choose (each i hi) else Classical.choose (each 0 h0), fun i hi => by simp only [dif_pos hi]; exact Classical.choose_spec (each i hi)⟩
   have hcell : ∀ i j v, i < len → (q i).1[j]? = some v → W.cell? (a.add (i * s + j)) = some v := fun i j v hi hv => by
    have hj : j < s := by rw [← (hq i hi).1]; exact (List.getElem?_eq_some_iff.1 hv).1
    have := (hq i hi).2.1 j hj
    rw [Deep.add_add, hv] at this
    exact this
   refine ⟨(List.range len).map fun i => (q i).2, some a, len, cap', rfl, by simp, hl, ?_, fun k hk => ?_⟩
   ·
    simp only [List.length_range, reachBytes] at hw0
    have h9 : len * b ≤ (len + (m - len)) * b := Nat.mul_le_mul_right _ (by omega)
    unfold lim
    omega
   ·
    rw [List.length_map, List.length_range] at hk
    have hsp : a.spot = none := by
     have h9 := (hq 0 h0).1
     match hl0 : (q 0).1, h9 with
     | [], h9 => simp at h9; omega
     | v :: r, _ =>
      have := hcell 0 0 v h0 (by rw [hl0]; rfl)
      rw [Nat.zero_mul] at this
      have e : a.add (0 + 0) = a := by simp [Addr.add]
      rw [e] at this
      exact addr_spot this
    obtain ⟨b', o', s'⟩ := a
    simp only at hsp
    subst hsp
    refine ⟨b', o', (q k).1, rfl, fun j v hv => ?_, ?_⟩
    ·
     have := addr_addL (hcell k j v hk hv)
     rw [Nat.add_assoc]
     exact this
    ·
     simp only [List.getElem_map, List.getElem_range]
     exact (hq k hk).2.2
  ·
   obtain rfl : len = 0 := by omega
   exact ⟨[], some a, 0, cap', rfl, rfl, by omega, by simp, fun k hk => absurd hk (by simp)⟩
/-- The parts of a struct. -/
theorem struct_each {e : TypeId} {fs : Array Field} {cs : List Value} {d : DataW H} {ps : List MemPlace} {n : Nat} (he : P.underlying e = some (.struct fs)) (h : DataW.trod enc P W 0 (fun _ => true) true n e cs = some (d, ps)) (hw : ∀ m ∈ d.weights P e, m ≤ reachBytes) :
  ∀ (i : Nat) (f : Field), fs[i]? = some f → ∀ {α : Type} {R : Rdg α}, Opens enc P W f.type R → f.offset + P.cellsOf f.type ≤ cs.length → ∃ x, R W ((cs.drop f.offset).take (P.cellsOf f.type)) x := by
 intro i f hf α R hR hle
 obtain ⟨xs, k, _, hx, hl, hxl, hel⟩ := DataW.trod_struct he h
 have hi : i < xs.length := by rw [hxl]; exact (Array.getElem?_eq_some_iff.1 hf).1
 have h1 := hel i f hf
 rw [List.getElem?_eq_getElem hi] at h1
 simp only [Prod.mk.injEq] at hx
 obtain ⟨rfl, _⟩ := hx
 refine hR _ _ _ _ h1 (fun m hm => hw m ?_) (by rw [List.length_take, List.length_drop]; omega)
 simp only [DataW.weights, he]
 exact DataW.weights_mem_each (j := i) (t := f.type) (d := xs[i].1) (by simp [hf]) (by simp [List.getElem?_eq_getElem hi]) m hm
end
end Go.Proofs.YtfcakjpljjnjnaaGreatDoor
/- Contract of the reference's See; proofs (a block's number, data, path) as a list; Proven of the program and of the reference. -/
namespace Go.Proofs.YtfcakjpljjnjnaaGreatDoor
open Go Go.RowKit Gf Sha

end Go.Proofs.YtfcakjpljjnjnaaGreatDoor
/- Lists that a loop builds by append: elements of many cells, their parts in memory that was there before. For any program. -/
namespace Go.Proofs.YtfcakjpljjnjnaaGreatDoor
open Go Go.RowKit Gf Sha

theorem at_flatten {w : World} {g s : Nat} : ∀ {css : List (List Value)} {o : Nat}, (∀ cs ∈ css, cs.length = s) → At w g o css.flatten → ∀ {k : Nat} (hk : k < css.length), At w g (o + k * s) css[k]
 | [], _, _, _, k, hk => absurd hk (by simp)
 | c :: r, o, h, hat, k, hk => by
  have hc : c.length = s := h c (by simp)
  rw [List.flatten_cons] at hat
  cases k with
  | zero => rw [Nat.zero_mul, Nat.add_zero]; exact hat.left
  | succ k =>
   have h2 : At w g (o + s) r.flatten := fun j v hj => by
    have := hat (s + j) v (by rw [List.getElem?_append_right (by omega), hc, Nat.add_sub_cancel_left]; exact hj)
    rw [Nat.add_assoc]; exact this
   have := at_flatten (fun cs hcs => h cs (by simp [hcs])) h2 (k := k) (by simpa using hk)
   rw [Nat.succ_mul, show o + (k * s + s) = o + s + k * s by omega]
   exact this
theorem flatten_len {s : Nat} : ∀ {css : List (List Value)}, (∀ cs ∈ css, cs.length = s) → css.flatten.length = css.length * s
 | [], _ => by simp
 | c :: r, h => by
  rw [List.flatten_cons, List.length_append, h c (by simp), flatten_len (fun cs hcs => h cs (by simp [hcs])), List.length_cons, Nat.succ_mul]; omega

/-- v holds the list L, in a block of its own that is newer than w0; its parts read in w0. -/
def OL {α : Type} (R : Rdg α) (s : Nat) (te : TypeId) (w0 w : World) (v : Value) (L : List α) : Prop :=
 ∃ css : List (List Value), css.length = L.length ∧ (∀ cs ∈ css, cs.length = s) ∧ (∀ k (h : k < L.length) (h' : k < css.length), R w0 css[k] L[k]) ∧ RW w te s v L.length css.flatten ∧ ∀ b, v.ownBlock = some b → w0.heap.size ≤ b
section
variable {α : Type} {R : Rdg α} {s : Nat} {te : TypeId} {w0 w w' : World} {v v' : Value} {L : List α}
theorem OL.nil (R : Rdg α) (s : Nat) (te : TypeId) (w0 w : World) : OL R s te w0 w (.slice none 0 0) [] := ⟨[], rfl, (fun _ h => by cases h), (fun k h => absurd h (by simp)), RW.nil _ _ _, (fun b hb => by cases hb)⟩
theorem OL.nil' {g : Nat} (R : Rdg α) (s : Nat) (h : BL w g te []) (hg : w0.heap.size ≤ g) : OL R s te w0 w (.slice (some ⟨g, 0, none⟩) 0 0) [] :=
 ⟨[], rfl, (fun _ h => by cases h), (fun k h => absurd h (by simp)), RW.of_blk h (by simp) (by decide), (fun b hb => by cases hb; exact hg)⟩
theorem OL.kept (h : OL R s te w0 w v L) (hb : Below w.heap.size w w') : OL R s te w0 w' v L :=
 let ⟨css, h1, h2, h3, h4, h5⟩ := h; ⟨css, h1, h2, h3, h4.kept hb, h5⟩
theorem OL.row (h : OL R s te w0 w v L) : ∃ cs, RW w te s v L.length cs := let ⟨_, _, _, _, h4, _⟩ := h; ⟨_, h4⟩
theorem OL.own (h : OL R s te w0 w v L) : ∀ b, v.ownBlock = some b → w0.heap.size ≤ b := let ⟨_, _, _, _, _, h5⟩ := h; h5
/-- Pushed: the append's row is what the law on append takes. -/
theorem OL.push {n : Nat} {css : List (List Value)} (hl : css.length = L.length) (h2 : ∀ cs ∈ css, cs.length = s) (h3 : ∀ k (h : k < L.length) (h' : k < css.length), R w0 css[k] L[k]) (h5 : ∀ b, v.ownBlock = some b → w0.heap.size ≤ b) (hn : L.length = n)
  {x : α} {xs : List Value} (hxs : xs.length = s) (hx : R w0 xs x) (hw : w0.heap.size ≤ w.heap.size) (ap : AppR w te s v n 1 css.flatten xs v' w') : OL R s te w0 w' v' (L ++ [x]) := by
 refine ⟨css ++ [xs], by simp [hl], fun cs hcs => ?_, fun k hk hk' => ?_, ?_, fun b hb => (ap.own b hb).elim (h5 b) (fun h => Nat.le_trans hw h)⟩
 ·
  rcases List.mem_append.1 hcs with h | h
  ·
   exact h2 cs h
  ·
   rw [List.mem_singleton.1 h]; exact hxs
 ·
  by_cases hlt : k < L.length
  ·
   rw [List.getElem_append_left (by omega), List.getElem_append_left hlt]; exact h3 k hlt (by omega)
  ·
   have e : k = L.length := by simp at hk; omega
   subst e
   rw [List.getElem_append_right (by omega), List.getElem_append_right (by omega)]
   simp only [hl, Nat.sub_self, List.getElem_cons_zero]
   exact hx
 ·
  have := ap.row
  rw [List.flatten_append, List.flatten_cons, List.flatten_nil, List.append_nil, List.length_append, hn]
  exact this
theorem OL.ls {b : Nat} (h : OL R s te w0 w v L) (hR : Stay R) (hb : Below w0.heap.size w0 w) (hl : L.length * b ≤ lim) : ∃ A c, v = .slice A L.length c ∧ LS R s b w A L.length c L := by
 obtain ⟨css, h1, h2, h3, h4, h5⟩ := h
 obtain ⟨A, c, rfl, hc⟩ := h4.form
 refine ⟨A, c, rfl, rfl, hc, hl, fun k hk => ?_⟩
 obtain ⟨g, o, c', e, _, hat⟩ := h4.at_ (by omega)
 cases e
 have hk' : k < css.length := by omega
 exact ⟨g, o, css[k], rfl, at_flatten h2 hat hk', hR _ _ _ _ (h3 k hk hk') hb⟩
end
end Go.Proofs.YtfcakjpljjnjnaaGreatDoor
/- The law's plain: proofs of the program as proofs of the reference. -/
namespace Go.Proofs.YtfcakjpljjnjnaaGreatDoor
open Go Go.RowKit Gf Sha

end Go.Proofs.YtfcakjpljjnjnaaGreatDoor
/- Copies of bytes; the reference's Show; lists of proofs whose parts are new. -/
namespace Go.Proofs.YtfcakjpljjnjnaaGreatDoor
open Go Go.RowKit Gf Sha

/-- Bytes of the call's own. -/
def OwnB (w : World) (base : Nat) (v : Value) (n : Nat) (x : List UInt8) : Prop := RW w 5 1 v n (x.map B) ∧ ∀ b, v.ownBlock = some b → base ≤ b
theorem OwnB.kept {w w' : World} {base n : Nat} {v : Value} {x : List UInt8} (h : OwnB w base v n x) (hb : Below w.heap.size w w') : OwnB w' base v n x := ⟨h.1.kept hb, h.2⟩
theorem OwnS.kept' {w w' : World} {base n : Nat} {v : Value} {x : List (List UInt8)} (h : OwnS w base v n x) (hb : Below w.heap.size w w') : OwnS w' base v n x := ⟨h.1.kept hb, h.2⟩
theorem BS.of_rw {w : World} {n : Nat} {A : Option Addr} {c : Nat} {x : List UInt8} (h : RW w 5 1 (.slice A n c) n (x.map B)) (hn : n ≤ lim) : BS w A n c x := by
 have hl : x.length = n := by have := h.1; simpa using this
 obtain ⟨A', c', e, hc⟩ := h.form
 cases e
 refine ⟨hl, hc, hn, fun k hk => ?_⟩
 obtain ⟨g, o, c', e, _, hat⟩ := h.at_ (by omega)
 cases e
 refine ⟨g, o, rfl, ?_⟩
 have := hat k _ (by rw [List.getElem?_map, List.getElem?_eq_getElem (by omega)]; rfl)
 show w.cell? ⟨g, o + k, none⟩ = some (B (gB x k))
 rw [gB_eq (by omega)]
 exact this
theorem TS.of_rw {w : World} {n : Nat} {A : Option Addr} {c : Nat} {m : List (List UInt8)} (h : RW w 9 1 (.slice A n c) n (m.map usC)) (hn : n * 16 ≤ lim) : TS w A n c m := by
 have hl : m.length = n := by have := h.1; simpa using this
 obtain ⟨A', c', e, hc⟩ := h.form
 cases e
 refine ⟨hl, hc, hn, fun k hk => ?_⟩
 obtain ⟨g, o, c', e, _, hat⟩ := h.at_ (by omega)
 cases e
 refine ⟨g, o, rfl, ?_⟩
 have := hat k _ (by rw [List.getElem?_map, List.getElem?_eq_getElem (by omega)]; rfl)
 show w.cell? ⟨g, o + k, none⟩ = some (.string (strB (gR m k)))
 rw [gR_eq (by omega)]
 exact this
theorem bsl0B (w : World) : (Instr.buildSlice 39 0 #[]).run Tryz.prog w = .ok (.slice (some ⟨w.heap.size, 0, none⟩) 0 0) (w.alloc (.cells ([] : List Value).toArray 5)) := by kernel_rfl
theorem BS.form {w : World} {A : Option Addr} {n c : Nat} {x : List UInt8} (h : BS w A n c x) (hn : 0 < n) : ∃ g o, A = some ⟨g, o, none⟩ := by
 obtain ⟨g, o, e, _⟩ := h.2.2.2 0 hn
 exact ⟨g, o, e⟩

theorem eqNilB (g o n c : Nat) (w : World) : (binOp .eql 39 (.slice (some ⟨g, o, none⟩) n c) (.slice none 0 0)).run Tryz.prog w = .ok (.bool false) w := by kernel_rfl

set_option maxRecDepth 100000 in
set_option maxHeartbeats 1000000 in
theorem cloneB_any (A : Option Addr) (n c : Nat) (x : List UInt8) (w : World) (h : BS w A n c x) (h1 : 1 ≤ n) (hn : n ≤ 1000000) :
  Calls Tryz.prog 62 #[.slice A n c] w fun e w' => ∃ v', e = .returned v' ∧ OwnB w' w.heap.size v' n x ∧ Below w.heap.size w w' := by
 obtain ⟨g, o, rfl⟩ := h.form h1
 have H := Lib.hid h
 have HN := Lib.hid hn
 have hen := eqNilB g o n c
 clear h hn
 go_enter Tryz.func62, Tryz.ntmps62
 go_wp2_with (first
  | ((with_reducible show OpW 5); refine wpList_bslice _ rfl 39 5 0 _ rfl #[] (by rw [List.map_toArray]; rfl) [] (bsl0B _) ?_; intro w1 a1 a2 a3; have HG1 := Lib.hid a1; have HB1 := Lib.hid a2; clear a1 a2 a3; have HO : Hid (w1.ownsRow w.heap.size 5 1 (.slice (some ⟨w.heap.size, 0, none⟩) 0 0) 0 (([] : List UInt8).map B)) := Lib.hid (BL.own HG1.out (Nat.le_refl _) rfl (by decide)))
  | ((with_reducible show OpW 7); refine wpList_appB _ rfl (.tmp 5) (.tmp 6) rfl w.heap.size _ 0 _ rfl HO.out _ n c x rfl (H.out.kept HB1.out) (by have := HN.out; omega) HB1.out.size ?_; intro v6 w6 hp; have HO6 : Hid (w6.ownsRow w.heap.size 5 1 v6 (0 + n) (x.map B)) := Lib.hid hp.own; have HB6 := Lib.hid (hp.below HO.out HB1.out (Nat.le_refl _) HB1.out.size); clear hp))
 go_ret
 have h9 := HO6.out
 rw [Nat.zero_add] at h9
 exact ⟨_, rfl, RW.of_own h9, HB6.out⟩

theorem BS.sub {w : World} {g o n c : Nat} {x : List UInt8} (h : BS w (some ⟨g, o, none⟩) n c x) {lo hi : Nat} (h1 : lo ≤ hi) (h2 : hi ≤ n) : BS w (some ⟨g, o + lo, none⟩) (hi - lo) (c - lo) ((x.drop lo).take (hi - lo)) := by
 have hl := h.1
 refine ⟨by rw [List.length_take, List.length_drop]; omega, by have := h.2.1; omega, by have := h.2.2.1; omega, fun k hk => ⟨g, o + lo, rfl, ?_⟩⟩
 obtain ⟨g', o', e, hc⟩ := h.2.2.2 (lo + k) (by omega)
 cases e
 show w.cell? ⟨g, o + lo + k, none⟩ = some (B (gB ((x.drop lo).take (hi - lo)) k))
 rw [gB_eq (by rw [List.length_take, List.length_drop]; omega), List.getElem_take, List.getElem_drop, Nat.add_assoc]
 have hc : w.cell? ⟨g, o + (lo + k), none⟩ = some (B (gB x (lo + k))) := hc
 rw [gB_eq (by omega)] at hc
 exact hc

end Go.Proofs.YtfcakjpljjnjnaaGreatDoor
/- challenge.Prove and the reference's: the proofs of the spots. -/
namespace Go.Proofs.YtfcakjpljjnjnaaGreatDoor
open Go Go.RowKit Gf Sha

/-- v holds the list L; whatever turns in v's own block, the parts read on. -/
def OLn {α : Type} (R : Rdg α) (s : Nat) (te : TypeId) (base : Nat) (w : World) (v : Value) (L : List α) : Prop :=
 ∃ css : List (List Value), css.length = L.length ∧ (∀ cs ∈ css, cs.length = s) ∧ (∀ w', Kp (fun b => v.ownBlock = some b) w w' → ∀ k (h : k < L.length) (h' : k < css.length), R w' css[k] L[k]) ∧ RW w te s v L.length css.flatten ∧ ∀ b, v.ownBlock = some b → base ≤ b
section
variable {α : Type} {R : Rdg α} {s base : Nat} {te : TypeId} {w w' : World} {v v' : Value} {L : List α}
theorem OLn.nil' {g : Nat} (R : Rdg α) (s : Nat) (h : BL w g te []) (hg : base ≤ g) : OLn R s te base w (.slice (some ⟨g, 0, none⟩) 0 0) [] :=
 ⟨[], rfl, (fun _ h => by cases h), (fun _ _ k h => absurd h (by simp)), RW.of_blk h (by simp) (by decide), (fun b hb => by cases hb; exact hg)⟩
theorem Kp.before {S : Nat → Prop} {w w1 w2 : World} (h : Below w.heap.size w w1) (k : Kp S w1 w2) : Kp S w w2 := (Kp.of_below h).trans k
theorem OLn.kept (h : OLn R s te base w v L) (hb : Below w.heap.size w w') : OLn R s te base w' v L :=
 let ⟨css, h1, h2, h3, h4, h5⟩ := h; ⟨css, h1, h2, fun w'' hk => h3 w'' (Kp.before hb hk), h4.kept hb, h5⟩
theorem OLn.push {n : Nat} {css : List (List Value)} (hl : css.length = L.length) (h2 : ∀ cs ∈ css, cs.length = s) (h3 : ∀ w', Kp (fun b => v.ownBlock = some b) w w' → ∀ k (h : k < L.length) (h' : k < css.length), R w' css[k] L[k]) (h5 : ∀ b, v.ownBlock = some b → base ≤ b) (hn : L.length = n)
  {x : α} {xs : List Value} (hxs : xs.length = s) (hx : ∀ w', Kp (fun b => v.ownBlock = some b) w w' → R w' xs x) (hw : base ≤ w.heap.size) (ap : AppR w te s v n 1 css.flatten xs v' w') : OLn R s te base w' v' (L ++ [x]) := by
 have hk : ∀ w'', Kp (fun b => v'.ownBlock = some b) w' w'' → Kp (fun b => v.ownBlock = some b) w w'' := fun w'' h => ap.kp.after h (fun i hi e => (ap.own i e).elim id (fun h => absurd h (by omega)))
 refine ⟨css ++ [xs], by simp [hl], fun cs hcs => ?_, fun w'' hk'' k hk1 hk2 => ?_, ?_, fun b hb => (ap.own b hb).elim (h5 b) (fun h => Nat.le_trans hw h)⟩
 ·
  rcases List.mem_append.1 hcs with h | h
  ·
   exact h2 cs h
  ·
   rw [List.mem_singleton.1 h]; exact hxs
 ·
  by_cases hlt : k < L.length
  ·
   rw [List.getElem_append_left (by omega), List.getElem_append_left hlt]; exact h3 w'' (hk w'' hk'') k hlt (by omega)
  ·
   have e : k = L.length := by simp at hk1; omega
   subst e
   rw [List.getElem_append_right (by omega), List.getElem_append_right (by omega)]
   simp only [hl, Nat.sub_self, List.getElem_cons_zero]
   exact hx w'' (hk w'' hk'')
 ·
  have := ap.row
  rw [List.flatten_append, List.flatten_cons, List.flatten_nil, List.append_nil, List.length_append, hn]
  exact this
theorem OLn.ls {b : Nat} (h : OLn R s te base w v L) (hl : L.length * b ≤ lim) : ∃ A c, v = .slice A L.length c ∧ LS R s b w A L.length c L := by
 obtain ⟨css, h1, h2, h3, h4, h5⟩ := h
 obtain ⟨A, c, rfl, hc⟩ := h4.form
 refine ⟨A, c, rfl, rfl, hc, hl, fun k hk => ?_⟩
 obtain ⟨g, o, c', e, _, hat⟩ := h4.at_ (by omega)
 cases e
 have hk' : k < css.length := by omega
 exact ⟨g, o, css[k], rfl, at_flatten h2 hat hk', h3 w (Kp.refl _ _) k hk hk'⟩
end

end Go.Proofs.YtfcakjpljjnjnaaGreatDoor
/- challenge.Prove. -/
namespace Go.Proofs.YtfcakjpljjnjnaaGreatDoor
open Go Go.RowKit Gf Sha

/-- Block g holds the first of n elements, zeros behind them; whatever turns in it, the parts read on. -/
def BLn {α : Type} (R : Rdg α) (s : Nat) (te : TypeId) (z : List Value) (n : Nat) (w : World) (g : Nat) (L : List α) : Prop :=
 ∃ css : List (List Value), css.length = L.length ∧ (∀ cs ∈ css, cs.length = s) ∧ (∀ w', Kp (· = g) w w' → ∀ k (h : k < L.length) (h' : k < css.length), R w' css[k] L[k]) ∧ L.length ≤ n ∧ BL w g te (css.flatten ++ (List.replicate (n - L.length) ()).flatMap fun _ => z)
section
variable {α : Type} {R : Rdg α} {s n g : Nat} {te : TypeId} {z : List Value} {w w' : World} {L : List α}
theorem BLn.nil (R : Rdg α) (s : Nat) (h : BL w g te ((List.replicate n ()).flatMap fun _ => z)) : BLn R s te z n w g [] :=
 ⟨[], rfl, (fun _ h => by cases h), (fun _ _ k h => absurd h (by simp)), Nat.zero_le _, by simpa using h⟩
theorem BLn.kept (h : BLn R s te z n w g L) (hb : Below w.heap.size w w') : BLn R s te z n w' g L :=
 let ⟨css, h1, h2, h3, h4, h5⟩ := h; ⟨css, h1, h2, fun w'' hk => h3 w'' (Kp.before hb hk), h4, h5.kept hb⟩
theorem BLn.blk (h : BLn R s te z n w g L) (hz : z.length = s) : ∃ l, BL w g te l ∧ l.length = n * s := by
 obtain ⟨css, h1, h2, h3, h4, h5⟩ := h
 refine ⟨_, h5, ?_⟩
 rw [List.length_append, flatten_len h2, flat_length (s := s) (fun _ => hz), List.length_replicate, h1, ← Nat.add_mul]
 congr 1; omega
/-- One more laid. -/
theorem BLn.put {x : α} {xs : List Value} (h : BLn R s te z n w g L) (hz : z.length = s) (hlt : L.length < n) (hxs : xs.length = s) (hx : ∀ w', Kp (· = g) w w' → R w' xs x) {l : List Value} (hl : BL w g te l)
  (hw : BL w' g te (splice l (L.length * s) xs)) (hk : Kp (· = g) w w') : BLn R s te z n w' g (L ++ [x]) := by
 obtain ⟨css, h1, h2, h3, h4, h5⟩ := h
 have e : l = css.flatten ++ (List.replicate (n - L.length) ()).flatMap fun _ => z := by
  have := hl.symm.trans h5
  injection this with this
  injection this with this
  have := congrArg Array.toList this
  simpa using this
 subst e
 obtain ⟨j, hj⟩ : ∃ j, n - L.length = j + 1 := ⟨n - L.length - 1, by omega⟩
 refine ⟨css ++ [xs], by simp [h1], fun cs hcs => ?_, fun w'' hk'' k hk1 hk2 => ?_, by simp; omega, ?_⟩
 ·
  rcases List.mem_append.1 hcs with h | h
  ·
   exact h2 cs h
  ·
   rw [List.mem_singleton.1 h]; exact hxs
 ·
  by_cases hlt' : k < L.length
  ·
   rw [List.getElem_append_left (by omega), List.getElem_append_left hlt']; exact h3 w'' (hk.trans hk'') k hlt' (by omega)
  ·
   have e : k = L.length := by simp at hk1; omega
   subst e
   rw [List.getElem_append_right (by omega), List.getElem_append_right (by omega)]
   simp only [h1, Nat.sub_self, List.getElem_cons_zero]
   exact hx w'' (hk.trans hk'')
 ·
  rw [hj, List.replicate_succ, List.flatMap_cons, ← List.append_assoc, splice_mid _ _ _ _ _ (by rw [flatten_len h2, h1]) (by rw [hxs, hz])] at hw
  rw [List.flatten_append, List.flatten_cons, List.flatten_nil, List.append_nil, List.length_append, List.length_singleton, show n - (L.length + 1) = j by omega]
  exact hw
theorem BLn.ls {b : Nat} (h : BLn R s te z n w g L) (hl : L.length = n) (hb : n * b ≤ lim) : LS R s b w (some ⟨g, 0, none⟩) n n L := by
 obtain ⟨css, h1, h2, h3, h4, h5⟩ := h
 rw [hl, Nat.sub_self, List.replicate_zero, List.flatMap_nil, List.append_nil] at h5
 refine ⟨hl, Nat.le_refl _, hb, fun k hk => ?_⟩
 have hk' : k < css.length := by omega
 refine ⟨g, 0, css[k], rfl, at_flatten h2 h5.all hk', h3 w (Kp.refl _ _) k hk hk'⟩
end

end Go.Proofs.YtfcakjpljjnjnaaGreatDoor
/- Rows, lists of strings: what speaks of no chapter. -/
namespace Go.Proofs.YtfcakjpljjnjnaaGreatDoor
open Go Go.RowKit Gf Sha

section
variable {P : Program} {w : World} {o : Oper} {a : Act} {Q : Exit → Act → World → Prop} {K : Act → World → Prop}
end

section
variable {w w' : World}
end
section
variable {w : World} {o : Oper} {a : Act} {Q : Exit → Act → World → Prop} {K : Act → World → Prop}
end
section
variable {P : Program} (w : World) {o : Oper} {a : Act} {Q : Exit → Act → World → Prop} {K : Act → World → Prop}
end
section
variable {α : Type} {R : Rdg α} {s base : Nat} {te : TypeId} {w w' : World} {v v' : Value} {L : List α}
end

section
variable {α : Type} {R : Rdg α} {s n g : Nat} {te : TypeId} {z : List Value} {w w' : World} {L : List α}
end

end Go.Proofs.YtfcakjpljjnjnaaGreatDoor
/- Garbage collection, plainly: refs, stripes, situations, steps, and what the definition says of them. No program in sight. -/
namespace Go.Proofs.YtfcakjpljjnjnaaGreatDoor
open Go Gf

/-- A ref: its name, its generation, its size. -/
abbrev Rf := List UInt8 × Int × Int
structure Sp where
 id : List UInt8
 v : Int
 b : Int
 d : Int
 t : Int
 refs : List Rf
/-- A piece: its stripe, its index. -/
abbrev Pc := List UInt8 × Int
structure Si where
 sp : List Sp
 need : List (List UInt8)
 cond : List (List UInt8)
 drop : List (List UInt8)
 carr : List (List UInt8)
 held : List Pc
 pct : Int
def hasB (m : List (List UInt8)) (s : List UInt8) : Bool := m.any fun x => x == s
section
variable {α : Type} {l : List α} {p : α → Bool} {k : Nat} {x : α}
theorem take_next (h : l[k]? = some x) : l.take (k + 1) = l.take k ++ [x] := by rw [List.take_add_one, h]; rfl
theorem any_step (h : l[k]? = some x) (h1 : (l.take k).any p = false) (h2 : p x = false) : (l.take (k + 1)).any p = false := by
 rw [take_next h, List.any_append, h1]; simp [h2]
theorem any_hit (h : l[k]? = some x) (h2 : p x = true) : l.any p = true := List.any_eq_true.2 ⟨x, List.mem_of_getElem? h, h2⟩
theorem all_step (h : l[k]? = some x) (h1 : (l.take k).all p = true) (h2 : p x = true) : (l.take (k + 1)).all p = true := by
 rw [take_next h, List.all_append, h1]; simp [h2]
theorem all_miss (h : l[k]? = some x) (h2 : p x = false) : l.all p = false := List.all_eq_false.2 ⟨x, List.mem_of_getElem? h, by simp [h2]⟩
theorem take_end (h : l.length = k) : l.take k = l := by rw [← h, List.take_length]
end
def inB (s : Sp) (n : List UInt8) : Bool := s.refs.any fun r => r.1 == n
def wanted (x : Si) (s : Sp) : List Rf := s.refs.filter fun r => hasB x.need r.1
def sizes (l : List Rf) : Int := l.foldl (fun n r => n + r.2.2) 0
end Go.Proofs.YtfcakjpljjnjnaaGreatDoor
/- How refs, stripes, pieces, situations and steps lie in memory; arguments of these types opened. -/
namespace Go.Proofs.YtfcakjpljjnjnaaGreatDoor
open Go Go.ChangeShapes Go.WideShapes Go.ChangeAt Go.RowKit Gf Sha

/-- An int's range. -/
def wfI (z : Int) : Prop := (Lit.int .i64 z).wf = true
def okRf (r : Rf) : Prop := r.1.length ≤ reachBytes ∧ wfI r.2.1 ∧ wfI r.2.2
def okPc (p : Pc) : Prop := p.1.length ≤ reachBytes ∧ wfI p.2
def rfC (r : Rf) : List Value := [.string (strB r.1), .int .i64 r.2.1, .int .i64 r.2.2]
def pcC (p : Pc) : List Value := [.string (strB p.1), .int .i64 p.2]
def rRf : Rdg Rf := fun _ cs r => cs = rfC r ∧ okRf r
def rPc : Rdg Pc := fun _ cs p => cs = pcC p ∧ okPc p
def rSp : Rdg Sp := fun w cs s => ∃ A n c, cs = [.string (strB s.id), .int .i64 s.v, .int .i64 s.b, .int .i64 s.d, .int .i64 s.t, .slice A n c] ∧ LS rRf 3 32 w A n c s.refs ∧ s.id.length ≤ reachBytes ∧ wfI s.v ∧ wfI s.b ∧ wfI s.d ∧ wfI s.t
structure SiOk (w : World) (a0 : Option Addr) (n0 c0 : Nat) (a1 : Option Addr) (n1 c1 : Nat) (a2 : Option Addr) (n2 c2 : Nat) (a3 : Option Addr) (n3 c3 : Nat) (a4 : Option Addr) (n4 c4 : Nat) (a5 : Option Addr) (n5 c5 : Nat) (x : Si) : Prop where
 sp : LS rSp 6 72 w a0 n0 c0 x.sp
 need : LS rStr 1 16 w a1 n1 c1 x.need
 cond : LS rStr 1 16 w a2 n2 c2 x.cond
 drop : LS rStr 1 16 w a3 n3 c3 x.drop
 carr : LS rStr 1 16 w a4 n4 c4 x.carr
 held : LS rPc 2 24 w a5 n5 c5 x.held
 pct : wfI x.pct
theorem stay_rf : Stay rRf := fun _ _ _ _ h _ => h
theorem stay_pc : Stay rPc := fun _ _ _ _ h _ => h
theorem stay_sp : Stay rSp := fun _ _ _ _ ⟨A, n, c, e, h, r⟩ hb => ⟨A, n, c, e, h.kept stay_rf hb, r⟩
theorem SiOk.kept {w w' : World} {a0 a1 a2 a3 a4 a5 : Option Addr} {n0 c0 n1 c1 n2 c2 n3 c3 n4 c4 n5 c5 : Nat} {x : Si} (h : SiOk w a0 n0 c0 a1 n1 c1 a2 n2 c2 a3 n3 c3 a4 n4 c4 a5 n5 c5 x) (hb : Below w.heap.size w w') : SiOk w' a0 n0 c0 a1 n1 c1 a2 n2 c2 a3 n3 c3 a4 n4 c4 a5 n5 c5 x :=
 ⟨h.sp.kept stay_sp hb, h.need.kept stay_str hb, h.cond.kept stay_str hb, h.drop.kept stay_str hb, h.carr.kept stay_str hb, h.held.kept stay_pc hb, h.pct⟩
theorem SiOk.drew {w : World} {a0 a1 a2 a3 a4 a5 : Option Addr} {n0 c0 n1 c1 n2 c2 n3 c3 n4 c4 n5 c5 : Nat} {x : Si} (h : SiOk w a0 n0 c0 a1 n1 c1 a2 n2 c2 a3 n3 c3 a4 n4 c4 a5 n5 c5 x) : SiOk w.drew a0 n0 c0 a1 n1 c1 a2 n2 c2 a3 n3 c3 a4 n4 c4 a5 n5 c5 x := h.kept (Below.refl _ _).drew
abbrev spC (s : Sp) (A : Option Addr) (n c : Nat) : List Value := [.string (strB s.id), .int .i64 s.v, .int .i64 s.b, .int .i64 s.d, .int .i64 s.t, .slice A n c]
abbrev rfL (r : Rf) : List Value := [.string (strB r.1), .int .i64 r.2.1, .int .i64 r.2.2]
abbrev pcL (p : Pc) : List Value := [.string (strB p.1), .int .i64 p.2]
def rfZ : List Value := [.string (strB []), .int .i64 0, .int .i64 0]
def spZ : List Value := [.string (strB []), .int .i64 0, .int .i64 0, .int .i64 0, .int .i64 0, .slice none 0 0]
theorem rfZero : (Tryz.prog.info? 44).map (·.zero) = some (some (.agg rfZ.toArray)) := by kernel_rfl
theorem spZero : (Tryz.prog.info? 26).map (·.zero) = some (some (.agg spZ.toArray)) := by kernel_rfl
theorem infoRf : (Tryz.prog.info? 44).map (fun i => (i.zero, i.size, i.bytes)) = some (some (.agg rfZ.toArray), 3, 32) := by kernel_rfl
theorem one_rf (r : Rf) : ∀ v ∈ rfL r, v.oneCell' = true := fun v hv => by
 simp only [List.mem_cons, List.not_mem_nil, or_false] at hv
 rcases hv with rfl | rfl | rfl <;> rfl
theorem one_val (vs : List Value) (h : vs.all (fun v => v.oneCell') = true) : ∀ v ∈ vs, v.oneCell' = true := fun v hv => by
 rw [List.all_eq_true] at h; exact h v hv
end Go.Proofs.YtfcakjpljjnjnaaGreatDoor
/- The reference's Has, In, Live, Covered, Wanted, bytes. -/
namespace Go.Proofs.YtfcakjpljjnjnaaGreatDoor
open Go Go.RowKit Gf Sha

theorem LS.len_le {α : Type} {R : Rdg α} {s b n c : Nat} {w : World} {A : Option Addr} {L : List α} (h : LS R s b w A n c L) : n * b ≤ 140737488355328 := by have := h.2.2.1; unfold lim at this; exact this
section
variable {P : Program} (w : World) {ops : Array Oper} {rest : List Oper} {o : Oper} {a : Act} {Q : Exit → Act → World → Prop}
theorem wpList_want (hw : Region.wanted o (yielded ops a.tmps) = true)
  (h : ∀ K : Act → World → Prop, (∀ a w, wpList P ops Q rest a w → K a w) → o.wp P a w K Q) : wpList P ops Q (o :: rest) a w :=
 wpList_step fun K hK => by rw [if_pos hw]; exact h K hK
/-- A guarded load of many cells whose guard holds. -/
theorem wpList_loadvg (hw : Region.wanted o (yielded ops a.tmps) = true) (t : TypeId) (x : Operand) (hop : o.op = .load t x) (n : Nat) (ht : Agg P t n = true) (g p : Nat) (ms : List Value) (hx : a.eval x = .pointer (some ⟨g, p, none⟩))
  (hm : At w g p ms) (hn : ms.length = n) (h : wpList P ops Q rest (a.put o.dst (.agg ms.toArray)) w) : wpList P ops Q (o :: rest) a w :=
 wpList_want w hw fun K hK => by
  unfold Oper.wp execOp
  simp only [hop, hx]
  simp [run_loadAt w ht hm hn, Result.andThen]
  exact hK _ _ h
end

end Go.Proofs.YtfcakjpljjnjnaaGreatDoor
/- The reference's In, Live, Covered, Wanted, bytes. -/
namespace Go.Proofs.YtfcakjpljjnjnaaGreatDoor
open Go Go.RowKit Gf Sha

end Go.Proofs.YtfcakjpljjnjnaaGreatDoor
/- The reference's Live, Covered, Wanted, bytes. -/
namespace Go.Proofs.YtfcakjpljjnjnaaGreatDoor
open Go Go.RowKit Gf Sha

end Go.Proofs.YtfcakjpljjnjnaaGreatDoor
