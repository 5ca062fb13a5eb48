/- Several texts in one: Mem, Rr, Sha2. -/
import Derived.Below
import Derived.Laws.OwnMore
import Derived.Deep.Draws
import Derived.Laws.Rows
import Derived.Test.YtheijpjfpaghfaaGreatDoorC1
import Derived.Deep.QuietTactic
import Derived.BigQuiet
/- Words for memory: a block known whole, slices of bytes, of ints and of byte slices that read as lists. No program in sight. -/
namespace Go.Proofs.YtheijpjfpaghfaaGreatDoor
open Go Go.RowKit Gf

/-- Block g is just the cells cs of element type t, none frozen. -/
def Blk (w : World) (g : Nat) (t : TypeId) (cs : Array Value) : Prop := w.heap[g]? = some (.cells cs t (0, 0))

section
variable {w w' : World} {g : Nat} {t : TypeId} {cs : Array Value}
theorem Blk.lt (h : Blk w g t cs) : g < w.heap.size := by
 rcases Nat.lt_or_ge g w.heap.size with hlt | hge
 ·
  exact hlt
 ·
  unfold Blk at h; rw [Array.getElem?_eq_none hge] at h; cases h
theorem Blk.cell (h : Blk w g t cs) (i : Nat) : w.cell? ⟨g, i, none⟩ = cs[i]? := cell_of_row w g i cs t (0, 0) h
theorem Blk.frozen (h : Blk w g t cs) (i : Nat) : w.frozen? ⟨g, i, none⟩ = false := by
 unfold Blk at h
 simp [World.frozen?, h]
theorem Blk.new (w : World) (t : TypeId) (cs : Array Value) : Blk (w.alloc (.cells cs t)) w.heap.size t cs := heap_alloc_new w _
theorem Blk.drew (h : Blk w g t cs) : Blk w.drew g t cs := h
theorem Blk.drewN (h : Blk w g t cs) (n : Nat) : Blk (w.drewN n) g t cs := h
theorem Blk.alloc (h : Blk w g t cs) (o : Obj) : Blk (w.alloc o) g t cs := (Below.heap_alloc w o g h.lt).trans h
theorem Blk.set_ (h : Blk w g t cs) (i : Nat) (u : Value) : Blk (w.setCell ⟨g, i, none⟩ u) g t (cs.setIfInBounds i u) := by
 unfold Blk at h ⊢
 simp [World.setCell, Array.getElem?_modify, h]
theorem Blk.far (h : Blk w g t cs) {p : Addr} (hp : g ≠ p.block) (u : Value) : Blk (w.setCell p u) g t cs := (Below.heap_setCell w p u g hp).trans h
theorem Blk.below {B : Nat} (h : Blk w g t cs) (hb : Below B w w') (hg : g < B) : Blk w' g t cs := (hb.block g hg).trans h
theorem Blk.kept (h : Blk w g t cs) (hb : Below w.heap.size w w') : Blk w' g t cs := (hb.block g h.lt).trans h
theorem Blk.inj {t' : TypeId} {cs' : Array Value} (h : Blk w g t cs) (h' : Blk w g t' cs') : cs = cs' := by
 unfold Blk at h h'
 rw [h] at h'
 injection h' with h'
 injection h' with h1
end

/-- A cell that is there lies below the heap's size. -/
theorem cell_lt {w : World} {p : Addr} {v : Value} (h : w.cell? p = some v) : p.block < w.heap.size := by
 rcases Nat.lt_or_ge p.block w.heap.size with hlt | hge
 ·
  exact hlt
 ·
  unfold World.cell? at h; rw [Array.getElem?_eq_none hge] at h; cases h

/-- What was there is there. -/
theorem cell_kept {w w' : World} {p : Addr} {v : Value} (hb : Below w.heap.size w w') (h : w.cell? p = some v) : w'.cell? p = some v :=
 (hb.cell (cell_lt h)).trans h

/-- A call's own frame, twice. -/
theorem below_then {w w1 w2 : World} (h : Below w.heap.size w w1) (k : Below w1.heap.size w1 w2) : Below w.heap.size w w2 :=
 h.trans (k.mono h.size)
theorem below_thenB {B : Nat} {w w1 w2 : World} (h : Below B w w1) (hB : B ≤ w1.heap.size) (k : Below w1.heap.size w1 w2) : Below B w w2 :=
 h.trans (k.mono hB)

/-- Element k of a list of bytes, of rows, of ints: plain defs, so that the walk's simp does not respell them. -/
def gB (l : List UInt8) (k : Nat) : UInt8 := l.getD k 0
def gR (m : List (List UInt8)) (k : Nat) : List UInt8 := m.getD k []
def gI (z : List Int) (k : Nat) : Int := z.getD k 0
theorem gB_eq {l : List UInt8} {k : Nat} (h : k < l.length) : gB l k = l[k] := by simp [gB, List.getD, List.getElem?_eq_getElem h]
theorem gR_eq {m : List (List UInt8)} {k : Nat} (h : k < m.length) : gR m k = m[k] := by simp [gR, List.getD, List.getElem?_eq_getElem h]
theorem gR_set_self {m : List (List UInt8)} {k : Nat} (h : k < m.length) (l : List UInt8) : gR (m.set k l) k = l := by
 rw [gR, List.getD_eq_getElem?_getD, List.getElem?_set_self h, Option.getD_some]
theorem gR_set_ne {m : List (List UInt8)} {k j : Nat} (h : k ≠ j) (l : List UInt8) : gR (m.set k l) j = gR m j := by
 rw [gR, gR, List.getD_eq_getElem?_getD, List.getElem?_set_ne h, ← List.getD_eq_getElem?_getD]

/-- Of what was there, only blocks in S may have turned. -/
structure Kp (S : Nat → Prop) (w w' : World) : Prop where
 os : w'.os = w.os
 tape : w'.tape = w.tape
 output : w'.output = w.output
 size : w.heap.size ≤ w'.heap.size
 block : ∀ k, k < w.heap.size → ¬ S k → w'.heap[k]? = w.heap[k]?

section
variable {S S' : Nat → Prop} {w w1 w2 : World}
theorem Kp.refl (S : Nat → Prop) (w : World) : Kp S w w := ⟨rfl, rfl, rfl, Nat.le_refl _, fun _ _ _ => rfl⟩
theorem Kp.mono (h : Kp S w w1) (hs : ∀ k, k < w.heap.size → S k → S' k) : Kp S' w w1 := ⟨h.os, h.tape, h.output, h.size, fun k hk hn => h.block k hk (fun hS => hn (hs k hk hS))⟩
theorem Kp.trans (h : Kp S w w1) (k : Kp S w1 w2) : Kp S w w2 :=
 ⟨k.os.trans h.os, k.tape.trans h.tape, k.output.trans h.output, Nat.le_trans h.size k.size, fun i hi hn => (k.block i (Nat.lt_of_lt_of_le hi h.size) hn).trans (h.block i hi hn)⟩
theorem Kp.of_below (h : Below w.heap.size w w1) : Kp S w w1 := ⟨h.os, h.tape, h.output, h.size, fun i hi _ => h.block i hi⟩
theorem Kp.below (h : Kp S w w1) {b : Nat} (hb : b ≤ w.heap.size) (hs : ∀ k, S k → b ≤ k) : Below b w w1 :=
 ⟨h.os, h.tape, h.output, h.size, fun i hi => h.block i (Nat.lt_of_lt_of_le hi hb) (fun hS => by have := hs i hS; omega)⟩
theorem Kp.then (h : Kp S w w1) (k : Below w1.heap.size w1 w2) : Kp S w w2 := h.trans (Kp.of_below k)
theorem Kp.drew (h : Kp S w w1) : Kp S w w1.drew := ⟨h.os, h.tape, h.output, h.size, h.block⟩
theorem Kp.drewN (h : Kp S w w1) (n : Nat) : Kp S w (w1.drewN n) := ⟨h.os, h.tape, h.output, h.size, h.block⟩
theorem Kp.alloc (h : Kp S w w1) (o : Obj) : Kp S w (w1.alloc o) :=
 h.trans ⟨rfl, rfl, rfl, by simp, fun i hi _ => Below.heap_alloc w1 o i hi⟩
theorem Kp.set (h : Kp S w w1) {p : Addr} (hp : S p.block ∨ w.heap.size ≤ p.block) (v : Value) : Kp S w (w1.setCell p v) :=
 ⟨h.os, h.tape, h.output, by rw [World.size_setCell]; exact h.size, fun i hi hn => (Below.heap_setCell w1 p v i (fun e => by
  subst e
  rcases hp with hp | hp
  ·
   exact hn hp
  ·
   omega)).trans (h.block i hi hn)⟩
theorem Kp.blk {g : Nat} {t : TypeId} {cs : Array Value} (h : Kp S w w1) (hb : Blk w g t cs) (hn : ¬ S g) : Blk w1 g t cs := (h.block g hb.lt hn).trans hb
theorem Kp.cell (h : Kp S w w1) {p : Addr} {v : Value} (hc : w.cell? p = some v) (hn : ¬ S p.block) : w1.cell? p = some v :=
 (World.cell?_of_block (h.block p.block (cell_lt hc) hn)).trans hc
theorem Kp.own (h : Kp S w w1) {base : Nat} {e : TypeId} {v : Value} {n : Nat} {xs : List Value} (ho : w.ownsRow base e 1 v n xs) (hn : ∀ g, v.ownBlock = some g → ¬ S g) : w1.ownsRow base e 1 v n xs := by
 refine ⟨ho.1, ?_⟩
 rcases ho.2 with h0 | ⟨g, cap, cur, rfl, hb, hh, hr⟩
 ·
  exact .inl h0
 ·
  refine .inr ⟨g, cap, cur, rfl, hb, ?_, hr⟩
  have hlt : g < w.heap.size := by
   rcases Nat.lt_or_ge g w.heap.size with h1 | h1
   ·
    exact h1
   ·
    rw [Array.getElem?_eq_none h1] at hh; cases hh
  exact (h.block g hlt (hn g rfl)).trans hh
theorem Kp.grown (h : Kp S w w1) {row : Option Nat} (hg : w1.grownBy w2 row) (hr : ∀ k, row = some k → S k ∨ w.heap.size ≤ k) : Kp S w w2 :=
 ⟨hg.os.trans h.os, hg.tape.trans h.tape, hg.output.trans h.output, Nat.le_trans h.size hg.size, fun i hi hn =>
  (hg.block i (Nat.lt_of_lt_of_le hi h.size) (fun e => by
   rcases hr i e.symm with h1 | h1
   ·
    exact hn h1
   ·
    omega)).trans (h.block i hi hn)⟩
end

/-- The greatest capacity in bytes that a slice is let to have. -/
def lim : Nat := 140737488355328

/-- The slice value '.slice A n c' has the cells f 0, f 1, .. f (n - 1). -/
def Cells (w : World) (A : Option Addr) (n : Nat) (f : Nat → Value) : Prop :=
 ∀ k, k < n → ∃ g o, A = some ⟨g, o, none⟩ ∧ w.cell? ⟨g, o + k, none⟩ = some (f k)

theorem Cells.kept {w w' : World} {A : Option Addr} {n : Nat} {f : Nat → Value} (h : Cells w A n f) (hb : Below w.heap.size w w') : Cells w' A n f :=
 fun k hk => let ⟨g, o, e, hc⟩ := h k hk; ⟨g, o, e, cell_kept hb hc⟩
theorem Cells.drewN {w : World} {A : Option Addr} {n : Nat} {f : Nat → Value} (h : Cells w A n f) (k : Nat) : Cells (w.drewN k) A n f := h
/-- A store at a cell that holds another kind of value turns none of them. -/
theorem Cells.store {w : World} {A : Option Addr} {n : Nat} {f : Nat → Value} (h : Cells w A n f) {p : Addr} {u : Value} (hp : w.cell? p = some u) (hne : ∀ k, k < n → u ≠ f k) (v : Value) : Cells (w.setCell p v) A n f :=
 fun k hk => let ⟨g, o, e, hc⟩ := h k hk
  ⟨g, o, e, (World.cell?_setCell_other w p _ v (fun e' => by rw [← e', hp] at hc; injection hc with hc; exact hne k hk hc)).trans hc⟩

/-- Bytes. -/
def BS (w : World) (A : Option Addr) (n c : Nat) (l : List UInt8) : Prop :=
 l.length = n ∧ n ≤ c ∧ n ≤ lim ∧ Cells w A n (fun k => B (gB l k))
/-- Ints. -/
def IS (w : World) (A : Option Addr) (n c : Nat) (l : List Int) : Prop :=
 l.length = n ∧ n ≤ c ∧ n * 8 ≤ lim ∧ Cells w A n (fun k => .int .i64 (gI l k))
/-- Slices of bytes. -/
def MS (w : World) (A : Option Addr) (n c : Nat) (m : List (List UInt8)) : Prop :=
 m.length = n ∧ n ≤ c ∧ n * 24 ≤ lim ∧ ∀ k, k < n → ∃ g o A' n' c', A = some ⟨g, o, none⟩ ∧ w.cell? ⟨g, o + k, none⟩ = some (.slice A' n' c') ∧ BS w A' n' c' (gR m k)

section
variable {w w' : World} {A : Option Addr} {n c : Nat} {l : List UInt8} {m : List (List UInt8)} {z : List Int}
theorem BS.kept (h : BS w A n c l) (hb : Below w.heap.size w w') : BS w' A n c l := ⟨h.1, h.2.1, h.2.2.1, h.2.2.2.kept hb⟩
theorem BS.drew (h : BS w A n c l) : BS w.drew A n c l := h
theorem IS.drew (h : IS w A n c z) : IS w.drew A n c z := h
theorem MS.drew (h : MS w A n c m) : MS w.drew A n c m := h
theorem BS.drewN (h : BS w A n c l) (k : Nat) : BS (w.drewN k) A n c l := h
theorem IS.kept (h : IS w A n c z) (hb : Below w.heap.size w w') : IS w' A n c z := ⟨h.1, h.2.1, h.2.2.1, h.2.2.2.kept hb⟩
theorem MS.kept (h : MS w A n c m) (hb : Below w.heap.size w w') : MS w' A n c m :=
 ⟨h.1, h.2.1, h.2.2.1, fun k hk => let ⟨g, o, A', n', c', e, hc, hr⟩ := h.2.2.2 k hk; ⟨g, o, A', n', c', e, cell_kept hb hc, hr.kept hb⟩⟩
theorem BS.at_ (h : BS w A n c l) (hb : Below w.heap.size w w') {k : Nat} (hk : k < n) : ∃ g o, A = some ⟨g, o, none⟩ ∧ w'.cell? ⟨g, o + k, none⟩ = some (B (gB l k)) :=
 (h.kept hb).2.2.2 k hk
theorem IS.at_ (h : IS w A n c z) (hb : Below w.heap.size w w') {k : Nat} (hk : k < n) : ∃ g o, A = some ⟨g, o, none⟩ ∧ w'.cell? ⟨g, o + k, none⟩ = some (.int .i64 (gI z k)) :=
 (h.kept hb).2.2.2 k hk
theorem MS.at_ (h : MS w A n c m) (hb : Below w.heap.size w w') {k : Nat} (hk : k < n) :
  ∃ g o A' n' c', A = some ⟨g, o, none⟩ ∧ w'.cell? ⟨g, o + k, none⟩ = some (.slice A' n' c') ∧ BS w' A' n' c' (gR m k) :=
 (h.kept hb).2.2.2 k hk
theorem BS.len_le (h : BS w A n c l) : n ≤ 140737488355328 := by have := h.2.2.1; unfold lim at this; omega
theorem IS.len_le (h : IS w A n c z) : n * 8 ≤ 140737488355328 := by have := h.2.2.1; unfold lim at this; omega
theorem MS.len_le (h : MS w A n c m) : n * 24 ≤ 140737488355328 := by have := h.2.2.1; unfold lim at this; omega
theorem BS.nil : BS w none 0 0 [] := ⟨rfl, Nat.le_refl _, by decide, fun k hk => absurd hk (by omega)⟩
theorem IS.nil : IS w none 0 0 [] := ⟨rfl, Nat.le_refl _, by decide, fun k hk => absurd hk (by omega)⟩
theorem MS.nil : MS w none 0 0 [] := ⟨rfl, Nat.le_refl _, by decide, fun k hk => absurd hk (by omega)⟩
end

/-- A list of bytes as the cells of a block. -/
def row (l : List UInt8) : Array Value := (l.map B).toArray
theorem row_get (l : List UInt8) (k : Nat) (h : k < l.length) : (row l)[k]? = some (B (gB l k)) := by
 rw [gB_eq h]; simp [row, List.getElem?_eq_getElem h]
theorem BS.of_own {w : World} {base : Nat} {t : TypeId} {v : Value} {n : Nat} {l : List UInt8} (h : w.ownsRow base t 1 v n (l.map B)) (hn : n ≤ lim) : ∃ A c, v = .slice A n c ∧ BS w A n c l := by
 have hl : l.length = n := by have := h.1; simpa using this
 rcases h.2 with ⟨rfl, rfl⟩ | ⟨g, cap, cur, rfl, _, hh, hnc, _, hsz, htk⟩
 ·
  exact ⟨none, 0, rfl, hl, Nat.le_refl _, hn, fun k hk => absurd hk (by omega)⟩
 ·
  refine ⟨some ⟨g, 0, none⟩, cap, rfl, hl, hnc, hn, fun k hk => ⟨g, 0, rfl, ?_⟩⟩
  have hkl : k < l.length := by omega
  show _ = some (B (gB l k))
  rw [Nat.zero_add, h.cellAt k (by omega), gB_eq hkl]
  simp [List.getElem?_eq_getElem hkl]
def zeros (n : Nat) : List UInt8 := List.replicate n 0
/-- The first k elements mapped, the others 0. -/
def part (f : UInt8 → UInt8) (l : List UInt8) (k : Nat) : List UInt8 := (l.take k).map f ++ List.replicate (l.length - k) 0
/-- A block that is known whole, as a slice from its head. -/
theorem BS.of_blk {w : World} {g n : Nat} {t : TypeId} {l : List UInt8} (h : Blk w g t (row l)) (hn : l.length = n) (hl : n ≤ lim) : BS w (some ⟨g, 0, none⟩) n n l :=
 ⟨hn, Nat.le_refl _, hl, fun k hk => ⟨g, 0, rfl, by rw [Nat.zero_add, h.cell]; exact row_get l k (by omega)⟩⟩

/-- Block g holds slices that read as the rows of m. -/
def RowsBlk (w : World) (g : Nat) (t : TypeId) (cs : Array Value) (m : List (List UInt8)) : Prop :=
 Blk w g t cs ∧ m.length ≤ cs.size ∧ ∀ i, i < m.length → ∃ A n c, cs[i]? = some (.slice A n c) ∧ BS w A n c (gR m i)

section
variable {w w' : World} {g : Nat} {t : TypeId} {cs : Array Value} {m : List (List UInt8)}
theorem RowsBlk.kept (h : RowsBlk w g t cs m) (hb : Below w.heap.size w w') : RowsBlk w' g t cs m :=
 ⟨h.1.kept hb, h.2.1, fun i hi => let ⟨A, n, c, e, hr⟩ := h.2.2 i hi; ⟨A, n, c, e, hr.kept hb⟩⟩
theorem RowsBlk.drew (h : RowsBlk w g t cs m) : RowsBlk w.drew g t cs m := h
theorem RowsBlk.drewN (h : RowsBlk w g t cs m) (k : Nat) : RowsBlk (w.drewN k) g t cs m := h
theorem BS.store {A : Option Addr} {n c : Nat} {l : List UInt8} (h : BS w A n c l) {p : Addr} {B' : Option Addr} {n' c' : Nat} (hp : w.cell? p = some (.slice B' n' c')) (v : Value) : BS (w.setCell p v) A n c l :=
 ⟨h.1, h.2.1, h.2.2.1, h.2.2.2.store hp (fun k _ e => by cases e) v⟩
theorem BS.far {A : Option Addr} {n c : Nat} {l : List UInt8} (h : BS w A n c l) {p : Addr} (hp : ∀ g o, A = some ⟨g, o, none⟩ → g ≠ p.block) (v : Value) : BS (w.setCell p v) A n c l :=
 ⟨h.1, h.2.1, h.2.2.1, fun k hk => by
  obtain ⟨g, o, e, hc⟩ := h.2.2.2 k hk
  exact ⟨g, o, e, (World.cell?_setCell_other w p _ v (fun e' => hp g o e (by rw [e']))).trans hc⟩⟩
theorem RowsBlk.cell (h : RowsBlk w g t cs m) {i : Nat} (hi : i < m.length) : ∃ A n c, w.cell? ⟨g, i, none⟩ = some (.slice A n c) ∧ BS w A n c (gR m i) := by
 obtain ⟨A, n, c, e, hr⟩ := h.2.2 i hi
 exact ⟨A, n, c, by rw [h.1.cell]; exact e, hr⟩
theorem RowsBlk.set_ (h : RowsBlk w g t cs m) {i : Nat} (hi : i < m.length) {A : Option Addr} {n c : Nat} {l : List UInt8} (hl : BS w A n c l) :
  RowsBlk (w.setCell ⟨g, i, none⟩ (.slice A n c)) g t (cs.setIfInBounds i (.slice A n c)) (m.set i l) := by
 obtain ⟨A0, n0, c0, hc0, _⟩ := h.cell hi
 refine ⟨h.1.set_ i _, by simp [h.2.1], fun j hj => ?_⟩
 rw [List.length_set] at hj
 by_cases e : i = j
 ·
  subst e
  refine ⟨A, n, c, by rw [Array.getElem?_setIfInBounds_self_of_lt (by have := h.2.1; omega)], ?_⟩
  rw [gR_set_self hi]
  exact hl.store hc0 _
 ·
  obtain ⟨A1, n1, c1, e1, hr⟩ := h.2.2 j hj
  refine ⟨A1, n1, c1, by rw [Array.getElem?_setIfInBounds_ne e]; exact e1, ?_⟩
  rw [gR_set_ne e]
  exact hr.store hc0 _
theorem RowsBlk.far (h : RowsBlk w g t cs m) {p : Addr} (hp : g ≠ p.block) {u : Value} (hu : w.cell? p = some u) (hne : ∀ b, u ≠ B b) (v : Value) : RowsBlk (w.setCell p v) g t cs m :=
 ⟨h.1.far hp v, h.2.1, fun i hi => let ⟨A, n, c, e, hr⟩ := h.2.2 i hi; ⟨A, n, c, e, hr.1, hr.2.1, hr.2.2.1, hr.2.2.2.store hu (fun _ _ => hne _) v⟩⟩
end

end Go.Proofs.YtheijpjfpaghfaaGreatDoor
/- Contract of ref03.rotr at the rotations that SHA-256 takes. -/
namespace Go.Proofs.YtheijpjfpaghfaaGreatDoor
open Go.RowKit Gf Sha

theorem rot_w' (x : UInt32) (n : Nat) (h0 : 0 < n) (h : n < 32) : bits .or .u32 (wv x / 2 ^ n) (wv x * 2 ^ (32 - n) % 4294967296) = wv (rr x (UInt32.ofNat n)) := by
 rw [← rot_w x n h0 h, shl_w x (32 - n) (by omega), shr_w x n h, or_w, or_w, UInt32.or_comm]

theorem orr_2 (x : UInt32) : bits .or .u32 (wv x / 4) (wv x * 1073741824 % 4294967296) = wv (rr x 2) := rot_w' x 2 (by decide) (by decide)
theorem orr_6 (x : UInt32) : bits .or .u32 (wv x / 64) (wv x * 67108864 % 4294967296) = wv (rr x 6) := rot_w' x 6 (by decide) (by decide)
theorem orr_7 (x : UInt32) : bits .or .u32 (wv x / 128) (wv x * 33554432 % 4294967296) = wv (rr x 7) := rot_w' x 7 (by decide) (by decide)
theorem orr_11 (x : UInt32) : bits .or .u32 (wv x / 2048) (wv x * 2097152 % 4294967296) = wv (rr x 11) := rot_w' x 11 (by decide) (by decide)
theorem orr_13 (x : UInt32) : bits .or .u32 (wv x / 8192) (wv x * 524288 % 4294967296) = wv (rr x 13) := rot_w' x 13 (by decide) (by decide)
theorem orr_17 (x : UInt32) : bits .or .u32 (wv x / 131072) (wv x * 32768 % 4294967296) = wv (rr x 17) := rot_w' x 17 (by decide) (by decide)
theorem orr_18 (x : UInt32) : bits .or .u32 (wv x / 262144) (wv x * 16384 % 4294967296) = wv (rr x 18) := rot_w' x 18 (by decide) (by decide)
theorem orr_19 (x : UInt32) : bits .or .u32 (wv x / 524288) (wv x * 8192 % 4294967296) = wv (rr x 19) := rot_w' x 19 (by decide) (by decide)
theorem orr_22 (x : UInt32) : bits .or .u32 (wv x / 4194304) (wv x * 1024 % 4294967296) = wv (rr x 22) := rot_w' x 22 (by decide) (by decide)
theorem orr_25 (x : UInt32) : bits .or .u32 (wv x / 33554432) (wv x * 128 % 4294967296) = wv (rr x 25) := rot_w' x 25 (by decide) (by decide)
attribute [local go_sem] orr_2 orr_6 orr_7 orr_11 orr_13 orr_17 orr_18 orr_19 orr_22 orr_25
end Go.Proofs.YtheijpjfpaghfaaGreatDoor
/- The schedule of SHA-256 word by word, as cells. No program in sight. -/
namespace Go.Proofs.YtheijpjfpaghfaaGreatDoor
open Go Gf

namespace Sha
/-- The first k words of the schedule, the last one first. -/
def wl (l : List UInt8) : Nat → List UInt32
 | 0 => []
 | k + 1 => (if k < 16 then word l k else nxt (wl l k)) :: wl l k
theorem wl_length (l : List UInt8) (k : Nat) : (wl l k).length = k := by
 induction k with
 | zero => rfl
 | succ k ih => simp [wl, ih]
theorem wl_first (l : List UInt8) (k : Nat) (h : k ≤ 16) : wl l k = ((List.range k).map (word l)).reverse := by
 induction k with
 | zero => rfl
 | succ k ih => rw [wl, if_pos (by omega), ih (by omega), List.range_succ, List.map_append, List.reverse_append]; rfl
theorem sched_wl (l : List UInt8) (n : Nat) : ∀ k, 16 ≤ k → sched n (wl l k) = wl l (k + n) := by
 induction n with
 | zero => intro k _; rfl
 | succ n ih =>
  intro k hk
  have e : nxt (wl l k) :: wl l k = wl l (k + 1) := by rw [wl, if_neg (by omega)]
  rw [sched, e, ih (k + 1) (by omega), show k + 1 + n = k + (n + 1) by omega]
theorem ws_wl (l : List UInt8) : ws l = (wl l 64).reverse := by
 rw [ws, first, ← wl_first l 16 (by omega), sched_wl l 48 16 (by omega)]
theorem ws_length (l : List UInt8) : (ws l).length = 64 := by rw [ws_wl, List.length_reverse, wl_length]

/-- The cells of the array while the schedule is being made. -/
def wcells (r : List UInt32) : List Value := r.reverse.map W ++ List.replicate (64 - r.length) (.int .u32 0)
theorem wcells_get (r : List UInt32) (j i : Nat) (h : j + i + 1 = r.length) : (wcells r)[j]? = some (W (gw r i)) := by
 have h1 : j < (r.reverse.map W).length := by simp; omega
 rw [wcells, List.getElem?_append_left h1, List.getElem?_map, List.getElem?_reverse (by omega), show r.length - 1 - j = i by omega, gw, List.getD, List.getElem?_eq_getElem (by omega)]
 rfl
theorem wcells_set (r : List UInt32) (x : UInt32) (h : r.length < 64) : (wcells r).set r.length (W x) = wcells (x :: r) := by
 have h1 : (r.reverse.map W).length = r.length := by simp
 have e : 64 - r.length = (64 - (r.length + 1)) + 1 := by omega
 unfold wcells
 rw [List.set_append, if_neg (by omega), h1, Nat.sub_self, e, List.replicate_succ, List.set_cons_zero, List.reverse_cons, List.map_append, List.append_assoc, List.length_cons]
 rfl
theorem wcells_zero (r : List UInt32) (h : r.length < 64) : (wcells r)[r.length]? = some (.int .u32 0) := by
 have h1 : (r.reverse.map W).length = r.length := by simp
 rw [wcells, List.getElem?_append_right (by omega), h1, Nat.sub_self, List.getElem?_replicate_of_lt (by omega)]
theorem wcells_nil : wcells [] = List.replicate 64 (.int .u32 0) := by simp [wcells]
/-- The word at place k of the whole schedule. -/
theorem wcells_ws (l : List UInt8) (k : Nat) (h : k < 64) : (wcells (wl l 64))[k]? = some (W (gw (ws l) k)) := by
 rw [wcells_get _ k (63 - k) (by rw [wl_length]; omega), ws_wl]
 congr 2
 rw [gw, gw, List.getD, List.getD, List.getElem?_reverse (by rw [wl_length]; exact h), wl_length, show 64 - 1 - k = 63 - k by omega]
theorem nxt_wl (l : List UInt8) (k : Nat) (h : 16 ≤ k) : wl l (k + 1) = (ss1 (gw (wl l k) 1) + gw (wl l k) 6 + ss0 (gw (wl l k) 14) + gw (wl l k) 15) :: wl l k := by
 rw [wl, if_neg (by omega)]; rfl
theorem word_wl (l : List UInt8) (k : Nat) (h : k < 16) : wl l (k + 1) = word l k :: wl l k := by rw [wl, if_pos h]
theorem word_eq (l : List UInt8) (k : Nat) : (gB l (4 * k)).toUInt32 <<< 24 ||| (gB l (4 * k + 1)).toUInt32 <<< 16 ||| (gB l (4 * k + 2)).toUInt32 <<< 8 ||| (gB l (4 * k + 3)).toUInt32 = word l k := rfl

/-- The state after k rounds. -/
def rk (s : St) (l : List UInt8) : Nat → St
 | 0 => s
 | k + 1 => rnd (rk s l k) (gw ks k) (gw (ws l) k)
theorem rnds_take (x y : UInt32) (xs : List UInt32) : ∀ (ys : List UInt32) (s : St), rnds s (xs ++ [x]) (ys ++ [y]) = (if xs.length = ys.length then rnd (rnds s xs ys) x y else rnds s (xs ++ [x]) (ys ++ [y])) := by
 induction xs with
 | nil =>
  intro ys s
  cases ys with
  | nil => rfl
  | cons y ys => simp
 | cons a xs ih =>
  intro ys s
  cases ys with
  | nil => simp
  | cons b ys =>
   simp only [List.cons_append, rnds, List.length_cons, Nat.add_right_cancel_iff]
   split
   ·
    rename_i h
    rw [ih, if_pos h]
   ·
    rfl
theorem rk_rnds (s : St) (l : List UInt8) (k : Nat) (h : k ≤ 64) : rk s l k = rnds s (ks.take k) ((ws l).take k) := by
 have h1 : ks.length = 64 := by decide
 have h2 := ws_length l
 induction k with
 | zero => rfl
 | succ k ih =>
  rw [List.take_succ_eq_append_getElem (by omega), List.take_succ_eq_append_getElem (by omega), rnds_take, if_pos (by simp; omega), ← ih (by omega), rk]
  congr 1
  ·
   rw [gw, List.getD, List.getElem?_eq_getElem (by omega)]; rfl
  ·
   rw [gw, List.getD, List.getElem?_eq_getElem (by omega)]; rfl
theorem comp_rk (s : St) (l : List UInt8) : comp s l = s.add (rk s l 64) := by
 have h1 : ks.length = 64 := by decide
 have h2 := ws_length l
 rw [comp, rk_rnds s l 64 (by omega), List.take_of_length_le (by omega), List.take_of_length_le (by omega)]
/-- The words as cells. -/
def St.cells (s : St) : List Value := [W s.a, W s.b, W s.c, W s.d, W s.e, W s.f, W s.g, W s.h]
/-- Word k. -/
def sw (s : St) (k : Nat) : UInt32 := match k with | 0 => s.a | 1 => s.b | 2 => s.c | 3 => s.d | 4 => s.e | 5 => s.f | 6 => s.g | _ => s.h
theorem cells_sw (s : St) (k : Nat) (h : k < 8) : s.cells[k]? = some (W (sw s k)) := by
 match k, h with
 | 0, _ => rfl
 | 1, _ => rfl
 | 2, _ => rfl
 | 3, _ => rfl
 | 4, _ => rfl
 | 5, _ => rfl
 | 6, _ => rfl
 | 7, _ => rfl
theorem sw_add (s v : St) (k : Nat) (h : k < 8) : sw (s.add v) k = sw s k + sw v k := by
 match k, h with
 | 0, _ => rfl
 | 1, _ => rfl
 | 2, _ => rfl
 | 3, _ => rfl
 | 4, _ => rfl
 | 5, _ => rfl
 | 6, _ => rfl
 | 7, _ => rfl
theorem cells_length (s : St) : s.cells.length = 8 := rfl
/-- A prefix of one state's words over another's. -/
def mixC (v s : St) (rest : List Value) (k : Nat) : List Value := v.cells.take k ++ s.cells.drop k ++ rest
theorem mixC_all (v s : St) (rest : List Value) : mixC v s rest 8 = v.cells ++ rest := rfl
theorem mixC_set (v s : St) (rest : List Value) (k : Nat) (h : k < 8) : (mixC v s rest k).set k (W (sw v k)) = mixC v s rest (k + 1) := by
 match k, h with
 | 0, _ => rfl
 | 1, _ => rfl
 | 2, _ => rfl
 | 3, _ => rfl
 | 4, _ => rfl
 | 5, _ => rfl
 | 6, _ => rfl
 | 7, _ => rfl
theorem mixC_get (v s : St) (rest : List Value) (k : Nat) (h : k < 8) : (mixC v s rest k)[k]? = some (W (sw s k)) := by
 match k, h with
 | 0, _ => rfl
 | 1, _ => rfl
 | 2, _ => rfl
 | 3, _ => rfl
 | 4, _ => rfl
 | 5, _ => rfl
 | 6, _ => rfl
 | 7, _ => rfl
end Sha
end Go.Proofs.YtheijpjfpaghfaaGreatDoor
