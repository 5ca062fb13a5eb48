/- Several texts in one: Gf, Mem, Cel, Cpy, Mk, App, Bsl, Join, Cel2, Tkr. -/
import Derived.Laws.BitsAllLaws
import Derived.Laws.BitsLemmas
import Derived.KernelRfl
import Derived.Below
import Derived.Laws.OwnMore
import Derived.Deep.Draws
import Derived.Laws.Rows
import Derived.Laws.Cells
import Derived.OwnWalk
import Derived.WalkKit
import Derived.Test.YtklfficlegfhjaaGreatChecked
import Derived.Laws.BytesArg
import Derived.Laws.IdiomStrings
import Derived.Maps.AppendAt
import Derived.RegionTactic
/- Plain arithmetic of the field of 256 elements on UInt8: definitions that follow the program's own steps, and bridges from the walk's spelling of byte operations. No program in sight. -/
namespace Go.Proofs.YtklfficlegfhjaaGreat
open Go

namespace Gf
/-- A byte as an integer: a plain def, so that the walk's simp does not look behind it. -/
def bv (x : UInt8) : Int := (x.toNat : Int)
/-- The value of a byte. -/
abbrev B (x : UInt8) : Value := .int .u8 (bv x)
def dbl (a : UInt8) : UInt8 := if (a &&& 128 != 0) = true then (a <<< 1) ^^^ 29 else a <<< 1

def mulAux : Nat → UInt8 → UInt8 → UInt8 → UInt8
 | 0, _, _, p => p
 | n + 1, a, b, p => if b = 0 then p else mulAux n (dbl a) (b >>> 1) (if b &&& 1 = 1 then p ^^^ a else p)

def mul (a b : UInt8) : UInt8 := mulAux 8 a b 0

def invAux : Nat → UInt8 → UInt8 → UInt8
 | 0, _, i => i
 | n + 1, a, i => invAux n (mul a a) (mul i (mul a a))

def inv (a : UInt8) : UInt8 := invAux 7 a 1

/-! ### all bytes, one after another -/
theorem all_u8 {p : UInt8 → Prop} (h : ∀ n : Fin 256, p (UInt8.ofNat n.val)) : ∀ a, p a := by
 intro a
 have := h ⟨a.toNat, a.toNat_lt⟩
 simpa using this

theorem mulAux_zero (n : Nat) (a p : UInt8) : mulAux n a 0 p = p := by cases n <;> simp [mulAux]
/-! ### the field's laws -/
theorem xor_assoc (a b c : UInt8) : a ^^^ b ^^^ c = a ^^^ (b ^^^ c) := UInt8.xor_assoc a b c
theorem xor_comm (a b : UInt8) : a ^^^ b = b ^^^ a := UInt8.xor_comm a b
theorem mulAux_acc (n : Nat) : ∀ (a b p : UInt8), mulAux n a b p = p ^^^ mulAux n a b 0 := by
 induction n with
 | zero => intro a b p; simp [mulAux]
 | succ n ih =>
  intro a b p
  unfold mulAux
  by_cases h : b = 0
  ·
   simp [h]
  ·
   rw [if_neg h, if_neg h, ih, ih (p := if b &&& 1 = 1 then 0 ^^^ a else 0)]
   by_cases h1 : b &&& 1 = 1
   ·
    rw [if_pos h1, if_pos h1]; simp [xor_assoc]
   ·
    rw [if_neg h1, if_neg h1]; simp
theorem bit0 (a : UInt8) : a &&& 1 = 0 ∨ a &&& 1 = 1 := by
 revert a; exact all_u8 (by decide +kernel)
theorem bit7 (a : UInt8) : a &&& 128 = 0 ∨ a &&& 128 = 128 := by
 revert a; exact all_u8 (by decide +kernel)
theorem and_xor' (a b c : UInt8) : (a ^^^ b) &&& c = (a &&& c) ^^^ (b &&& c) := by
 apply UInt8.toBitVec_inj.1
 ext i
 simp [Bool.and_xor_distrib_right]
theorem dbl_eq (a : UInt8) : dbl a = (a <<< 1) ^^^ (if a &&& 128 = 128 then 29 else 0) := by
 unfold dbl
 rcases bit7 a with h | h <;> simp [h]
theorem bit_xor (x a b m : UInt8) (ha : a = 0 ∨ a = m) (hb : b = 0 ∨ b = m) (hm : m ≠ 0) : (if a ^^^ b = m then x else 0) = (if a = m then x else 0) ^^^ (if b = m then x else 0) := by
 have h0 : ¬ (0 : UInt8) = m := fun e => hm e.symm
 rcases ha with rfl | rfl <;> rcases hb with rfl | rfl <;> simp [h0]
theorem xor4 (a b c d : UInt8) : a ^^^ b ^^^ (c ^^^ d) = a ^^^ c ^^^ (b ^^^ d) := by
 rw [xor_assoc, xor_assoc, ← xor_assoc b, xor_comm b c, xor_assoc c]
theorem dbl_xor (a b : UInt8) : dbl (a ^^^ b) = dbl a ^^^ dbl b := by
 rw [dbl_eq, dbl_eq, dbl_eq, UInt8.shiftLeft_xor, and_xor', bit_xor 29 _ _ 128 (bit7 a) (bit7 b) (by decide), xor4]
theorem shr_xor (a b : UInt8) : (a ^^^ b) >>> 1 = (a >>> 1) ^^^ (b >>> 1) := UInt8.shiftRight_xor
theorem odd_xor (x a b : UInt8) : (if (a ^^^ b) &&& 1 = 1 then x else 0) = (if a &&& 1 = 1 then x else 0) ^^^ (if b &&& 1 = 1 then x else 0) := by
 rw [and_xor', bit_xor x _ _ 1 (bit0 a) (bit0 b) (by decide)]

/-- The product without the early end. -/
def mulBits : Nat → UInt8 → UInt8 → UInt8
 | 0, _, _ => 0
 | n + 1, a, b => (if b &&& 1 = 1 then a else 0) ^^^ mulBits n (dbl a) (b >>> 1)
theorem mulBits_zero (n : Nat) : ∀ a, mulBits n a 0 = 0 := by
 induction n with
 | zero => intro a; rfl
 | succ n ih => intro a; simp [mulBits]; exact ih _
theorem mulAux_bits (n : Nat) : ∀ a b, mulAux n a b 0 = mulBits n a b := by
 induction n with
 | zero => intro a b; rfl
 | succ n ih =>
  intro a b
  unfold mulAux mulBits
  by_cases h : b = 0
  ·
   subst h; simp; exact (mulBits_zero n _).symm
  ·
   rw [if_neg h, mulAux_acc, ih]
   by_cases h1 : b &&& 1 = 1
   ·
    rw [if_pos h1, if_pos h1]; simp
   ·
    rw [if_neg h1, if_neg h1]
theorem mul_bits (a b : UInt8) : mul a b = mulBits 8 a b := mulAux_bits 8 a b
theorem mulBits_xor (n : Nat) : ∀ (c a b : UInt8), mulBits n c (a ^^^ b) = mulBits n c a ^^^ mulBits n c b := by
 induction n with
 | zero => intro c a b; simp [mulBits]
 | succ n ih => intro c a b; simp only [mulBits]; rw [odd_xor, shr_xor, ih, xor4]
theorem ite_xor (p : Prop) [Decidable p] (a b : UInt8) : (if p then a ^^^ b else 0) = (if p then a else 0) ^^^ (if p then b else 0) := by
 by_cases h : p <;> simp [h]
theorem mulBits_xor' (n : Nat) : ∀ (a b c : UInt8), mulBits n (a ^^^ b) c = mulBits n a c ^^^ mulBits n b c := by
 induction n with
 | zero => intro a b c; simp [mulBits]
 | succ n ih => intro a b c; simp only [mulBits]; rw [dbl_xor, ih, ite_xor, xor4]
theorem mul_xor (c a b : UInt8) : mul c (a ^^^ b) = mul c a ^^^ mul c b := by
 rw [mul_bits, mul_bits, mul_bits, mulBits_xor]
theorem xor_mul (a b c : UInt8) : mul (a ^^^ b) c = mul a c ^^^ mul b c := by
 rw [mul_bits, mul_bits, mul_bits, mulBits_xor']
/-- Two additive functions that agree at the bits agree. -/
theorem lin_ext {f g : UInt8 → UInt8} (hf : ∀ a b, f (a ^^^ b) = f a ^^^ f b) (hg : ∀ a b, g (a ^^^ b) = g a ^^^ g b)
  (h : ∀ i : Fin 8, f (UInt8.ofNat (2 ^ i.val)) = g (UInt8.ofNat (2 ^ i.val))) (a : UInt8) : f a = g a := by
 have f0 : f 0 = 0 := by have := hf 0 0; simpa using this
 have g0 : g 0 = 0 := by have := hg 0 0; simpa using this
 have hb : ∀ (i : Fin 8) (x : UInt8), (x = 0 ∨ x = UInt8.ofNat (2 ^ i.val)) → f x = g x := by
  intro i x hx
  rcases hx with rfl | rfl
  ·
   rw [f0, g0]
  ·
   exact h i
 have hs : ∀ x : UInt8, x = (x &&& 1) ^^^ ((x &&& 2) ^^^ ((x &&& 4) ^^^ ((x &&& 8) ^^^ ((x &&& 16) ^^^ ((x &&& 32) ^^^ ((x &&& 64) ^^^ (x &&& 128))))))) := by
  exact all_u8 (by decide +kernel)
 have h0 : ∀ x : UInt8, x &&& 1 = 0 ∨ x &&& 1 = UInt8.ofNat (2 ^ (0 : Fin 8).val) := all_u8 (by decide +kernel)
 have h1 : ∀ x : UInt8, x &&& 2 = 0 ∨ x &&& 2 = UInt8.ofNat (2 ^ (1 : Fin 8).val) := all_u8 (by decide +kernel)
 have h2 : ∀ x : UInt8, x &&& 4 = 0 ∨ x &&& 4 = UInt8.ofNat (2 ^ (2 : Fin 8).val) := all_u8 (by decide +kernel)
 have h3 : ∀ x : UInt8, x &&& 8 = 0 ∨ x &&& 8 = UInt8.ofNat (2 ^ (3 : Fin 8).val) := all_u8 (by decide +kernel)
 have h4 : ∀ x : UInt8, x &&& 16 = 0 ∨ x &&& 16 = UInt8.ofNat (2 ^ (4 : Fin 8).val) := all_u8 (by decide +kernel)
 have h5 : ∀ x : UInt8, x &&& 32 = 0 ∨ x &&& 32 = UInt8.ofNat (2 ^ (5 : Fin 8).val) := all_u8 (by decide +kernel)
 have h6 : ∀ x : UInt8, x &&& 64 = 0 ∨ x &&& 64 = UInt8.ofNat (2 ^ (6 : Fin 8).val) := all_u8 (by decide +kernel)
 have h7 : ∀ x : UInt8, x &&& 128 = 0 ∨ x &&& 128 = UInt8.ofNat (2 ^ (7 : Fin 8).val) := all_u8 (by decide +kernel)
 rw [hs a]
 simp only [hf, hg]
 rw [hb 0 _ (h0 a), hb 1 _ (h1 a), hb 2 _ (h2 a), hb 3 _ (h3 a), hb 4 _ (h4 a), hb 5 _ (h5 a), hb 6 _ (h6 a), hb 7 _ (h7 a)]
theorem mul_comm (a b : UInt8) : mul a b = mul b a := by
 refine lin_ext (f := fun a => mul a b) (g := fun a => mul b a) (fun x y => xor_mul x y b) (fun x y => mul_xor b x y) (fun i => ?_) a
 refine lin_ext (f := fun b => mul (UInt8.ofNat (2 ^ i.val)) b) (g := fun b => mul b (UInt8.ofNat (2 ^ i.val))) (fun x y => mul_xor _ x y) (fun x y => xor_mul x y _) (fun j => ?_) b
 revert i j; decide +kernel
theorem mul_zero (a : UInt8) : mul a 0 = 0 := by rw [mul]; exact mulAux_zero _ _ _
theorem zero_mul (a : UInt8) : mul 0 a = 0 := by rw [mul_comm]; exact mul_zero a
theorem one_mul (a : UInt8) : mul 1 a = a := lin_ext (f := fun a => mul 1 a) (g := fun a => a) (fun x y => mul_xor 1 x y) (fun _ _ => rfl) (by decide +kernel) a
theorem mul_one (a : UInt8) : mul a 1 = a := by rw [mul_comm]; exact one_mul a
end Gf
end Go.Proofs.YtklfficlegfhjaaGreat
/- Words for memory: a block known whole, slices of bytes, of ints and of byte slices that read as lists. No program in sight. -/
namespace Go.Proofs.YtklfficlegfhjaaGreat
open Go Go.RowKit Gf

/-- Block g is just the cells cs of element type t, none frozen. -/
def Blk (w : World) (g : Nat) (t : TypeId) (cs : Array Value) : Prop := w.heap[g]? = some (.cells cs t (0, 0))

section
variable {w w' : World} {g : Nat} {t : TypeId} {cs : Array Value}
theorem Blk.lt (h : Blk w g t cs) : g < w.heap.size := by
 rcases Nat.lt_or_ge g w.heap.size with hlt | hge
 ·
  exact hlt
 ·
  unfold Blk at h; rw [Array.getElem?_eq_none hge] at h; cases h
theorem Blk.cell (h : Blk w g t cs) (i : Nat) : w.cell? ⟨g, i, none⟩ = cs[i]? := cell_of_row w g i cs t (0, 0) h
theorem Blk.frozen (h : Blk w g t cs) (i : Nat) : w.frozen? ⟨g, i, none⟩ = false := by
 unfold Blk at h
 simp [World.frozen?, h]
theorem Blk.new (w : World) (t : TypeId) (cs : Array Value) : Blk (w.alloc (.cells cs t)) w.heap.size t cs := heap_alloc_new w _
theorem Blk.drew (h : Blk w g t cs) : Blk w.drew g t cs := h
theorem Blk.drewN (h : Blk w g t cs) (n : Nat) : Blk (w.drewN n) g t cs := h
theorem Blk.alloc (h : Blk w g t cs) (o : Obj) : Blk (w.alloc o) g t cs := (Below.heap_alloc w o g h.lt).trans h
theorem Blk.set_ (h : Blk w g t cs) (i : Nat) (u : Value) : Blk (w.setCell ⟨g, i, none⟩ u) g t (cs.setIfInBounds i u) := by
 unfold Blk at h ⊢
 simp [World.setCell, Array.getElem?_modify, h]
theorem Blk.far (h : Blk w g t cs) {p : Addr} (hp : g ≠ p.block) (u : Value) : Blk (w.setCell p u) g t cs := (Below.heap_setCell w p u g hp).trans h
theorem Blk.below {B : Nat} (h : Blk w g t cs) (hb : Below B w w') (hg : g < B) : Blk w' g t cs := (hb.block g hg).trans h
theorem Blk.kept (h : Blk w g t cs) (hb : Below w.heap.size w w') : Blk w' g t cs := (hb.block g h.lt).trans h
theorem Blk.inj {t' : TypeId} {cs' : Array Value} (h : Blk w g t cs) (h' : Blk w g t' cs') : cs = cs' := by
 unfold Blk at h h'
 rw [h] at h'
 injection h' with h'
 injection h' with h1
end

/-- A cell that is there lies below the heap's size. -/
theorem cell_lt {w : World} {p : Addr} {v : Value} (h : w.cell? p = some v) : p.block < w.heap.size := by
 rcases Nat.lt_or_ge p.block w.heap.size with hlt | hge
 ·
  exact hlt
 ·
  unfold World.cell? at h; rw [Array.getElem?_eq_none hge] at h; cases h

/-- What was there is there. -/
theorem cell_kept {w w' : World} {p : Addr} {v : Value} (hb : Below w.heap.size w w') (h : w.cell? p = some v) : w'.cell? p = some v :=
 (hb.cell (cell_lt h)).trans h

/-- A call's own frame, twice. -/
theorem below_then {w w1 w2 : World} (h : Below w.heap.size w w1) (k : Below w1.heap.size w1 w2) : Below w.heap.size w w2 :=
 h.trans (k.mono h.size)
theorem below_thenB {B : Nat} {w w1 w2 : World} (h : Below B w w1) (hB : B ≤ w1.heap.size) (k : Below w1.heap.size w1 w2) : Below B w w2 :=
 h.trans (k.mono hB)

/-- Element k of a list of bytes, of rows, of ints: plain defs, so that the walk's simp does not respell them. -/
def gB (l : List UInt8) (k : Nat) : UInt8 := l.getD k 0
def gR (m : List (List UInt8)) (k : Nat) : List UInt8 := m.getD k []
def gI (z : List Int) (k : Nat) : Int := z.getD k 0
theorem gB_eq {l : List UInt8} {k : Nat} (h : k < l.length) : gB l k = l[k] := by simp [gB, List.getD, List.getElem?_eq_getElem h]
theorem gR_eq {m : List (List UInt8)} {k : Nat} (h : k < m.length) : gR m k = m[k] := by simp [gR, List.getD, List.getElem?_eq_getElem h]
theorem gR_set_self {m : List (List UInt8)} {k : Nat} (h : k < m.length) (l : List UInt8) : gR (m.set k l) k = l := by
 rw [gR, List.getD_eq_getElem?_getD, List.getElem?_set_self h, Option.getD_some]
theorem gR_set_ne {m : List (List UInt8)} {k j : Nat} (h : k ≠ j) (l : List UInt8) : gR (m.set k l) j = gR m j := by
 rw [gR, gR, List.getD_eq_getElem?_getD, List.getElem?_set_ne h, ← List.getD_eq_getElem?_getD]

/-- Of what was there, only blocks in S may have turned. -/
structure Kp (S : Nat → Prop) (w w' : World) : Prop where
 os : w'.os = w.os
 tape : w'.tape = w.tape
 output : w'.output = w.output
 size : w.heap.size ≤ w'.heap.size
 block : ∀ k, k < w.heap.size → ¬ S k → w'.heap[k]? = w.heap[k]?

section
variable {S S' : Nat → Prop} {w w1 w2 : World}
theorem Kp.refl (S : Nat → Prop) (w : World) : Kp S w w := ⟨rfl, rfl, rfl, Nat.le_refl _, fun _ _ _ => rfl⟩
theorem Kp.mono (h : Kp S w w1) (hs : ∀ k, k < w.heap.size → S k → S' k) : Kp S' w w1 := ⟨h.os, h.tape, h.output, h.size, fun k hk hn => h.block k hk (fun hS => hn (hs k hk hS))⟩
theorem Kp.trans (h : Kp S w w1) (k : Kp S w1 w2) : Kp S w w2 :=
 ⟨k.os.trans h.os, k.tape.trans h.tape, k.output.trans h.output, Nat.le_trans h.size k.size, fun i hi hn => (k.block i (Nat.lt_of_lt_of_le hi h.size) hn).trans (h.block i hi hn)⟩
theorem Kp.of_below (h : Below w.heap.size w w1) : Kp S w w1 := ⟨h.os, h.tape, h.output, h.size, fun i hi _ => h.block i hi⟩
theorem Kp.below (h : Kp S w w1) {b : Nat} (hb : b ≤ w.heap.size) (hs : ∀ k, S k → b ≤ k) : Below b w w1 :=
 ⟨h.os, h.tape, h.output, h.size, fun i hi => h.block i (Nat.lt_of_lt_of_le hi hb) (fun hS => by have := hs i hS; omega)⟩
theorem Kp.then (h : Kp S w w1) (k : Below w1.heap.size w1 w2) : Kp S w w2 := h.trans (Kp.of_below k)
theorem Kp.drew (h : Kp S w w1) : Kp S w w1.drew := ⟨h.os, h.tape, h.output, h.size, h.block⟩
theorem Kp.drewN (h : Kp S w w1) (n : Nat) : Kp S w (w1.drewN n) := ⟨h.os, h.tape, h.output, h.size, h.block⟩
theorem Kp.alloc (h : Kp S w w1) (o : Obj) : Kp S w (w1.alloc o) :=
 h.trans ⟨rfl, rfl, rfl, by simp, fun i hi _ => Below.heap_alloc w1 o i hi⟩
theorem Kp.set (h : Kp S w w1) {p : Addr} (hp : S p.block ∨ w.heap.size ≤ p.block) (v : Value) : Kp S w (w1.setCell p v) :=
 ⟨h.os, h.tape, h.output, by rw [World.size_setCell]; exact h.size, fun i hi hn => (Below.heap_setCell w1 p v i (fun e => by
  subst e
  rcases hp with hp | hp
  ·
   exact hn hp
  ·
   omega)).trans (h.block i hi hn)⟩
theorem Kp.blk {g : Nat} {t : TypeId} {cs : Array Value} (h : Kp S w w1) (hb : Blk w g t cs) (hn : ¬ S g) : Blk w1 g t cs := (h.block g hb.lt hn).trans hb
theorem Kp.cell (h : Kp S w w1) {p : Addr} {v : Value} (hc : w.cell? p = some v) (hn : ¬ S p.block) : w1.cell? p = some v :=
 (World.cell?_of_block (h.block p.block (cell_lt hc) hn)).trans hc
theorem Kp.own (h : Kp S w w1) {base : Nat} {e : TypeId} {v : Value} {n : Nat} {xs : List Value} (ho : w.ownsRow base e 1 v n xs) (hn : ∀ g, v.ownBlock = some g → ¬ S g) : w1.ownsRow base e 1 v n xs := by
 refine ⟨ho.1, ?_⟩
 rcases ho.2 with h0 | ⟨g, cap, cur, rfl, hb, hh, hr⟩
 ·
  exact .inl h0
 ·
  refine .inr ⟨g, cap, cur, rfl, hb, ?_, hr⟩
  have hlt : g < w.heap.size := by
   rcases Nat.lt_or_ge g w.heap.size with h1 | h1
   ·
    exact h1
   ·
    rw [Array.getElem?_eq_none h1] at hh; cases hh
  exact (h.block g hlt (hn g rfl)).trans hh
theorem Kp.grown (h : Kp S w w1) {row : Option Nat} (hg : w1.grownBy w2 row) (hr : ∀ k, row = some k → S k ∨ w.heap.size ≤ k) : Kp S w w2 :=
 ⟨hg.os.trans h.os, hg.tape.trans h.tape, hg.output.trans h.output, Nat.le_trans h.size hg.size, fun i hi hn =>
  (hg.block i (Nat.lt_of_lt_of_le hi h.size) (fun e => by
   rcases hr i e.symm with h1 | h1
   ·
    exact hn h1
   ·
    omega)).trans (h.block i hi hn)⟩
end

/-- The greatest capacity in bytes that a slice is let to have. -/
def lim : Nat := 140737488355328

/-- The slice value '.slice A n c' has the cells f 0, f 1, .. f (n - 1). -/
def Cells (w : World) (A : Option Addr) (n : Nat) (f : Nat → Value) : Prop :=
 ∀ k, k < n → ∃ g o, A = some ⟨g, o, none⟩ ∧ w.cell? ⟨g, o + k, none⟩ = some (f k)

theorem Cells.kept {w w' : World} {A : Option Addr} {n : Nat} {f : Nat → Value} (h : Cells w A n f) (hb : Below w.heap.size w w') : Cells w' A n f :=
 fun k hk => let ⟨g, o, e, hc⟩ := h k hk; ⟨g, o, e, cell_kept hb hc⟩
theorem Cells.drewN {w : World} {A : Option Addr} {n : Nat} {f : Nat → Value} (h : Cells w A n f) (k : Nat) : Cells (w.drewN k) A n f := h
/-- A store at a cell that holds another kind of value turns none of them. -/
theorem Cells.store {w : World} {A : Option Addr} {n : Nat} {f : Nat → Value} (h : Cells w A n f) {p : Addr} {u : Value} (hp : w.cell? p = some u) (hne : ∀ k, k < n → u ≠ f k) (v : Value) : Cells (w.setCell p v) A n f :=
 fun k hk => let ⟨g, o, e, hc⟩ := h k hk
  ⟨g, o, e, (World.cell?_setCell_other w p _ v (fun e' => by rw [← e', hp] at hc; injection hc with hc; exact hne k hk hc)).trans hc⟩

/-- Bytes. -/
def BS (w : World) (A : Option Addr) (n c : Nat) (l : List UInt8) : Prop :=
 l.length = n ∧ n ≤ c ∧ n ≤ lim ∧ Cells w A n (fun k => B (gB l k))
/-- Ints. -/
def IS (w : World) (A : Option Addr) (n c : Nat) (l : List Int) : Prop :=
 l.length = n ∧ n ≤ c ∧ n * 8 ≤ lim ∧ Cells w A n (fun k => .int .i64 (gI l k))
/-- Slices of bytes. -/
def MS (w : World) (A : Option Addr) (n c : Nat) (m : List (List UInt8)) : Prop :=
 m.length = n ∧ n ≤ c ∧ n * 24 ≤ lim ∧ ∀ k, k < n → ∃ g o A' n' c', A = some ⟨g, o, none⟩ ∧ w.cell? ⟨g, o + k, none⟩ = some (.slice A' n' c') ∧ BS w A' n' c' (gR m k)

section
variable {w w' : World} {A : Option Addr} {n c : Nat} {l : List UInt8} {m : List (List UInt8)} {z : List Int}
theorem BS.kept (h : BS w A n c l) (hb : Below w.heap.size w w') : BS w' A n c l := ⟨h.1, h.2.1, h.2.2.1, h.2.2.2.kept hb⟩
theorem BS.drew (h : BS w A n c l) : BS w.drew A n c l := h
theorem IS.drew (h : IS w A n c z) : IS w.drew A n c z := h
theorem MS.drew (h : MS w A n c m) : MS w.drew A n c m := h
theorem BS.drewN (h : BS w A n c l) (k : Nat) : BS (w.drewN k) A n c l := h
theorem IS.kept (h : IS w A n c z) (hb : Below w.heap.size w w') : IS w' A n c z := ⟨h.1, h.2.1, h.2.2.1, h.2.2.2.kept hb⟩
theorem MS.kept (h : MS w A n c m) (hb : Below w.heap.size w w') : MS w' A n c m :=
 ⟨h.1, h.2.1, h.2.2.1, fun k hk => let ⟨g, o, A', n', c', e, hc, hr⟩ := h.2.2.2 k hk; ⟨g, o, A', n', c', e, cell_kept hb hc, hr.kept hb⟩⟩
theorem BS.at_ (h : BS w A n c l) (hb : Below w.heap.size w w') {k : Nat} (hk : k < n) : ∃ g o, A = some ⟨g, o, none⟩ ∧ w'.cell? ⟨g, o + k, none⟩ = some (B (gB l k)) :=
 (h.kept hb).2.2.2 k hk
theorem IS.at_ (h : IS w A n c z) (hb : Below w.heap.size w w') {k : Nat} (hk : k < n) : ∃ g o, A = some ⟨g, o, none⟩ ∧ w'.cell? ⟨g, o + k, none⟩ = some (.int .i64 (gI z k)) :=
 (h.kept hb).2.2.2 k hk
theorem MS.at_ (h : MS w A n c m) (hb : Below w.heap.size w w') {k : Nat} (hk : k < n) :
  ∃ g o A' n' c', A = some ⟨g, o, none⟩ ∧ w'.cell? ⟨g, o + k, none⟩ = some (.slice A' n' c') ∧ BS w' A' n' c' (gR m k) :=
 (h.kept hb).2.2.2 k hk
theorem BS.len_le (h : BS w A n c l) : n ≤ 140737488355328 := by have := h.2.2.1; unfold lim at this; omega
theorem IS.len_le (h : IS w A n c z) : n * 8 ≤ 140737488355328 := by have := h.2.2.1; unfold lim at this; omega
theorem MS.len_le (h : MS w A n c m) : n * 24 ≤ 140737488355328 := by have := h.2.2.1; unfold lim at this; omega
theorem BS.nil : BS w none 0 0 [] := ⟨rfl, Nat.le_refl _, by decide, fun k hk => absurd hk (by omega)⟩
theorem IS.nil : IS w none 0 0 [] := ⟨rfl, Nat.le_refl _, by decide, fun k hk => absurd hk (by omega)⟩
theorem MS.nil : MS w none 0 0 [] := ⟨rfl, Nat.le_refl _, by decide, fun k hk => absurd hk (by omega)⟩
end

/-- A list of bytes as the cells of a block. -/
def row (l : List UInt8) : Array Value := (l.map B).toArray
theorem row_get (l : List UInt8) (k : Nat) (h : k < l.length) : (row l)[k]? = some (B (gB l k)) := by
 rw [gB_eq h]; simp [row, List.getElem?_eq_getElem h]
theorem BS.of_own {w : World} {base : Nat} {t : TypeId} {v : Value} {n : Nat} {l : List UInt8} (h : w.ownsRow base t 1 v n (l.map B)) (hn : n ≤ lim) : ∃ A c, v = .slice A n c ∧ BS w A n c l := by
 have hl : l.length = n := by have := h.1; simpa using this
 rcases h.2 with ⟨rfl, rfl⟩ | ⟨g, cap, cur, rfl, _, hh, hnc, _, hsz, htk⟩
 ·
  exact ⟨none, 0, rfl, hl, Nat.le_refl _, hn, fun k hk => absurd hk (by omega)⟩
 ·
  refine ⟨some ⟨g, 0, none⟩, cap, rfl, hl, hnc, hn, fun k hk => ⟨g, 0, rfl, ?_⟩⟩
  have hkl : k < l.length := by omega
  show _ = some (B (gB l k))
  rw [Nat.zero_add, h.cellAt k (by omega), gB_eq hkl]
  simp [List.getElem?_eq_getElem hkl]
def zeros (n : Nat) : List UInt8 := List.replicate n 0
/-- A block that is known whole, as a slice from its head. -/
theorem BS.of_blk {w : World} {g n : Nat} {t : TypeId} {l : List UInt8} (h : Blk w g t (row l)) (hn : l.length = n) (hl : n ≤ lim) : BS w (some ⟨g, 0, none⟩) n n l :=
 ⟨hn, Nat.le_refl _, hl, fun k hk => ⟨g, 0, rfl, by rw [Nat.zero_add, h.cell]; exact row_get l k (by omega)⟩⟩

/-- Block g holds slices that read as the rows of m. -/
def RowsBlk (w : World) (g : Nat) (t : TypeId) (cs : Array Value) (m : List (List UInt8)) : Prop :=
 Blk w g t cs ∧ m.length ≤ cs.size ∧ ∀ i, i < m.length → ∃ A n c, cs[i]? = some (.slice A n c) ∧ BS w A n c (gR m i)

section
variable {w w' : World} {g : Nat} {t : TypeId} {cs : Array Value} {m : List (List UInt8)}
theorem RowsBlk.kept (h : RowsBlk w g t cs m) (hb : Below w.heap.size w w') : RowsBlk w' g t cs m :=
 ⟨h.1.kept hb, h.2.1, fun i hi => let ⟨A, n, c, e, hr⟩ := h.2.2 i hi; ⟨A, n, c, e, hr.kept hb⟩⟩
theorem RowsBlk.drew (h : RowsBlk w g t cs m) : RowsBlk w.drew g t cs m := h
theorem RowsBlk.drewN (h : RowsBlk w g t cs m) (k : Nat) : RowsBlk (w.drewN k) g t cs m := h
theorem BS.store {A : Option Addr} {n c : Nat} {l : List UInt8} (h : BS w A n c l) {p : Addr} {B' : Option Addr} {n' c' : Nat} (hp : w.cell? p = some (.slice B' n' c')) (v : Value) : BS (w.setCell p v) A n c l :=
 ⟨h.1, h.2.1, h.2.2.1, h.2.2.2.store hp (fun k _ e => by cases e) v⟩
theorem BS.far {A : Option Addr} {n c : Nat} {l : List UInt8} (h : BS w A n c l) {p : Addr} (hp : ∀ g o, A = some ⟨g, o, none⟩ → g ≠ p.block) (v : Value) : BS (w.setCell p v) A n c l :=
 ⟨h.1, h.2.1, h.2.2.1, fun k hk => by
  obtain ⟨g, o, e, hc⟩ := h.2.2.2 k hk
  exact ⟨g, o, e, (World.cell?_setCell_other w p _ v (fun e' => hp g o e (by rw [e']))).trans hc⟩⟩
theorem RowsBlk.cell (h : RowsBlk w g t cs m) {i : Nat} (hi : i < m.length) : ∃ A n c, w.cell? ⟨g, i, none⟩ = some (.slice A n c) ∧ BS w A n c (gR m i) := by
 obtain ⟨A, n, c, e, hr⟩ := h.2.2 i hi
 exact ⟨A, n, c, by rw [h.1.cell]; exact e, hr⟩
theorem RowsBlk.set_ (h : RowsBlk w g t cs m) {i : Nat} (hi : i < m.length) {A : Option Addr} {n c : Nat} {l : List UInt8} (hl : BS w A n c l) :
  RowsBlk (w.setCell ⟨g, i, none⟩ (.slice A n c)) g t (cs.setIfInBounds i (.slice A n c)) (m.set i l) := by
 obtain ⟨A0, n0, c0, hc0, _⟩ := h.cell hi
 refine ⟨h.1.set_ i _, by simp [h.2.1], fun j hj => ?_⟩
 rw [List.length_set] at hj
 by_cases e : i = j
 ·
  subst e
  refine ⟨A, n, c, by rw [Array.getElem?_setIfInBounds_self_of_lt (by have := h.2.1; omega)], ?_⟩
  rw [gR_set_self hi]
  exact hl.store hc0 _
 ·
  obtain ⟨A1, n1, c1, e1, hr⟩ := h.2.2 j hj
  refine ⟨A1, n1, c1, by rw [Array.getElem?_setIfInBounds_ne e]; exact e1, ?_⟩
  rw [gR_set_ne e]
  exact hr.store hc0 _
theorem RowsBlk.far (h : RowsBlk w g t cs m) {p : Addr} (hp : g ≠ p.block) {u : Value} (hu : w.cell? p = some u) (hne : ∀ b, u ≠ B b) (v : Value) : RowsBlk (w.setCell p v) g t cs m :=
 ⟨h.1.far hp v, h.2.1, fun i hi => let ⟨A, n, c, e, hr⟩ := h.2.2 i hi; ⟨A, n, c, e, hr.1, hr.2.1, hr.2.2.1, hr.2.2.2.store hu (fun _ _ => hne _) v⟩⟩
end

end Go.Proofs.YtklfficlegfhjaaGreat
/- Loads, stores and new variables of many cells (arrays, structs): a block's cells as a list. Proved for any program. -/
namespace Go.Proofs.YtklfficlegfhjaaGreat
open Go Go.RowKit Gf
abbrev OpW (k : Nat) {P : Program} {ops : Array Oper} {Q : Exit → Act → World → Prop} {op : Op} {ty : TypeId} {pos : String} {after : Array Edge} {guard : Option (Nat × Bool)} {rest : List Oper} {a : Act} {w : World} : Prop := wpList P ops Q (⟨some k, op, ty, pos, after, guard⟩ :: rest) a w
abbrev OpN {P : Program} {ops : Array Oper} {Q : Exit → Act → World → Prop} {op : Op} {ty : TypeId} {pos : String} {after : Array Edge} {guard : Option (Nat × Bool)} {rest : List Oper} {a : Act} {w : World} : Prop := wpList P ops Q (⟨none, op, ty, pos, after, guard⟩ :: rest) a w

theorem Kp.after {S S' : Nat → Prop} {w w1 w2 : World} (h : Kp S w w1) (k : Kp S' w1 w2) (hs : ∀ i, i < w.heap.size → S' i → S i) : Kp S w w2 :=
 ⟨k.os.trans h.os, k.tape.trans h.tape, k.output.trans h.output, Nat.le_trans h.size k.size, fun i hi hn => (k.block i (Nat.lt_of_lt_of_le hi h.size) (fun h' => hn (hs i hi h'))).trans (h.block i hi hn)⟩

/-- The cells of block g from o on are ms. -/
def At (w : World) (g o : Nat) (ms : List Value) : Prop := ∀ j v, ms[j]? = some v → w.cell? ⟨g, o + j, none⟩ = some v
/-- Block g is just the cells l of element type t, none frozen. -/
def BL (w : World) (g : Nat) (t : TypeId) (l : List Value) : Prop := Blk w g t l.toArray

section
variable {w w' : World} {g o : Nat} {t : TypeId} {l ms : List Value}
theorem At.kept (h : At w g o ms) (hb : Below w.heap.size w w') : At w' g o ms := fun j v hj => cell_kept hb (h j v hj)
theorem At.kp {S : Nat → Prop} (h : At w g o ms) (hb : Kp S w w') (hn : ¬ S g) : At w' g o ms := fun j v hj => hb.cell (h j v hj) hn
theorem At.drew (h : At w g o ms) : At w.drew g o ms := h
theorem At.drewN (h : At w g o ms) (n : Nat) : At (w.drewN n) g o ms := h
theorem At.alloc (h : At w g o ms) (ob : Obj) : At (w.alloc ob) g o ms := h.kept ((Below.refl _ _).alloc (Nat.le_refl _) _)
theorem At.left {xs : List Value} (h : At w g o (ms ++ xs)) : At w g o ms := fun j v hj => h j v (by rw [List.getElem?_append_left (List.getElem?_eq_some_iff.1 hj).1]; exact hj)
theorem At.get (h : At w g o ms) {j : Nat} {v : Value} (hj : ms[j]? = some v) {p : Nat} (hp : p = o + j) : w.cell? ⟨g, p, none⟩ = some v := by subst hp; exact h j v hj
theorem BL.at_ {l' : List Value} (h : BL w g t (l ++ ms ++ l')) (ho : o = l.length) : At w g o ms := fun j v hj => by
 subst ho
 rw [Blk.cell h]
 simp only [List.getElem?_toArray]
 rw [List.append_assoc, List.getElem?_append_right (by omega), show l.length + j - l.length = j by omega]
 obtain ⟨h1, h2⟩ := List.getElem?_eq_some_iff.1 hj
 rw [List.getElem?_append_left h1]; exact hj
theorem BL.get (h : BL w g t l) {j : Nat} {v : Value} (hj : l[j]? = some v) : w.cell? ⟨g, j, none⟩ = some v := by
 rw [Blk.cell h]; simpa using hj
theorem BL.all (h : BL w g t l) : At w g 0 l := fun j v hj => by rw [Nat.zero_add]; exact h.get hj
theorem BL.new (w : World) (t : TypeId) (l : List Value) : BL (w.alloc (.cells l.toArray t)) w.heap.size t l := Blk.new w t l.toArray
theorem BL.lt (h : BL w g t l) : g < w.heap.size := Blk.lt h
theorem BL.kept (h : BL w g t l) (hb : Below w.heap.size w w') : BL w' g t l := Blk.kept h hb
theorem BL.kp {S : Nat → Prop} (h : BL w g t l) (hb : Kp S w w') (hn : ¬ S g) : BL w' g t l := hb.blk h hn
theorem BL.drew (h : BL w g t l) : BL w.drew g t l := h
theorem BL.drewN (h : BL w g t l) (n : Nat) : BL (w.drewN n) g t l := h
theorem BL.alloc (h : BL w g t l) (ob : Obj) : BL (w.alloc ob) g t l := Blk.alloc h ob
theorem BL.set_ (h : BL w g t l) (i : Nat) (u : Value) : BL (w.setCell ⟨g, i, none⟩ u) g t (l.set i u) := by
 have := Blk.set_ h i u
 simpa [BL] using this
theorem BL.far (h : BL w g t l) {p : Addr} (hp : g ≠ p.block) (u : Value) : BL (w.setCell p u) g t l := Blk.far h hp u
theorem BL.frozen (h : BL w g t l) (i : Nat) : w.frozen? ⟨g, i, none⟩ = false := Blk.frozen h i
end

theorem addr_add (g o j : Nat) : (⟨g, o, none⟩ : Addr).add j = ⟨g, o + j, none⟩ := by
 unfold Addr.add; split
 ·
  rename_i h; subst h; rfl
 ·
  rfl

/-- May type t be read cell by cell, n of them? -/
def Agg (P : Program) (t : TypeId) (n : Nat) : Bool :=
 (match P.underlying t with | some (.struct _) => true | some (.array _ _) => true | _ => false) && (match P.info? t with | some i => i.size == n | none => false)

section
variable {P : Program} {t : TypeId} {n : Nat} (w : World)
theorem agg_isAgg (h : Agg P t n = true) : (isAgg t).run P w = .ok true w := by
 unfold Agg at h
 rw [Bool.and_eq_true] at h
 have h1 := h.1
 unfold Go.isAgg
 cases hu : P.underlying t with
 | none => simp [hu] at h1
 | some d => rw [Sem.run_bind, run_underlying hu w]; cases d <;> simp_all
theorem agg_size (h : Agg P t n = true) : (sizeOf t).run P w = .ok n w := by
 unfold Agg at h
 rw [Bool.and_eq_true] at h
 have h1 := h.2
 cases hi : P.info? t with
 | none => simp [hi] at h1
 | some i => simp [hi] at h1; simp [sizeOf, typeInfo, hi, h1]

theorem run_loadAt (h : Agg P t n = true) {g o : Nat} {ms : List Value} (hm : At w g o ms) (hn : ms.length = n) :
  (Instr.loadAt t (.pointer (some ⟨g, o, none⟩))).run P w = .ok (.agg ms.toArray) w := by
 have hl := run_loadCells_list (P := P) w ⟨g, o, none⟩ ms (fun j v hv => by rw [addr_add]; exact hm j v hv)
 rw [hn] at hl
 simp [Instr.loadAt, Instr.sureAddr, loadVar, Sem.run_bind, agg_isAgg w h, agg_size w h, hl]

/-- vs laid over l from o on. -/
def splice (l : List Value) (o : Nat) (vs : List Value) : List Value := l.take o ++ vs ++ l.drop (o + vs.length)

theorem run_storeCells {g : Nat} {te : TypeId} (vs : List Value) (h1 : ∀ v ∈ vs, v.oneCell' = true) (o : Nat) : ∀ (k i : Nat) (l : List Value) (w : World), i + k = vs.length → BL w g te l → o + vs.length ≤ l.length →
  ∃ w', (storeCells ⟨g, o, none⟩ (vs.drop i) i).run P w = .ok () w' ∧ BL w' g te (l.take (o + i) ++ vs.drop i ++ l.drop (o + vs.length)) ∧ Kp (· = g) w w' ∧ w'.heap.size = w.heap.size := by
 intro k
 induction k with
 | zero =>
  intro i l w hi hb ho
  refine ⟨w, ?_, ?_, Kp.refl _ _, rfl⟩
  ·
   rw [List.drop_eq_nil_of_le (by omega)]; rfl
  ·
   rw [List.drop_eq_nil_of_le (by omega), show o + i = o + vs.length by omega, List.append_nil, List.take_append_drop]; exact hb
 | succ k ih =>
  intro i l w hi hb ho
  have hlt : i < vs.length := by omega
  have hd : vs.drop i = vs[i] :: vs.drop (i + 1) := List.drop_eq_getElem_cons hlt
  have hc : w.cell? ⟨g, o + i, none⟩ = some (l[o + i]'(by omega)) := hb.get (by rw [List.getElem?_eq_getElem])
  have hf := hb.frozen (o + i)
  have hb1 := hb.set_ (o + i) vs[i]
  obtain ⟨w', hr, hb', hk, hz⟩ := ih (i + 1) (l.set (o + i) vs[i]) _ (by omega) hb1 (by rw [List.length_set]; exact ho)
  refine ⟨w', ?_, ?_, ((Kp.refl (· = g) w).set (.inl rfl) vs[i]).trans hk, by rw [hz, World.size_setCell]⟩
  ·
   rw [hd]
   simp only [storeCells, Sem.run_bind, addr_add, run_store P w _ vs[i] .plain (h1 _ (List.getElem_mem hlt)), hc, hf, Result.andThen, Bool.false_eq_true, if_false]
   exact hr
  ·
   have e1 : (l.set (o + i) vs[i]).take (o + (i + 1)) = l.take (o + i) ++ [vs[i]] := by
    rw [show o + (i + 1) = o + i + 1 by omega, List.take_succ_eq_append_getElem (by rw [List.length_set]; omega), List.take_set_of_le (Nat.le_refl _), List.getElem_set_self]
   have e2 : (l.set (o + i) vs[i]).drop (o + vs.length) = l.drop (o + vs.length) := List.drop_set_of_lt (by omega)
   rw [e1, e2] at hb'
   rw [hd]
   simpa using hb'

theorem run_storeAt (h : Agg P t n = true) {g o : Nat} {te : TypeId} {l vs : List Value} (hb : BL w g te l) (hn : vs.length = n) (h1 : ∀ v ∈ vs, v.oneCell' = true) (ho : o + n ≤ l.length) :
  ∃ w', (Instr.storeAt t (.pointer (some ⟨g, o, none⟩)) (.agg vs.toArray)).run P w = .ok () w' ∧ BL w' g te (splice l o vs) ∧ Kp (· = g) w w' ∧ w'.heap.size = w.heap.size := by
 obtain ⟨w', hr, hb', hk, hz⟩ := run_storeCells (P := P) vs h1 o vs.length 0 l w (by omega) hb (by omega)
 refine ⟨w', ?_, ?_, hk, hz⟩
 ·
  rw [List.drop_zero] at hr
  simp [Instr.storeAt, Instr.sureAddr, storeVar, Sem.run_bind, agg_size w h, Value.cells, hn, hr]
 ·
  rw [List.drop_zero] at hb'; exact hb'
end

section
variable {P : Program} (w : World) {ops : Array Oper} {rest : List Oper} {o : Oper} {a : Act} {Q : Exit → Act → World → Prop}

/-- 'var x T', T of many cells. -/
theorem wpList_alloc (hg : o.guard = none) (t : TypeId) (hop : o.op = .alloc t) (l : List Value) (hz : (P.info? t).map (·.zero) = some (some (.agg l.toArray)))
  (h : ∀ w', BL w' w.heap.size t l → Below w.heap.size w w' → w'.heap.size = w.heap.size + 1 → wpList P ops Q rest (a.put o.dst (.pointer (some ⟨w.heap.size, 0, none⟩))) w') : wpList P ops Q (o :: rest) a w :=
 wpList_plain hg fun K hK => by
  cases hi : P.info? t with
  | none => simp [hi] at hz
  | some i =>
   have hz' : i.zero = some (.agg l.toArray) := by simpa [hi] using hz
   unfold Oper.wp execOp
   simp only [hop]
   simp [Instr.alloc, zeroValue, typeInfo, hi, hz', newVar, newRow, Value.cells, Result.andThen]
   exact hK _ _ (h _ (BL.new w t l) ((Below.refl _ _).alloc (Nat.le_refl _) _) (by simp))

/-- '&T{..}', T of many cells. -/
theorem wpList_box (hg : o.guard = none) (t : TypeId) (x : Operand) (hop : o.op = .box t x) (l : List Value) (hx : a.eval x = .agg l.toArray)
  (h : ∀ w', BL w' w.heap.size t l → Below w.heap.size w w' → w'.heap.size = w.heap.size + 1 → wpList P ops Q rest (a.put o.dst (.pointer (some ⟨w.heap.size, 0, none⟩))) w') : wpList P ops Q (o :: rest) a w :=
 wpList_plain hg fun K hK => by
  unfold Oper.wp execOp
  simp only [hop, hx]
  simp [Instr.box, newVar, newRow, Value.cells, Result.andThen]
  exact hK _ _ (h _ (BL.new w t l) ((Below.refl _ _).alloc (Nat.le_refl _) _) (by simp))
/-- 'T{..}' of many cells, its run told. -/
theorem wpList_build (hg : o.guard = none) (t : TypeId) (parts : Array (Nat × Operand)) (hop : o.op = .build t parts) (ps : Array (Nat × Value)) (hps : (parts.map fun (i, x) => (i, a.eval x)) = ps) (v : Value) (hr : (Instr.build t ps).run P w = .ok v w)
  (h : wpList P ops Q rest (a.put o.dst v) w) : wpList P ops Q (o :: rest) a w :=
 wpList_plain hg fun K hK => by
  unfold Oper.wp execOp
  simp only [hop, hps]
  simp [hr, Result.andThen]
  exact hK _ _ h

/-- A load of many cells. -/
theorem wpList_loadv (hg : o.guard = none) (t : TypeId) (x : Operand) (hop : o.op = .load t x) (n : Nat) (ht : Agg P t n = true) (g p : Nat) (ms : List Value) (hx : a.eval x = .pointer (some ⟨g, p, none⟩))
  (hm : At w g p ms) (hn : ms.length = n) (h : wpList P ops Q rest (a.put o.dst (.agg ms.toArray)) w) : wpList P ops Q (o :: rest) a w :=
 wpList_plain hg fun K hK => by
  unfold Oper.wp execOp
  simp only [hop, hx]
  simp [run_loadAt w ht hm hn, Result.andThen]
  exact hK _ _ h

/-- A store of many cells. -/
theorem wpList_storev (hg : o.guard = none) (t : TypeId) (x y : Operand) (hop : o.op = .store t x y) (n : Nat) (ht : Agg P t n = true) (g p : Nat) (te : TypeId) (l vs : List Value) (hx : a.eval x = .pointer (some ⟨g, p, none⟩)) (hy : a.eval y = .agg vs.toArray)
  (hb : BL w g te l) (hn : vs.length = n) (h1 : ∀ v ∈ vs, v.oneCell' = true) (ho : p + n ≤ l.length)
  (h : ∀ w', BL w' g te (splice l p vs) → Kp (· = g) w w' → w'.heap.size = w.heap.size → wpList P ops Q rest (a.put o.dst undef) w') : wpList P ops Q (o :: rest) a w :=
 wpList_plain hg fun K hK => by
  obtain ⟨w', hr, h2, h3, h4⟩ := run_storeAt w ht hb hn h1 ho
  unfold Oper.wp execOp
  simp only [hop, hx, hy]
  simp [hr, Result.andThen]
  exact hK _ _ (h w' h2 h3 h4)
end
end Go.Proofs.YtklfficlegfhjaaGreat
/- copy of bytes into a part of a block; []byte(s) and string(b). -/
namespace Go.Proofs.YtklfficlegfhjaaGreat
open Go Go.RowKit Gf

section
variable {P : Program} (w : World)
end

/-- The string of bytes. -/
def strB (l : List UInt8) : ByteArray := ⟨l.toArray⟩
theorem strB_inj {l l' : List UInt8} (h : strB l = strB l') : l = l' := by
 unfold strB at h
 injection h with h
 simpa using congrArg Array.toList h
theorem strB_list (l : List UInt8) : (strB l).toList = l := by rw [ByteArray.toList_eq]; rfl
theorem strB_of (s : ByteArray) : strB s.data.toList = s := rfl
theorem strB_size (l : List UInt8) : (strB l).size = l.length := rfl
theorem strB_eq (l l' : List UInt8) : ((strB l).toList == (strB l').toList) = decide (l = l') := by
 rw [strB_list, strB_list]
 by_cases h : l = l'
 ·
  simp [h]
 ·
  simp [h]
/-- Behind '[]byte(s)': the bytes, perhaps more cells, and the mark behind the last one. -/
def Conv (w : World) (l : List UInt8) (w' : World) (cap : Nat) : Prop :=
 w'.heap[w.heap.size]? = some (.cells (bytesRow (strB l) cap) 5 ((bytesRow (strB l) cap).size, (bytesRow (strB l) cap).size + 1)) ∧ l.length ≤ cap ∧ Below w.heap.size w w' ∧ w'.heap.size = w.heap.size + 1
theorem Conv.bs {w w' : World} {l : List UInt8} {cap : Nat} (h : Conv w l w' cap) (hl : l.length ≤ lim) : BS w' (some ⟨w.heap.size, 0, none⟩) l.length cap l :=
 ⟨rfl, h.2.1, hl, fun k hk => ⟨w.heap.size, 0, rfl, by
  rw [Nat.zero_add, cell_of_row w' w.heap.size k _ _ _ h.1, bytesRow_at (strB l) cap k (by show k < l.length; exact hk)]
  show _ = some (B (gB l k))
  rw [gB_eq hk]; rfl⟩⟩
end Go.Proofs.YtklfficlegfhjaaGreat
/- Closed facts about the program's tables, and 'make' of the element types that the chapter uses. -/
namespace Go.Proofs.YtklfficlegfhjaaGreat
open Go Go.RowKit Gf

theorem made_one (z : Value) (n : Nat) : madeCells #[z] n = (List.replicate n z).toArray := by
 rw [← toList_madeCells_one]

end Go.Proofs.YtklfficlegfhjaaGreat
/- append onto a slice of the call's own, in the words of Mem: the source may be nil, empty or not. -/
namespace Go.Proofs.YtklfficlegfhjaaGreat
open Go Go.RowKit Gf

section
variable {P : Program} (w : World)

/-- What an append leaves. -/
def AppPost (base : Nat) (e : TypeId) (v : Value) (n m : Nat) (xs : List Value) (v' : Value) (w w' : World) : Prop :=
 w'.ownsRow base e 1 v' (n + m) xs ∧ w.grownBy w' v.ownBlock ∧ (v'.ownBlock = v.ownBlock ∨ v'.ownBlock = some w.heap.size)

end

theorem info_some {P : Program} {e : TypeId} {z : Value} {size bytes : Nat} (h : (P.info? e).map (fun i => (i.zero, i.size, i.bytes)) = some (some z, size, bytes)) : ∃ i, P.info? e = some i ∧ i.zero = some z ∧ i.size = size ∧ i.bytes = bytes := info_parts h

/-- An owned row's block is not one of another element type. -/
theorem own_ne {w : World} {base : Nat} {e t : TypeId} {n g : Nat} {v : Value} {xs : List Value} {cs : Array Value} (h : w.ownsRow base e 1 v n xs) (hg : Blk w g t cs) (hne : e ≠ t) : v.ownBlock ≠ some g := by
 rcases h.2 with ⟨rfl, _⟩ | ⟨g', cap, cur, rfl, _, hh, _⟩
 ·
  simp [Value.ownBlock]
 ·
  intro he
  have : g' = g := by simpa [Value.ownBlock] using he
  subst this
  unfold Blk at hg
  rw [hg] at hh
  injection hh with hh
  injection hh with _ ht
  exact hne ht.symm
theorem own_base {w : World} {base : Nat} {e : TypeId} {n : Nat} {v : Value} {xs : List Value} (h : w.ownsRow base e 1 v n xs) : ∀ k, v.ownBlock = some k → base ≤ k := fun k hk => (h.lt k hk).1
theorem grown_blk {w w' : World} {row : Option Nat} {g : Nat} {t : TypeId} {cs : Array Value} (hg : w.grownBy w' row) (h : Blk w g t cs) (hne : row ≠ some g) : Blk w' g t cs :=
 (hg.block g h.lt (fun e => hne e.symm)).trans h
end Go.Proofs.YtklfficlegfhjaaGreat
/- A new slice of given bytes ([]byte{..}), as a law at the operation. -/
namespace Go.Proofs.YtklfficlegfhjaaGreat
open Go Go.RowKit Gf

theorem wpList_bslice {P : Program} (w : World) {ops : Array Oper} {rest : List Oper} {o : Oper} {a : Act} {Q : Exit → Act → World → Prop} (hg : o.guard = none) (t te : TypeId) (n : Nat) (parts : Array (Nat × Operand)) (hop : o.op = .buildSlice t n parts) (ps : Array (Nat × Value)) (hps : (parts.map fun (i, x) => (i, a.eval x)) = ps) (l : List Value)
  (hr : (Instr.buildSlice t n ps).run P w = .ok (.slice (some ⟨w.heap.size, 0, none⟩) n n) (w.alloc (.cells l.toArray te)))
  (h : ∀ w', BL w' w.heap.size te l → Below w.heap.size w w' → w'.heap.size = w.heap.size + 1 → wpList P ops Q rest (a.put o.dst (.slice (some ⟨w.heap.size, 0, none⟩) n n)) w') : wpList P ops Q (o :: rest) a w :=
 wpList_plain hg fun K hK => by
  unfold Oper.wp execOp
  simp only [hop, hps]
  simp [hr, Result.andThen]
  exact hK _ _ (h _ (BL.new w te l) ((Below.refl _ _).alloc (Nat.le_refl _) _) (by simp))
/-- make([]T, k, n), T of one cell. -/
theorem wpList_mk {P : Program} (w : World) {ops : Array Oper} {rest : List Oper} {o : Oper} {a : Act} {Q : Exit → Act → World → Prop} (hg : o.guard = none) (t te : TypeId) (x y : Operand) (hop : o.op = .makeSlice t x y) (zv : Value) (bytes : Nat) (ht : P.underlying t = some (.slice te))
  (hinfo : (P.info? te).map (fun i => (i.zero, i.size, i.bytes)) = some (some zv, 1, bytes)) (hz1 : zv.cells = #[zv]) (k n : Nat) (zx zy : Int) (hx : a.eval x = .int .i64 zx) (hy : a.eval y = .int .i64 zy) (hzx : zx = (k : Int)) (hzy : zy = (n : Int)) (hk : k ≤ n) (hb : bytes * n ≤ 281474976710656) (hn : n ≤ 9223372036854775807)
  (h : ∀ w', BL w' w.heap.size te (List.replicate n zv) → Below w.heap.size w w' → w'.heap.size = w.heap.size + 1 → wpList P ops Q rest (a.put o.dst (.slice (some ⟨w.heap.size, 0, none⟩) k n)) w') : wpList P ops Q (o :: rest) a w :=
 wpList_plain hg fun K hK => by
  subst hzx hzy
  obtain ⟨i, hi, hz, hs, hby⟩ := info_parts hinfo
  have hbb : (i.bytes : Int) * (n : Int) ≤ 281474976710656 := by rw [hby, ← Int.natCast_mul]; exact Int.ofNat_le.2 hb
  have hr := run_make (P := P) w t te i zv ht hi hz .i64 .i64 (k : Int) (n : Int) (by omega) (by omega) hbb (by omega)
  rw [hs, hz1] at hr
  simp only [Int.toNat_natCast, Nat.mul_one, made_one] at hr
  unfold Oper.wp execOp
  simp only [hop, hx, hy]
  simp [hr, Result.andThen]
  exact hK _ _ (h _ (BL.new w te _) ((Below.refl _ _).alloc (Nat.le_refl _) _) (by simp))

/-- A byte slice of the call's own over a block known whole. -/
theorem BL.bs {w : World} {g : Nat} {t : TypeId} {l : List UInt8} (h : BL w g t (l.map B)) {n : Nat} (hn : l.length = n) (hl : n ≤ lim) : BS w (some ⟨g, 0, none⟩) n n l :=
 ⟨hn, Nat.le_refl _, hl, fun k hk => ⟨g, 0, rfl, by
  rw [Nat.zero_add]
  refine h.get ?_
  rw [List.getElem?_map, List.getElem?_eq_getElem (by omega)]
  show some (B _) = some (B (gB l k))
  rw [gB_eq (by omega)]⟩⟩
/-- .. as an owned row. -/
theorem BL.own {w : World} {g base : Nat} {t : TypeId} {l : List Value} (h : BL w g t l) (hg : base ≤ g) {n : Nat} (hn : l.length = n) (hl : n ≤ lim) : w.ownsRow base t 1 (.slice (some ⟨g, 0, none⟩) n n) n l := by
 unfold lim at hl
 refine ⟨by omega, .inr ⟨g, n, l.toArray, rfl, hg, h, Nat.le_refl _, by unfold maxLen; omega, by simp [hn], ?_⟩⟩
 simp [← hn]
theorem AppPost.own {base : Nat} {e : TypeId} {v : Value} {n m : Nat} {xs : List Value} {v' : Value} {w w' : World} (h : AppPost base e v n m xs v' w w') : w'.ownsRow base e 1 v' (n + m) xs := h.1
/-- An append is no change of what is old. -/
theorem AppPost.below {base B : Nat} {e : TypeId} {v : Value} {n m : Nat} {xs ys : List Value} {v' : Value} {w0 w w' : World} (h : AppPost base e v n m xs v' w w') (ho : w.ownsRow base e 1 v n ys) (hb : Below B w0 w) (hB : B ≤ base) (hs : B ≤ w.heap.size) : Below B w0 w' :=
 hb.grown h.2.1 hs (fun b hb' => Nat.le_trans hB (own_base ho b hb'))
theorem AppPost.kp {base : Nat} {e : TypeId} {v : Value} {n m : Nat} {xs ys : List Value} {v' : Value} {S : Nat → Prop} {w0 w w' : World} (h : AppPost base e v n m xs v' w w') (ho : w.ownsRow base e 1 v n ys) (hb : Kp S w0 w) (hB : w0.heap.size ≤ base) : Kp S w0 w' :=
 hb.grown h.2.1 (fun k hk => .inr (Nat.le_trans hB (own_base ho k hk)))
theorem own_form {w : World} {base n : Nat} {e : TypeId} {v : Value} {xs : List Value} (h : w.ownsRow base e 1 v n xs) (hn : 0 < n) : ∃ g cap, v = .slice (some ⟨g, 0, none⟩) n cap := by
 rcases h.2 with ⟨_, h0⟩ | ⟨g, cap, _, rfl, _⟩
 ·
  omega
 ·
  exact ⟨g, cap, rfl⟩
/-- Behind an append of some elements: the value written out. -/
theorem AppPost.form {base : Nat} {e : TypeId} {v : Value} {n m : Nat} {xs : List Value} {v' : Value} {w w' : World} (h : AppPost base e v n m xs v' w w') (hn : 0 < n + m) : ∃ g cap, v' = .slice (some ⟨g, 0, none⟩) (n + m) cap := own_form h.1 hn
/-- A block of another element type stays. -/
theorem AppPost.bl {base : Nat} {e : TypeId} {v : Value} {n m : Nat} {xs ys l : List Value} {v' : Value} {w w' : World} {g : Nat} {t : TypeId} (h : AppPost base e v n m xs v' w w') (ho : w.ownsRow base e 1 v n ys) (hb : BL w g t l) (hne : e ≠ t) : BL w' g t l :=
 grown_blk h.2.1 hb (own_ne ho hb hne)
end Go.Proofs.YtklfficlegfhjaaGreat
/- Slices of strings. -/
namespace Sha
theorem here : True := trivial
end Sha
namespace Go.Proofs.YtklfficlegfhjaaGreat
open Go.RowKit Gf Sha

/-- Strings. -/
def TS (w : World) (A : Option Addr) (n c : Nat) (m : List (List UInt8)) : Prop :=
 m.length = n ∧ n ≤ c ∧ n * 16 ≤ lim ∧ Cells w A n (fun k => .string (strB (gR m k)))
theorem TS.kept {w w' : World} {A : Option Addr} {n c : Nat} {m : List (List UInt8)} (h : TS w A n c m) (hb : Below w.heap.size w w') : TS w' A n c m := ⟨h.1, h.2.1, h.2.2.1, h.2.2.2.kept hb⟩
theorem TS.drew {w : World} {A : Option Addr} {n c : Nat} {m : List (List UInt8)} (h : TS w A n c m) : TS w.drew A n c m := h
theorem TS.at_ {w w' : World} {A : Option Addr} {n c : Nat} {m : List (List UInt8)} (h : TS w A n c m) (hb : Below w.heap.size w w') {k : Nat} (hk : k < n) : ∃ g o, A = some ⟨g, o, none⟩ ∧ w'.cell? ⟨g, o + k, none⟩ = some (.string (strB (gR m k))) := (h.kept hb).2.2.2 k hk
theorem TS.nil {w : World} : TS w none 0 0 [] := ⟨rfl, Nat.le_refl _, by decide, fun k hk => absurd hk (by omega)⟩
theorem TS.of_blk {w : World} {g : Nat} {t : TypeId} {m : List (List UInt8)} (h : BL w g t (m.map fun l => .string (strB l))) {n : Nat} (hn : m.length = n) (hl : n * 16 ≤ lim) : TS w (some ⟨g, 0, none⟩) n n m :=
 ⟨hn, Nat.le_refl _, hl, fun k hk => ⟨g, 0, rfl, by
  rw [Nat.zero_add]
  refine h.get ?_
  rw [List.getElem?_map, List.getElem?_eq_getElem (by omega)]
  show some (Value.string _) = some (.string (strB (gR m k)))
  rw [gR_eq (by omega)]⟩⟩
end Go.Proofs.YtklfficlegfhjaaGreat
/- copy from a string; struct values built of parts of many cells. -/
namespace Go.Proofs.YtklfficlegfhjaaGreat
open Go Go.RowKit Gf

section
variable {P : Program} (w : World)
end

section
variable {P : Program} {w : World} {o : Oper} {a : Act} {Q : Exit → Act → World → Prop} {K : Act → World → Prop}
end
section
variable {P : Program} {w : World}
end
end Go.Proofs.YtklfficlegfhjaaGreat
/- Rows of elements of many cells: tokens. Plain, but for the words on memory. -/
namespace Go.Proofs.YtklfficlegfhjaaGreat
open Go Go.RowKit Gf

section
variable {α : Type} {f : α → List Value} {s : Nat}
theorem flat_length (hf : ∀ x, (f x).length = s) (l : List α) : (l.flatMap f).length = l.length * s := by
 induction l with
 | nil => simp
 | cons x l ih => rw [List.flatMap_cons, List.length_append, hf, ih, List.length_cons, Nat.succ_mul]; omega
theorem flat_split (l : List α) (k : Nat) (h : k < l.length) : l.flatMap f = (l.take k).flatMap f ++ f l[k] ++ (l.drop (k + 1)).flatMap f := by
 conv => lhs; rw [← List.take_append_drop k l, List.drop_eq_getElem_cons h]
 rw [List.flatMap_append, List.flatMap_cons, List.append_assoc]
theorem splice_mid (A X C vs : List Value) (o : Nat) (ho : o = A.length) (h : vs.length = X.length) : splice (A ++ X ++ C) o vs = A ++ vs ++ C := by
 subst ho
 unfold splice
 have e1 : (A ++ X ++ C).take A.length = A := by rw [List.append_assoc, List.take_left]
 have e2 : (A ++ X ++ C).drop (A.length + vs.length) = C := by rw [h, ← List.length_append, List.drop_left]
 rw [e1, e2]
theorem BL.elem {w : World} {g : Nat} {t : TypeId} {l : List α} (hf : ∀ x, (f x).length = s) (h : BL w g t (l.flatMap f)) {k : Nat} (hk : k < l.length) : At w g (k * s) (f l[k]) := by
 rw [flat_split (f := f) l k hk] at h
 exact BL.at_ h (by rw [flat_length hf, List.length_take, Nat.min_eq_left (by omega)])
end

section
variable {P : Program} {w : World} {o : Oper} {a : Act} {Q : Exit → Act → World → Prop} {K : Act → World → Prop}
theorem wp_storev (t : TypeId) (x y : Operand) (hop : o.op = .store t x y) (n : Nat) (ht : Agg P t n = true) (g p : Nat) (te : TypeId) (l vs : List Value) (hx : a.eval x = .pointer (some ⟨g, p, none⟩)) (hy : a.eval y = .agg vs.toArray)
  (hb : BL w g te l) (hn : vs.length = n) (h1 : ∀ v ∈ vs, v.oneCell' = true) (ho : p + n ≤ l.length)
  (h : ∀ w', BL w' g te (splice l p vs) → Kp (· = g) w w' → w'.heap.size = w.heap.size → K (a.put o.dst undef) w') : o.wp P a w K Q := by
 obtain ⟨w', hr, h2, h3, h4⟩ := run_storeAt w ht hb hn h1 ho
 unfold Oper.wp execOp
 simp only [hop, hx, hy]
 simp [hr, Result.andThen]
 exact h w' h2 h3 h4
end
end Go.Proofs.YtklfficlegfhjaaGreat
