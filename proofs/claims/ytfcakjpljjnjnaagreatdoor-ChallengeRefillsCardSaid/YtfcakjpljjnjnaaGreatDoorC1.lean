/- Several texts in one: Gf, Mem. -/
import Derived.Laws.BitsAllLaws
import Derived.Laws.BitsLemmas
import Derived.KernelRfl
import Derived.Below
import Derived.Laws.OwnMore
import Derived.Deep.Draws
import Derived.Laws.Rows
/- Plain arithmetic of the field of 256 elements on UInt8: definitions that follow the program's own steps, and bridges from the walk's spelling of byte operations. No program in sight. -/
namespace Go.Proofs.YtfcakjpljjnjnaaGreatDoor
open Go

namespace Gf
/-- A byte as an integer: a plain def, so that the walk's simp does not look behind it. -/
def bv (x : UInt8) : Int := (x.toNat : Int)
/-- The value of a byte. -/
abbrev B (x : UInt8) : Value := .int .u8 (bv x)
theorem bv_lo (x : UInt8) : 0 ≤ bv x := by unfold bv; omega
theorem bv_hi (x : UInt8) : bv x < 256 := by unfold bv; have := x.toNat_lt; omega
theorem bv_toNat (x : UInt8) : (bv x).toNat = x.toNat := by unfold bv; omega
theorem bv_inj {a b : UInt8} (h : bv a = bv b) : a = b := UInt8.toNat_inj.1 (by unfold bv at h; omega)
theorem bv_ofNat (x : Int) (h : 0 ≤ x) (h' : x < 256) : bv (UInt8.ofNat x.toNat) = x := by
 unfold bv; rw [UInt8.toNat_ofNat_of_lt' (by show x.toNat < 256; omega)]; omega
def dbl (a : UInt8) : UInt8 := if (a &&& 128 != 0) = true then (a <<< 1) ^^^ 29 else a <<< 1

def mulAux : Nat → UInt8 → UInt8 → UInt8 → UInt8
 | 0, _, _, p => p
 | n + 1, a, b, p => if b = 0 then p else mulAux n (dbl a) (b >>> 1) (if b &&& 1 = 1 then p ^^^ a else p)

def mul (a b : UInt8) : UInt8 := mulAux 8 a b 0

def invAux : Nat → UInt8 → UInt8 → UInt8
 | 0, _, i => i
 | n + 1, a, i => invAux n (mul a a) (mul i (mul a a))

def inv (a : UInt8) : UInt8 := invAux 7 a 1

/-! ### all bytes, one after another -/
theorem all_u8 {p : UInt8 → Prop} (h : ∀ n : Fin 256, p (UInt8.ofNat n.val)) : ∀ a, p a := by
 intro a
 have := h ⟨a.toNat, a.toNat_lt⟩
 simpa using this

theorem xor_bits (a b : UInt8) : bits .xor .u8 (bv a) (bv b) = bv (a ^^^ b) := by
 unfold bv; rw [u8_xor_nat _ _ a.toNat_lt b.toNat_lt, UInt8.toNat_xor]
theorem and_bits (a b : UInt8) : bits .and .u8 (bv a) (bv b) = bv (a &&& b) := by
 unfold bv; rw [u8_and_nat _ _ a.toNat_lt b.toNat_lt, UInt8.toNat_and]
theorem or_bits (a b : UInt8) : bits .or .u8 (bv a) (bv b) = bv (a ||| b) := by
 unfold bv; rw [u8_or_nat _ _ a.toNat_lt b.toNat_lt, UInt8.toNat_or]

theorem beq_bytes (a b : UInt8) : (bv a == bv b) = (a == b) := by
 by_cases h : a = b
 ·
  subst h; simp
 ·
  have h3 : (bv a == bv b) = false := by
   rw [beq_eq_false_iff_ne]; exact fun e => h (bv_inj e)
  rw [h3]; simp [h]
theorem bne_bytes (a b : UInt8) : (bv a != bv b) = (a != b) := by
 simp only [bne, beq_bytes]
theorem eq_zero_iff (a : UInt8) : (bv a == 0) = (a == 0) := beq_bytes a 0
theorem ne_zero_iff (a : UInt8) : (bv a != 0) = (a != 0) := bne_bytes a 0
theorem eq_one_iff (a : UInt8) : (bv a == 1) = (a == 1) := beq_bytes a 1

theorem shl1 (a : UInt8) : bv a * (2 : Int) % (256 : Int) = bv (a <<< 1) := by
 revert a; exact all_u8 (by decide +kernel)
theorem shr1 (a : UInt8) : bv a / (2 : Int) = bv (a >>> 1) := by
 revert a; exact all_u8 (by decide +kernel)
theorem and128 (a : UInt8) : bits .and .u8 (bv a) 128 = bv (a &&& 128) := and_bits a 128
theorem and1 (a : UInt8) : bits .and .u8 (bv a) 1 = bv (a &&& 1) := and_bits a 1
theorem xor29 (a : UInt8) : bits .xor .u8 (bv a) 29 = bv (a ^^^ 29) := xor_bits a 29

theorem shr1_lt (b : UInt8) (h : b ≠ 0) : (b >>> 1).toNat < b.toNat := by
 revert b; exact all_u8 (by decide +kernel)
theorem shr1_half (b : UInt8) : (b >>> 1).toNat = b.toNat / 2 := by
 have := shr1 b; unfold bv at this; omega

theorem mulAux_zero (n : Nat) (a p : UInt8) : mulAux n a 0 p = p := by cases n <;> simp [mulAux]
theorem mulAux_more (n : Nat) : ∀ (a b p : UInt8), b.toNat < 2 ^ n → mulAux (n + 1) a b p = mulAux n a b p := by
 induction n with
 | zero =>
  intro a b p hb
  have : b = 0 := UInt8.toNat_inj.1 (by show b.toNat = 0; omega)
  subst this; rw [mulAux_zero, mulAux_zero]
 | succ n ih =>
  intro a b p hb
  by_cases h : b = 0
  ·
   subst h; rw [mulAux_zero, mulAux_zero]
  ·
   have e1 : mulAux (n + 1 + 1) a b p = mulAux (n + 1) (dbl a) (b >>> 1) (if b &&& 1 = 1 then p ^^^ a else p) := by
    conv => lhs; unfold mulAux
    rw [if_neg h]
   have e2 : mulAux (n + 1) a b p = mulAux n (dbl a) (b >>> 1) (if b &&& 1 = 1 then p ^^^ a else p) := by
    conv => lhs; unfold mulAux
    rw [if_neg h]
   rw [e1, e2]
   exact ih _ _ _ (by rw [shr1_half]; omega)
/-- One step of the loop, whatever the byte. -/
theorem mulAux_step (a b p : UInt8) (h : b ≠ 0) : mulAux 8 a b p = mulAux 8 (dbl a) (b >>> 1) (if b &&& 1 = 1 then p ^^^ a else p) := by
 have e1 : mulAux 8 a b p = mulAux 7 (dbl a) (b >>> 1) (if b &&& 1 = 1 then p ^^^ a else p) := by
  show mulAux (7 + 1) a b p = _
  conv => lhs; unfold mulAux
  rw [if_neg h]
 rw [e1]
 exact (mulAux_more 7 _ _ _ (by rw [shr1_half]; have := b.toNat_lt; omega)).symm

/-! ### the field's laws -/
theorem xor_cancel (a : UInt8) : a ^^^ a = 0 := by simp
theorem xor_assoc (a b c : UInt8) : a ^^^ b ^^^ c = a ^^^ (b ^^^ c) := UInt8.xor_assoc a b c
theorem xor_comm (a b : UInt8) : a ^^^ b = b ^^^ a := UInt8.xor_comm a b
theorem mulAux_acc (n : Nat) : ∀ (a b p : UInt8), mulAux n a b p = p ^^^ mulAux n a b 0 := by
 induction n with
 | zero => intro a b p; simp [mulAux]
 | succ n ih =>
  intro a b p
  unfold mulAux
  by_cases h : b = 0
  ·
   simp [h]
  ·
   rw [if_neg h, if_neg h, ih, ih (p := if b &&& 1 = 1 then 0 ^^^ a else 0)]
   by_cases h1 : b &&& 1 = 1
   ·
    rw [if_pos h1, if_pos h1]; simp [xor_assoc]
   ·
    rw [if_neg h1, if_neg h1]; simp
theorem bit0 (a : UInt8) : a &&& 1 = 0 ∨ a &&& 1 = 1 := by
 revert a; exact all_u8 (by decide +kernel)
theorem bit7 (a : UInt8) : a &&& 128 = 0 ∨ a &&& 128 = 128 := by
 revert a; exact all_u8 (by decide +kernel)
theorem and_xor' (a b c : UInt8) : (a ^^^ b) &&& c = (a &&& c) ^^^ (b &&& c) := by
 apply UInt8.toBitVec_inj.1
 ext i
 simp [Bool.and_xor_distrib_right]
theorem dbl_eq (a : UInt8) : dbl a = (a <<< 1) ^^^ (if a &&& 128 = 128 then 29 else 0) := by
 unfold dbl
 rcases bit7 a with h | h <;> simp [h]
theorem bit_xor (x a b m : UInt8) (ha : a = 0 ∨ a = m) (hb : b = 0 ∨ b = m) (hm : m ≠ 0) : (if a ^^^ b = m then x else 0) = (if a = m then x else 0) ^^^ (if b = m then x else 0) := by
 have h0 : ¬ (0 : UInt8) = m := fun e => hm e.symm
 rcases ha with rfl | rfl <;> rcases hb with rfl | rfl <;> simp [h0]
theorem xor4 (a b c d : UInt8) : a ^^^ b ^^^ (c ^^^ d) = a ^^^ c ^^^ (b ^^^ d) := by
 rw [xor_assoc, xor_assoc, ← xor_assoc b, xor_comm b c, xor_assoc c]
theorem dbl_xor (a b : UInt8) : dbl (a ^^^ b) = dbl a ^^^ dbl b := by
 rw [dbl_eq, dbl_eq, dbl_eq, UInt8.shiftLeft_xor, and_xor', bit_xor 29 _ _ 128 (bit7 a) (bit7 b) (by decide), xor4]
theorem shr_xor (a b : UInt8) : (a ^^^ b) >>> 1 = (a >>> 1) ^^^ (b >>> 1) := UInt8.shiftRight_xor
theorem odd_xor (x a b : UInt8) : (if (a ^^^ b) &&& 1 = 1 then x else 0) = (if a &&& 1 = 1 then x else 0) ^^^ (if b &&& 1 = 1 then x else 0) := by
 rw [and_xor', bit_xor x _ _ 1 (bit0 a) (bit0 b) (by decide)]

/-- The product without the early end. -/
def mulBits : Nat → UInt8 → UInt8 → UInt8
 | 0, _, _ => 0
 | n + 1, a, b => (if b &&& 1 = 1 then a else 0) ^^^ mulBits n (dbl a) (b >>> 1)
theorem mulBits_zero (n : Nat) : ∀ a, mulBits n a 0 = 0 := by
 induction n with
 | zero => intro a; rfl
 | succ n ih => intro a; simp [mulBits]; exact ih _
theorem mulAux_bits (n : Nat) : ∀ a b, mulAux n a b 0 = mulBits n a b := by
 induction n with
 | zero => intro a b; rfl
 | succ n ih =>
  intro a b
  unfold mulAux mulBits
  by_cases h : b = 0
  ·
   subst h; simp; exact (mulBits_zero n _).symm
  ·
   rw [if_neg h, mulAux_acc, ih]
   by_cases h1 : b &&& 1 = 1
   ·
    rw [if_pos h1, if_pos h1]; simp
   ·
    rw [if_neg h1, if_neg h1]
theorem mul_bits (a b : UInt8) : mul a b = mulBits 8 a b := mulAux_bits 8 a b
theorem mulBits_xor (n : Nat) : ∀ (c a b : UInt8), mulBits n c (a ^^^ b) = mulBits n c a ^^^ mulBits n c b := by
 induction n with
 | zero => intro c a b; simp [mulBits]
 | succ n ih => intro c a b; simp only [mulBits]; rw [odd_xor, shr_xor, ih, xor4]
theorem ite_xor (p : Prop) [Decidable p] (a b : UInt8) : (if p then a ^^^ b else 0) = (if p then a else 0) ^^^ (if p then b else 0) := by
 by_cases h : p <;> simp [h]
theorem mulBits_xor' (n : Nat) : ∀ (a b c : UInt8), mulBits n (a ^^^ b) c = mulBits n a c ^^^ mulBits n b c := by
 induction n with
 | zero => intro a b c; simp [mulBits]
 | succ n ih => intro a b c; simp only [mulBits]; rw [dbl_xor, ih, ite_xor, xor4]
theorem mul_xor (c a b : UInt8) : mul c (a ^^^ b) = mul c a ^^^ mul c b := by
 rw [mul_bits, mul_bits, mul_bits, mulBits_xor]
theorem xor_mul (a b c : UInt8) : mul (a ^^^ b) c = mul a c ^^^ mul b c := by
 rw [mul_bits, mul_bits, mul_bits, mulBits_xor']
/-- Two additive functions that agree at the bits agree. -/
theorem lin_ext {f g : UInt8 → UInt8} (hf : ∀ a b, f (a ^^^ b) = f a ^^^ f b) (hg : ∀ a b, g (a ^^^ b) = g a ^^^ g b)
  (h : ∀ i : Fin 8, f (UInt8.ofNat (2 ^ i.val)) = g (UInt8.ofNat (2 ^ i.val))) (a : UInt8) : f a = g a := by
 have f0 : f 0 = 0 := by have := hf 0 0; simpa using this
 have g0 : g 0 = 0 := by have := hg 0 0; simpa using this
 have hb : ∀ (i : Fin 8) (x : UInt8), (x = 0 ∨ x = UInt8.ofNat (2 ^ i.val)) → f x = g x := by
  intro i x hx
  rcases hx with rfl | rfl
  ·
   rw [f0, g0]
  ·
   exact h i
 have hs : ∀ x : UInt8, x = (x &&& 1) ^^^ ((x &&& 2) ^^^ ((x &&& 4) ^^^ ((x &&& 8) ^^^ ((x &&& 16) ^^^ ((x &&& 32) ^^^ ((x &&& 64) ^^^ (x &&& 128))))))) := by
  exact all_u8 (by decide +kernel)
 have h0 : ∀ x : UInt8, x &&& 1 = 0 ∨ x &&& 1 = UInt8.ofNat (2 ^ (0 : Fin 8).val) := all_u8 (by decide +kernel)
 have h1 : ∀ x : UInt8, x &&& 2 = 0 ∨ x &&& 2 = UInt8.ofNat (2 ^ (1 : Fin 8).val) := all_u8 (by decide +kernel)
 have h2 : ∀ x : UInt8, x &&& 4 = 0 ∨ x &&& 4 = UInt8.ofNat (2 ^ (2 : Fin 8).val) := all_u8 (by decide +kernel)
 have h3 : ∀ x : UInt8, x &&& 8 = 0 ∨ x &&& 8 = UInt8.ofNat (2 ^ (3 : Fin 8).val) := all_u8 (by decide +kernel)
 have h4 : ∀ x : UInt8, x &&& 16 = 0 ∨ x &&& 16 = UInt8.ofNat (2 ^ (4 : Fin 8).val) := all_u8 (by decide +kernel)
 have h5 : ∀ x : UInt8, x &&& 32 = 0 ∨ x &&& 32 = UInt8.ofNat (2 ^ (5 : Fin 8).val) := all_u8 (by decide +kernel)
 have h6 : ∀ x : UInt8, x &&& 64 = 0 ∨ x &&& 64 = UInt8.ofNat (2 ^ (6 : Fin 8).val) := all_u8 (by decide +kernel)
 have h7 : ∀ x : UInt8, x &&& 128 = 0 ∨ x &&& 128 = UInt8.ofNat (2 ^ (7 : Fin 8).val) := all_u8 (by decide +kernel)
 rw [hs a]
 simp only [hf, hg]
 rw [hb 0 _ (h0 a), hb 1 _ (h1 a), hb 2 _ (h2 a), hb 3 _ (h3 a), hb 4 _ (h4 a), hb 5 _ (h5 a), hb 6 _ (h6 a), hb 7 _ (h7 a)]
theorem mul_comm (a b : UInt8) : mul a b = mul b a := by
 refine lin_ext (f := fun a => mul a b) (g := fun a => mul b a) (fun x y => xor_mul x y b) (fun x y => mul_xor b x y) (fun i => ?_) a
 refine lin_ext (f := fun b => mul (UInt8.ofNat (2 ^ i.val)) b) (g := fun b => mul b (UInt8.ofNat (2 ^ i.val))) (fun x y => mul_xor _ x y) (fun x y => xor_mul x y _) (fun j => ?_) b
 revert i j; decide +kernel
theorem mul_assoc (a b c : UInt8) : mul (mul a b) c = mul a (mul b c) := by
 refine lin_ext (f := fun a => mul (mul a b) c) (g := fun a => mul a (mul b c)) (fun x y => by simp only [xor_mul]) (fun x y => by simp only [xor_mul]) (fun i => ?_) a
 refine lin_ext (f := fun b => mul (mul (UInt8.ofNat (2 ^ i.val)) b) c) (g := fun b => mul (UInt8.ofNat (2 ^ i.val)) (mul b c)) (fun x y => by simp only [xor_mul, mul_xor]) (fun x y => by simp only [xor_mul, mul_xor]) (fun j => ?_) b
 refine lin_ext (f := fun c => mul (mul (UInt8.ofNat (2 ^ i.val)) (UInt8.ofNat (2 ^ j.val))) c) (g := fun c => mul (UInt8.ofNat (2 ^ i.val)) (mul (UInt8.ofNat (2 ^ j.val)) c)) (fun x y => by simp only [mul_xor]) (fun x y => by simp only [mul_xor]) (fun k => ?_) c
 revert i j k; decide +kernel
theorem mul_zero (a : UInt8) : mul a 0 = 0 := by rw [mul]; exact mulAux_zero _ _ _
theorem zero_mul (a : UInt8) : mul 0 a = 0 := by rw [mul_comm]; exact mul_zero a
theorem one_mul (a : UInt8) : mul 1 a = a := lin_ext (f := fun a => mul 1 a) (g := fun a => a) (fun x y => mul_xor 1 x y) (fun _ _ => rfl) (by decide +kernel) a
theorem mul_one (a : UInt8) : mul a 1 = a := by rw [mul_comm]; exact one_mul a
theorem mul_inv (a : UInt8) (h : a ≠ 0) : mul a (inv a) = 1 := by
 revert a; exact all_u8 (by decide +kernel)
theorem nibbles (a : UInt8) : UInt8.ofNat (bv a % 16).toNat ^^^ UInt8.ofNat (bv a / 16).toNat * 16 = a := by
 revert a; exact all_u8 (by decide +kernel)
end Gf
end Go.Proofs.YtfcakjpljjnjnaaGreatDoor
/- Words for memory: a block known whole, slices of bytes, of ints and of byte slices that read as lists. No program in sight. -/
namespace Go.Proofs.YtfcakjpljjnjnaaGreatDoor
open Go Go.RowKit Gf

/-- Block g is just the cells cs of element type t, none frozen. -/
def Blk (w : World) (g : Nat) (t : TypeId) (cs : Array Value) : Prop := w.heap[g]? = some (.cells cs t (0, 0))

section
variable {w w' : World} {g : Nat} {t : TypeId} {cs : Array Value}
theorem Blk.lt (h : Blk w g t cs) : g < w.heap.size := by
 rcases Nat.lt_or_ge g w.heap.size with hlt | hge
 ·
  exact hlt
 ·
  unfold Blk at h; rw [Array.getElem?_eq_none hge] at h; cases h
theorem Blk.cell (h : Blk w g t cs) (i : Nat) : w.cell? ⟨g, i, none⟩ = cs[i]? := cell_of_row w g i cs t (0, 0) h
theorem Blk.frozen (h : Blk w g t cs) (i : Nat) : w.frozen? ⟨g, i, none⟩ = false := by
 unfold Blk at h
 simp [World.frozen?, h]
theorem Blk.new (w : World) (t : TypeId) (cs : Array Value) : Blk (w.alloc (.cells cs t)) w.heap.size t cs := heap_alloc_new w _
theorem Blk.drew (h : Blk w g t cs) : Blk w.drew g t cs := h
theorem Blk.drewN (h : Blk w g t cs) (n : Nat) : Blk (w.drewN n) g t cs := h
theorem Blk.alloc (h : Blk w g t cs) (o : Obj) : Blk (w.alloc o) g t cs := (Below.heap_alloc w o g h.lt).trans h
theorem Blk.set_ (h : Blk w g t cs) (i : Nat) (u : Value) : Blk (w.setCell ⟨g, i, none⟩ u) g t (cs.setIfInBounds i u) := by
 unfold Blk at h ⊢
 simp [World.setCell, Array.getElem?_modify, h]
theorem Blk.far (h : Blk w g t cs) {p : Addr} (hp : g ≠ p.block) (u : Value) : Blk (w.setCell p u) g t cs := (Below.heap_setCell w p u g hp).trans h
theorem Blk.below {B : Nat} (h : Blk w g t cs) (hb : Below B w w') (hg : g < B) : Blk w' g t cs := (hb.block g hg).trans h
theorem Blk.kept (h : Blk w g t cs) (hb : Below w.heap.size w w') : Blk w' g t cs := (hb.block g h.lt).trans h
theorem Blk.inj {t' : TypeId} {cs' : Array Value} (h : Blk w g t cs) (h' : Blk w g t' cs') : cs = cs' := by
 unfold Blk at h h'
 rw [h] at h'
 injection h' with h'
 injection h' with h1
end

theorem below_drewN {B : Nat} {a w : World} (h : Below B a w) (n : Nat) : Below B a (w.drewN n) := ⟨h.os, h.tape, h.output, h.size, h.block⟩
theorem below_ofDrew {w w' : World} (h : Below w.drew.heap.size w.drew w') : Below w.heap.size w w' := ⟨h.os, h.tape, h.output, h.size, h.block⟩
theorem size_drewN (w : World) (n : Nat) : (w.drewN n).heap.size = w.heap.size := rfl

/-- A cell that is there lies below the heap's size. -/
theorem cell_lt {w : World} {p : Addr} {v : Value} (h : w.cell? p = some v) : p.block < w.heap.size := by
 rcases Nat.lt_or_ge p.block w.heap.size with hlt | hge
 ·
  exact hlt
 ·
  unfold World.cell? at h; rw [Array.getElem?_eq_none hge] at h; cases h

/-- What was there is there. -/
theorem cell_kept {w w' : World} {p : Addr} {v : Value} (hb : Below w.heap.size w w') (h : w.cell? p = some v) : w'.cell? p = some v :=
 (hb.cell (cell_lt h)).trans h

/-- A call's own frame, twice. -/
theorem below_then {w w1 w2 : World} (h : Below w.heap.size w w1) (k : Below w1.heap.size w1 w2) : Below w.heap.size w w2 :=
 h.trans (k.mono h.size)
theorem below_thenB {B : Nat} {w w1 w2 : World} (h : Below B w w1) (hB : B ≤ w1.heap.size) (k : Below w1.heap.size w1 w2) : Below B w w2 :=
 h.trans (k.mono hB)

/-- Element k of a list of bytes, of rows, of ints: plain defs, so that the walk's simp does not respell them. -/
def gB (l : List UInt8) (k : Nat) : UInt8 := l.getD k 0
def gR (m : List (List UInt8)) (k : Nat) : List UInt8 := m.getD k []
def gI (z : List Int) (k : Nat) : Int := z.getD k 0
theorem gB_eq {l : List UInt8} {k : Nat} (h : k < l.length) : gB l k = l[k] := by simp [gB, List.getD, List.getElem?_eq_getElem h]
theorem gR_eq {m : List (List UInt8)} {k : Nat} (h : k < m.length) : gR m k = m[k] := by simp [gR, List.getD, List.getElem?_eq_getElem h]
theorem gI_eq {z : List Int} {k : Nat} (h : k < z.length) : gI z k = z[k] := by simp [gI, List.getD, List.getElem?_eq_getElem h]
theorem gR_set_self {m : List (List UInt8)} {k : Nat} (h : k < m.length) (l : List UInt8) : gR (m.set k l) k = l := by
 rw [gR, List.getD_eq_getElem?_getD, List.getElem?_set_self h, Option.getD_some]
theorem gR_set_ne {m : List (List UInt8)} {k j : Nat} (h : k ≠ j) (l : List UInt8) : gR (m.set k l) j = gR m j := by
 rw [gR, gR, List.getD_eq_getElem?_getD, List.getElem?_set_ne h, ← List.getD_eq_getElem?_getD]

/-- Of what was there, only blocks in S may have turned. -/
structure Kp (S : Nat → Prop) (w w' : World) : Prop where
 os : w'.os = w.os
 tape : w'.tape = w.tape
 output : w'.output = w.output
 size : w.heap.size ≤ w'.heap.size
 block : ∀ k, k < w.heap.size → ¬ S k → w'.heap[k]? = w.heap[k]?

section
variable {S S' : Nat → Prop} {w w1 w2 : World}
theorem Kp.refl (S : Nat → Prop) (w : World) : Kp S w w := ⟨rfl, rfl, rfl, Nat.le_refl _, fun _ _ _ => rfl⟩
theorem Kp.mono (h : Kp S w w1) (hs : ∀ k, k < w.heap.size → S k → S' k) : Kp S' w w1 := ⟨h.os, h.tape, h.output, h.size, fun k hk hn => h.block k hk (fun hS => hn (hs k hk hS))⟩
theorem Kp.trans (h : Kp S w w1) (k : Kp S w1 w2) : Kp S w w2 :=
 ⟨k.os.trans h.os, k.tape.trans h.tape, k.output.trans h.output, Nat.le_trans h.size k.size, fun i hi hn => (k.block i (Nat.lt_of_lt_of_le hi h.size) hn).trans (h.block i hi hn)⟩
theorem Kp.of_below (h : Below w.heap.size w w1) : Kp S w w1 := ⟨h.os, h.tape, h.output, h.size, fun i hi _ => h.block i hi⟩
theorem Kp.below (h : Kp S w w1) {b : Nat} (hb : b ≤ w.heap.size) (hs : ∀ k, S k → b ≤ k) : Below b w w1 :=
 ⟨h.os, h.tape, h.output, h.size, fun i hi => h.block i (Nat.lt_of_lt_of_le hi hb) (fun hS => by have := hs i hS; omega)⟩
theorem Kp.then (h : Kp S w w1) (k : Below w1.heap.size w1 w2) : Kp S w w2 := h.trans (Kp.of_below k)
theorem Kp.drew (h : Kp S w w1) : Kp S w w1.drew := ⟨h.os, h.tape, h.output, h.size, h.block⟩
theorem Kp.drewN (h : Kp S w w1) (n : Nat) : Kp S w (w1.drewN n) := ⟨h.os, h.tape, h.output, h.size, h.block⟩
theorem Kp.alloc (h : Kp S w w1) (o : Obj) : Kp S w (w1.alloc o) :=
 h.trans ⟨rfl, rfl, rfl, by simp, fun i hi _ => Below.heap_alloc w1 o i hi⟩
theorem Kp.set (h : Kp S w w1) {p : Addr} (hp : S p.block ∨ w.heap.size ≤ p.block) (v : Value) : Kp S w (w1.setCell p v) :=
 ⟨h.os, h.tape, h.output, by rw [World.size_setCell]; exact h.size, fun i hi hn => (Below.heap_setCell w1 p v i (fun e => by
  subst e
  rcases hp with hp | hp
  ·
   exact hn hp
  ·
   omega)).trans (h.block i hi hn)⟩
theorem Kp.blk {g : Nat} {t : TypeId} {cs : Array Value} (h : Kp S w w1) (hb : Blk w g t cs) (hn : ¬ S g) : Blk w1 g t cs := (h.block g hb.lt hn).trans hb
theorem Kp.cell (h : Kp S w w1) {p : Addr} {v : Value} (hc : w.cell? p = some v) (hn : ¬ S p.block) : w1.cell? p = some v :=
 (World.cell?_of_block (h.block p.block (cell_lt hc) hn)).trans hc
theorem Kp.own (h : Kp S w w1) {base : Nat} {e : TypeId} {v : Value} {n : Nat} {xs : List Value} (ho : w.ownsRow base e 1 v n xs) (hn : ∀ g, v.ownBlock = some g → ¬ S g) : w1.ownsRow base e 1 v n xs := by
 refine ⟨ho.1, ?_⟩
 rcases ho.2 with h0 | ⟨g, cap, cur, rfl, hb, hh, hr⟩
 ·
  exact .inl h0
 ·
  refine .inr ⟨g, cap, cur, rfl, hb, ?_, hr⟩
  have hlt : g < w.heap.size := by
   rcases Nat.lt_or_ge g w.heap.size with h1 | h1
   ·
    exact h1
   ·
    rw [Array.getElem?_eq_none h1] at hh; cases hh
  exact (h.block g hlt (hn g rfl)).trans hh
theorem Kp.grown (h : Kp S w w1) {row : Option Nat} (hg : w1.grownBy w2 row) (hr : ∀ k, row = some k → S k ∨ w.heap.size ≤ k) : Kp S w w2 :=
 ⟨hg.os.trans h.os, hg.tape.trans h.tape, hg.output.trans h.output, Nat.le_trans h.size hg.size, fun i hi hn =>
  (hg.block i (Nat.lt_of_lt_of_le hi h.size) (fun e => by
   rcases hr i e.symm with h1 | h1
   ·
    exact hn h1
   ·
    omega)).trans (h.block i hi hn)⟩
end

/-- The greatest capacity in bytes that a slice is let to have. -/
def lim : Nat := 140737488355328

/-- The slice value '.slice A n c' has the cells f 0, f 1, .. f (n - 1). -/
def Cells (w : World) (A : Option Addr) (n : Nat) (f : Nat → Value) : Prop :=
 ∀ k, k < n → ∃ g o, A = some ⟨g, o, none⟩ ∧ w.cell? ⟨g, o + k, none⟩ = some (f k)

theorem Cells.kept {w w' : World} {A : Option Addr} {n : Nat} {f : Nat → Value} (h : Cells w A n f) (hb : Below w.heap.size w w') : Cells w' A n f :=
 fun k hk => let ⟨g, o, e, hc⟩ := h k hk; ⟨g, o, e, cell_kept hb hc⟩
theorem Cells.drewN {w : World} {A : Option Addr} {n : Nat} {f : Nat → Value} (h : Cells w A n f) (k : Nat) : Cells (w.drewN k) A n f := h
/-- A store at a cell that holds another kind of value turns none of them. -/
theorem Cells.store {w : World} {A : Option Addr} {n : Nat} {f : Nat → Value} (h : Cells w A n f) {p : Addr} {u : Value} (hp : w.cell? p = some u) (hne : ∀ k, k < n → u ≠ f k) (v : Value) : Cells (w.setCell p v) A n f :=
 fun k hk => let ⟨g, o, e, hc⟩ := h k hk
  ⟨g, o, e, (World.cell?_setCell_other w p _ v (fun e' => by rw [← e', hp] at hc; injection hc with hc; exact hne k hk hc)).trans hc⟩

/-- Bytes. -/
def BS (w : World) (A : Option Addr) (n c : Nat) (l : List UInt8) : Prop :=
 l.length = n ∧ n ≤ c ∧ n ≤ lim ∧ Cells w A n (fun k => B (gB l k))
/-- Ints. -/
def IS (w : World) (A : Option Addr) (n c : Nat) (l : List Int) : Prop :=
 l.length = n ∧ n ≤ c ∧ n * 8 ≤ lim ∧ Cells w A n (fun k => .int .i64 (gI l k))
/-- Slices of bytes. -/
def MS (w : World) (A : Option Addr) (n c : Nat) (m : List (List UInt8)) : Prop :=
 m.length = n ∧ n ≤ c ∧ n * 24 ≤ lim ∧ ∀ k, k < n → ∃ g o A' n' c', A = some ⟨g, o, none⟩ ∧ w.cell? ⟨g, o + k, none⟩ = some (.slice A' n' c') ∧ BS w A' n' c' (gR m k)

section
variable {w w' : World} {A : Option Addr} {n c : Nat} {l : List UInt8} {m : List (List UInt8)} {z : List Int}
theorem BS.kept (h : BS w A n c l) (hb : Below w.heap.size w w') : BS w' A n c l := ⟨h.1, h.2.1, h.2.2.1, h.2.2.2.kept hb⟩
theorem BS.drew (h : BS w A n c l) : BS w.drew A n c l := h
theorem IS.drew (h : IS w A n c z) : IS w.drew A n c z := h
theorem MS.drew (h : MS w A n c m) : MS w.drew A n c m := h
theorem BS.drewN (h : BS w A n c l) (k : Nat) : BS (w.drewN k) A n c l := h
theorem IS.kept (h : IS w A n c z) (hb : Below w.heap.size w w') : IS w' A n c z := ⟨h.1, h.2.1, h.2.2.1, h.2.2.2.kept hb⟩
theorem MS.kept (h : MS w A n c m) (hb : Below w.heap.size w w') : MS w' A n c m :=
 ⟨h.1, h.2.1, h.2.2.1, fun k hk => let ⟨g, o, A', n', c', e, hc, hr⟩ := h.2.2.2 k hk; ⟨g, o, A', n', c', e, cell_kept hb hc, hr.kept hb⟩⟩
theorem BS.at_ (h : BS w A n c l) (hb : Below w.heap.size w w') {k : Nat} (hk : k < n) : ∃ g o, A = some ⟨g, o, none⟩ ∧ w'.cell? ⟨g, o + k, none⟩ = some (B (gB l k)) :=
 (h.kept hb).2.2.2 k hk
theorem IS.at_ (h : IS w A n c z) (hb : Below w.heap.size w w') {k : Nat} (hk : k < n) : ∃ g o, A = some ⟨g, o, none⟩ ∧ w'.cell? ⟨g, o + k, none⟩ = some (.int .i64 (gI z k)) :=
 (h.kept hb).2.2.2 k hk
theorem MS.at_ (h : MS w A n c m) (hb : Below w.heap.size w w') {k : Nat} (hk : k < n) :
  ∃ g o A' n' c', A = some ⟨g, o, none⟩ ∧ w'.cell? ⟨g, o + k, none⟩ = some (.slice A' n' c') ∧ BS w' A' n' c' (gR m k) :=
 (h.kept hb).2.2.2 k hk
theorem BS.len_le (h : BS w A n c l) : n ≤ 140737488355328 := by have := h.2.2.1; unfold lim at this; omega
theorem IS.len_le (h : IS w A n c z) : n * 8 ≤ 140737488355328 := by have := h.2.2.1; unfold lim at this; omega
theorem MS.len_le (h : MS w A n c m) : n * 24 ≤ 140737488355328 := by have := h.2.2.1; unfold lim at this; omega
theorem BS.nil : BS w none 0 0 [] := ⟨rfl, Nat.le_refl _, by decide, fun k hk => absurd hk (by omega)⟩
theorem IS.nil : IS w none 0 0 [] := ⟨rfl, Nat.le_refl _, by decide, fun k hk => absurd hk (by omega)⟩
theorem MS.nil : MS w none 0 0 [] := ⟨rfl, Nat.le_refl _, by decide, fun k hk => absurd hk (by omega)⟩
end

/-- A list of bytes as the cells of a block. -/
def row (l : List UInt8) : Array Value := (l.map B).toArray
theorem row_size (l : List UInt8) : (row l).size = l.length := by simp [row]
theorem row_get (l : List UInt8) (k : Nat) (h : k < l.length) : (row l)[k]? = some (B (gB l k)) := by
 rw [gB_eq h]; simp [row, List.getElem?_eq_getElem h]
theorem row_set (l : List UInt8) (k : Nat) (b : UInt8) : (row l).setIfInBounds k (B b) = row (l.set k b) := by
 simp [row, List.map_set]

theorem BS.of_own {w : World} {base : Nat} {t : TypeId} {v : Value} {n : Nat} {l : List UInt8} (h : w.ownsRow base t 1 v n (l.map B)) (hn : n ≤ lim) : ∃ A c, v = .slice A n c ∧ BS w A n c l := by
 have hl : l.length = n := by have := h.1; simpa using this
 rcases h.2 with ⟨rfl, rfl⟩ | ⟨g, cap, cur, rfl, _, hh, hnc, _, hsz, htk⟩
 ·
  exact ⟨none, 0, rfl, hl, Nat.le_refl _, hn, fun k hk => absurd hk (by omega)⟩
 ·
  refine ⟨some ⟨g, 0, none⟩, cap, rfl, hl, hnc, hn, fun k hk => ⟨g, 0, rfl, ?_⟩⟩
  have hkl : k < l.length := by omega
  show _ = some (B (gB l k))
  rw [Nat.zero_add, h.cellAt k (by omega), gB_eq hkl]
  simp [List.getElem?_eq_getElem hkl]
def zeros (n : Nat) : List UInt8 := List.replicate n 0
theorem zeros_length (n : Nat) : (zeros n).length = n := by simp [zeros]
/-- The first k elements mapped, the others 0. -/
def part (f : UInt8 → UInt8) (l : List UInt8) (k : Nat) : List UInt8 := (l.take k).map f ++ List.replicate (l.length - k) 0
theorem part_zero (f : UInt8 → UInt8) (l : List UInt8) : part f l 0 = zeros l.length := by simp [part, zeros]
theorem part_all (f : UInt8 → UInt8) (l : List UInt8) (k : Nat) (h : l.length ≤ k) : part f l k = l.map f := by
 simp [part, List.take_of_length_le h, Nat.sub_eq_zero_of_le h]
theorem part_length (f : UInt8 → UInt8) (l : List UInt8) (k : Nat) (h : k ≤ l.length) : (part f l k).length = l.length := by
 simp [part]; omega
theorem part_set (f : UInt8 → UInt8) (l : List UInt8) (k : Nat) (h : k < l.length) : (part f l k).set k (f (gB l k)) = part f l (k + 1) := by
 have e : l.length - k = (l.length - (k + 1)) + 1 := by omega
 have hl : ((l.take k).map f).length = k := by simp; omega
 unfold part
 rw [List.set_append, if_neg (by omega), hl, Nat.sub_self, e, List.replicate_succ, List.set_cons_zero, List.take_succ_eq_append_getElem h, List.map_append, List.append_assoc]
 simp only [List.map_cons, List.map_nil, List.cons_append, List.nil_append, gB_eq h]

/-- A block that is known whole, as a slice from its head. -/
theorem BS.of_blk {w : World} {g n : Nat} {t : TypeId} {l : List UInt8} (h : Blk w g t (row l)) (hn : l.length = n) (hl : n ≤ lim) : BS w (some ⟨g, 0, none⟩) n n l :=
 ⟨hn, Nat.le_refl _, hl, fun k hk => ⟨g, 0, rfl, by rw [Nat.zero_add, h.cell]; exact row_get l k (by omega)⟩⟩

/-- Block g holds slices that read as the rows of m. -/
def RowsBlk (w : World) (g : Nat) (t : TypeId) (cs : Array Value) (m : List (List UInt8)) : Prop :=
 Blk w g t cs ∧ m.length ≤ cs.size ∧ ∀ i, i < m.length → ∃ A n c, cs[i]? = some (.slice A n c) ∧ BS w A n c (gR m i)

section
variable {w w' : World} {g : Nat} {t : TypeId} {cs : Array Value} {m : List (List UInt8)}
theorem RowsBlk.kept (h : RowsBlk w g t cs m) (hb : Below w.heap.size w w') : RowsBlk w' g t cs m :=
 ⟨h.1.kept hb, h.2.1, fun i hi => let ⟨A, n, c, e, hr⟩ := h.2.2 i hi; ⟨A, n, c, e, hr.kept hb⟩⟩
theorem RowsBlk.drew (h : RowsBlk w g t cs m) : RowsBlk w.drew g t cs m := h
theorem RowsBlk.drewN (h : RowsBlk w g t cs m) (k : Nat) : RowsBlk (w.drewN k) g t cs m := h
theorem BS.store {A : Option Addr} {n c : Nat} {l : List UInt8} (h : BS w A n c l) {p : Addr} {B' : Option Addr} {n' c' : Nat} (hp : w.cell? p = some (.slice B' n' c')) (v : Value) : BS (w.setCell p v) A n c l :=
 ⟨h.1, h.2.1, h.2.2.1, h.2.2.2.store hp (fun k _ e => by cases e) v⟩
theorem BS.far {A : Option Addr} {n c : Nat} {l : List UInt8} (h : BS w A n c l) {p : Addr} (hp : ∀ g o, A = some ⟨g, o, none⟩ → g ≠ p.block) (v : Value) : BS (w.setCell p v) A n c l :=
 ⟨h.1, h.2.1, h.2.2.1, fun k hk => by
  obtain ⟨g, o, e, hc⟩ := h.2.2.2 k hk
  exact ⟨g, o, e, (World.cell?_setCell_other w p _ v (fun e' => hp g o e (by rw [e']))).trans hc⟩⟩
theorem RowsBlk.cell (h : RowsBlk w g t cs m) {i : Nat} (hi : i < m.length) : ∃ A n c, w.cell? ⟨g, i, none⟩ = some (.slice A n c) ∧ BS w A n c (gR m i) := by
 obtain ⟨A, n, c, e, hr⟩ := h.2.2 i hi
 exact ⟨A, n, c, by rw [h.1.cell]; exact e, hr⟩
theorem RowsBlk.set_ (h : RowsBlk w g t cs m) {i : Nat} (hi : i < m.length) {A : Option Addr} {n c : Nat} {l : List UInt8} (hl : BS w A n c l) :
  RowsBlk (w.setCell ⟨g, i, none⟩ (.slice A n c)) g t (cs.setIfInBounds i (.slice A n c)) (m.set i l) := by
 obtain ⟨A0, n0, c0, hc0, _⟩ := h.cell hi
 refine ⟨h.1.set_ i _, by simp [h.2.1], fun j hj => ?_⟩
 rw [List.length_set] at hj
 by_cases e : i = j
 ·
  subst e
  refine ⟨A, n, c, by rw [Array.getElem?_setIfInBounds_self_of_lt (by have := h.2.1; omega)], ?_⟩
  rw [gR_set_self hi]
  exact hl.store hc0 _
 ·
  obtain ⟨A1, n1, c1, e1, hr⟩ := h.2.2 j hj
  refine ⟨A1, n1, c1, by rw [Array.getElem?_setIfInBounds_ne e]; exact e1, ?_⟩
  rw [gR_set_ne e]
  exact hr.store hc0 _
theorem RowsBlk.far (h : RowsBlk w g t cs m) {p : Addr} (hp : g ≠ p.block) {u : Value} (hu : w.cell? p = some u) (hne : ∀ b, u ≠ B b) (v : Value) : RowsBlk (w.setCell p v) g t cs m :=
 ⟨h.1.far hp v, h.2.1, fun i hi => let ⟨A, n, c, e, hr⟩ := h.2.2 i hi; ⟨A, n, c, e, hr.1, hr.2.1, hr.2.2.1, hr.2.2.2.store hu (fun _ _ => hne _) v⟩⟩
theorem RowsBlk.toMS (h : RowsBlk w g t cs m) {n c : Nat} (hn : m.length = n) (hc : n ≤ c) (hl : n * 24 ≤ lim) : MS w (some ⟨g, 0, none⟩) n c m :=
 ⟨hn, hc, hl, fun k hk => by
  subst hn
  obtain ⟨A, n, c, e, hr⟩ := h.cell hk
  exact ⟨g, 0, A, n, c, rfl, by rw [Nat.zero_add]; exact e, hr⟩⟩
end

/-- v is a new slice of byte slices over a block of its own; nothing old has turned. -/
def NewM (t : TypeId) (m : List (List UInt8)) (w : World) (v : Value) (w' : World) : Prop :=
 ∃ g cs n, v = .slice (some ⟨g, 0, none⟩) n n ∧ m.length = n ∧ w.heap.size ≤ g ∧ RowsBlk w' g t cs m ∧ Below w.heap.size w w'

/-- v is a new byte slice over a block of its own that holds l; nothing old has turned. -/
def NewB (t : TypeId) (l : List UInt8) (w : World) (v : Value) (w' : World) : Prop :=
 ∃ g n, v = .slice (some ⟨g, 0, none⟩) n n ∧ l.length = n ∧ w.heap.size ≤ g ∧ Blk w' g t (row l) ∧ Below w.heap.size w w'
/-- dst plus src times c, byte by byte. -/
def muladd (dst src : List UInt8) (c : UInt8) : List UInt8 := List.zipWith (fun s d => mul c s ^^^ d) src dst
/-- After k rounds of MulAdd. -/
def mpart (dst src : List UInt8) (c : UInt8) (k : Nat) : List UInt8 := (muladd dst src c).take k ++ (src.map (mul c)).drop k
theorem muladd_length (dst src : List UInt8) (c : UInt8) (h : dst.length = src.length) : (muladd dst src c).length = src.length := by
 simp [muladd]; omega
theorem mpart_zero (dst src : List UInt8) (c : UInt8) : mpart dst src c 0 = src.map (mul c) := by simp [mpart]
theorem mpart_all (dst src : List UInt8) (c : UInt8) (h : dst.length = src.length) (k : Nat) (hk : src.length ≤ k) : mpart dst src c k = muladd dst src c := by
 simp [mpart, List.take_of_length_le (show (muladd dst src c).length ≤ k by rw [muladd_length _ _ _ h]; exact hk), hk]
theorem mpart_length (dst src : List UInt8) (c : UInt8) (h : dst.length = src.length) (k : Nat) (hk : k ≤ src.length) : (mpart dst src c k).length = src.length := by
 simp [mpart, muladd_length _ _ _ h]; omega
theorem mpart_get (dst src : List UInt8) (c : UInt8) (h : dst.length = src.length) (k : Nat) (hk : k < src.length) : gB (mpart dst src c k) k = mul c (gB src k) := by
 have hl : ((muladd dst src c).take k).length = k := by simp [muladd_length _ _ _ h]; omega
 simp only [mpart, gB, List.getD_eq_getElem?_getD]
 rw [List.getElem?_append_right (by omega), hl, Nat.sub_self, List.getElem?_drop]
 simp [List.getElem?_eq_getElem hk]
theorem mpart_set (dst src : List UInt8) (c : UInt8) (h : dst.length = src.length) (k : Nat) (hk : k < src.length) :
  (mpart dst src c k).set k (mul c (gB src k) ^^^ gB dst k) = mpart dst src c (k + 1) := by
 have hm : k < (muladd dst src c).length := by rw [muladd_length _ _ _ h]; exact hk
 have hl : ((muladd dst src c).take k).length = k := by simp; omega
 have hd : k < (src.map (mul c)).length := by simpa using hk
 have e : (muladd dst src c)[k] = mul c (gB src k) ^^^ gB dst k := by
  rw [gB_eq hk, gB_eq (show k < dst.length by omega)]; simp [muladd]
 unfold mpart
 rw [List.set_append, if_neg (by omega), hl, Nat.sub_self, List.drop_eq_getElem_cons hd, List.set_cons_zero, List.take_succ_eq_append_getElem hm, e, List.append_assoc]
 rfl
end Go.Proofs.YtfcakjpljjnjnaaGreatDoor
