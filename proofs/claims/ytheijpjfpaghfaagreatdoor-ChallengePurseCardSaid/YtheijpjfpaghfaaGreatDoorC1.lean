/- Several texts in one: Gf, Sha, Rot. -/
import Derived.Laws.BitsAllLaws
import Derived.Laws.BitsLemmas
import Derived.KernelRfl
import Derived.Test.YtheijpjfpaghfaaGreatDoorChecked
import Derived.WalkKit
import Derived.WalkLawsBesides
import Derived.WalkSpells
import Derived.Lib.Hide
/- Plain arithmetic of the field of 256 elements on UInt8: definitions that follow the program's own steps, and bridges from the walk's spelling of byte operations. No program in sight. -/
namespace Go.Proofs.YtheijpjfpaghfaaGreatDoor
open Go

namespace Gf
/-- A byte as an integer: a plain def, so that the walk's simp does not look behind it. -/
def bv (x : UInt8) : Int := (x.toNat : Int)
/-- The value of a byte. -/
abbrev B (x : UInt8) : Value := .int .u8 (bv x)
theorem bv_lo (x : UInt8) : 0 ≤ bv x := by unfold bv; omega
theorem bv_hi (x : UInt8) : bv x < 256 := by unfold bv; have := x.toNat_lt; omega
def dbl (a : UInt8) : UInt8 := if (a &&& 128 != 0) = true then (a <<< 1) ^^^ 29 else a <<< 1

def mulAux : Nat → UInt8 → UInt8 → UInt8 → UInt8
 | 0, _, _, p => p
 | n + 1, a, b, p => if b = 0 then p else mulAux n (dbl a) (b >>> 1) (if b &&& 1 = 1 then p ^^^ a else p)

def mul (a b : UInt8) : UInt8 := mulAux 8 a b 0

def invAux : Nat → UInt8 → UInt8 → UInt8
 | 0, _, i => i
 | n + 1, a, i => invAux n (mul a a) (mul i (mul a a))

def inv (a : UInt8) : UInt8 := invAux 7 a 1

/-! ### all bytes, one after another -/
theorem all_u8 {p : UInt8 → Prop} (h : ∀ n : Fin 256, p (UInt8.ofNat n.val)) : ∀ a, p a := by
 intro a
 have := h ⟨a.toNat, a.toNat_lt⟩
 simpa using this

theorem xor_bits (a b : UInt8) : bits .xor .u8 (bv a) (bv b) = bv (a ^^^ b) := by
 unfold bv; rw [u8_xor_nat _ _ a.toNat_lt b.toNat_lt, UInt8.toNat_xor]
theorem and_bits (a b : UInt8) : bits .and .u8 (bv a) (bv b) = bv (a &&& b) := by
 unfold bv; rw [u8_and_nat _ _ a.toNat_lt b.toNat_lt, UInt8.toNat_and]
theorem or_bits (a b : UInt8) : bits .or .u8 (bv a) (bv b) = bv (a ||| b) := by
 unfold bv; rw [u8_or_nat _ _ a.toNat_lt b.toNat_lt, UInt8.toNat_or]

theorem mulAux_zero (n : Nat) (a p : UInt8) : mulAux n a 0 p = p := by cases n <;> simp [mulAux]
/-! ### the field's laws -/
theorem xor_assoc (a b c : UInt8) : a ^^^ b ^^^ c = a ^^^ (b ^^^ c) := UInt8.xor_assoc a b c
theorem xor_comm (a b : UInt8) : a ^^^ b = b ^^^ a := UInt8.xor_comm a b
theorem mulAux_acc (n : Nat) : ∀ (a b p : UInt8), mulAux n a b p = p ^^^ mulAux n a b 0 := by
 induction n with
 | zero => intro a b p; simp [mulAux]
 | succ n ih =>
  intro a b p
  unfold mulAux
  by_cases h : b = 0
  ·
   simp [h]
  ·
   rw [if_neg h, if_neg h, ih, ih (p := if b &&& 1 = 1 then 0 ^^^ a else 0)]
   by_cases h1 : b &&& 1 = 1
   ·
    rw [if_pos h1, if_pos h1]; simp [xor_assoc]
   ·
    rw [if_neg h1, if_neg h1]; simp
theorem bit0 (a : UInt8) : a &&& 1 = 0 ∨ a &&& 1 = 1 := by
 revert a; exact all_u8 (by decide +kernel)
theorem bit7 (a : UInt8) : a &&& 128 = 0 ∨ a &&& 128 = 128 := by
 revert a; exact all_u8 (by decide +kernel)
theorem and_xor' (a b c : UInt8) : (a ^^^ b) &&& c = (a &&& c) ^^^ (b &&& c) := by
 apply UInt8.toBitVec_inj.1
 ext i
 simp [Bool.and_xor_distrib_right]
theorem dbl_eq (a : UInt8) : dbl a = (a <<< 1) ^^^ (if a &&& 128 = 128 then 29 else 0) := by
 unfold dbl
 rcases bit7 a with h | h <;> simp [h]
theorem bit_xor (x a b m : UInt8) (ha : a = 0 ∨ a = m) (hb : b = 0 ∨ b = m) (hm : m ≠ 0) : (if a ^^^ b = m then x else 0) = (if a = m then x else 0) ^^^ (if b = m then x else 0) := by
 have h0 : ¬ (0 : UInt8) = m := fun e => hm e.symm
 rcases ha with rfl | rfl <;> rcases hb with rfl | rfl <;> simp [h0]
theorem xor4 (a b c d : UInt8) : a ^^^ b ^^^ (c ^^^ d) = a ^^^ c ^^^ (b ^^^ d) := by
 rw [xor_assoc, xor_assoc, ← xor_assoc b, xor_comm b c, xor_assoc c]
theorem dbl_xor (a b : UInt8) : dbl (a ^^^ b) = dbl a ^^^ dbl b := by
 rw [dbl_eq, dbl_eq, dbl_eq, UInt8.shiftLeft_xor, and_xor', bit_xor 29 _ _ 128 (bit7 a) (bit7 b) (by decide), xor4]
theorem shr_xor (a b : UInt8) : (a ^^^ b) >>> 1 = (a >>> 1) ^^^ (b >>> 1) := UInt8.shiftRight_xor
theorem odd_xor (x a b : UInt8) : (if (a ^^^ b) &&& 1 = 1 then x else 0) = (if a &&& 1 = 1 then x else 0) ^^^ (if b &&& 1 = 1 then x else 0) := by
 rw [and_xor', bit_xor x _ _ 1 (bit0 a) (bit0 b) (by decide)]

/-- The product without the early end. -/
def mulBits : Nat → UInt8 → UInt8 → UInt8
 | 0, _, _ => 0
 | n + 1, a, b => (if b &&& 1 = 1 then a else 0) ^^^ mulBits n (dbl a) (b >>> 1)
theorem mulBits_zero (n : Nat) : ∀ a, mulBits n a 0 = 0 := by
 induction n with
 | zero => intro a; rfl
 | succ n ih => intro a; simp [mulBits]; exact ih _
theorem mulAux_bits (n : Nat) : ∀ a b, mulAux n a b 0 = mulBits n a b := by
 induction n with
 | zero => intro a b; rfl
 | succ n ih =>
  intro a b
  unfold mulAux mulBits
  by_cases h : b = 0
  ·
   subst h; simp; exact (mulBits_zero n _).symm
  ·
   rw [if_neg h, mulAux_acc, ih]
   by_cases h1 : b &&& 1 = 1
   ·
    rw [if_pos h1, if_pos h1]; simp
   ·
    rw [if_neg h1, if_neg h1]
theorem mul_bits (a b : UInt8) : mul a b = mulBits 8 a b := mulAux_bits 8 a b
theorem mulBits_xor (n : Nat) : ∀ (c a b : UInt8), mulBits n c (a ^^^ b) = mulBits n c a ^^^ mulBits n c b := by
 induction n with
 | zero => intro c a b; simp [mulBits]
 | succ n ih => intro c a b; simp only [mulBits]; rw [odd_xor, shr_xor, ih, xor4]
theorem ite_xor (p : Prop) [Decidable p] (a b : UInt8) : (if p then a ^^^ b else 0) = (if p then a else 0) ^^^ (if p then b else 0) := by
 by_cases h : p <;> simp [h]
theorem mulBits_xor' (n : Nat) : ∀ (a b c : UInt8), mulBits n (a ^^^ b) c = mulBits n a c ^^^ mulBits n b c := by
 induction n with
 | zero => intro a b c; simp [mulBits]
 | succ n ih => intro a b c; simp only [mulBits]; rw [dbl_xor, ih, ite_xor, xor4]
theorem mul_xor (c a b : UInt8) : mul c (a ^^^ b) = mul c a ^^^ mul c b := by
 rw [mul_bits, mul_bits, mul_bits, mulBits_xor]
theorem xor_mul (a b c : UInt8) : mul (a ^^^ b) c = mul a c ^^^ mul b c := by
 rw [mul_bits, mul_bits, mul_bits, mulBits_xor']
/-- Two additive functions that agree at the bits agree. -/
theorem lin_ext {f g : UInt8 → UInt8} (hf : ∀ a b, f (a ^^^ b) = f a ^^^ f b) (hg : ∀ a b, g (a ^^^ b) = g a ^^^ g b)
  (h : ∀ i : Fin 8, f (UInt8.ofNat (2 ^ i.val)) = g (UInt8.ofNat (2 ^ i.val))) (a : UInt8) : f a = g a := by
 have f0 : f 0 = 0 := by have := hf 0 0; simpa using this
 have g0 : g 0 = 0 := by have := hg 0 0; simpa using this
 have hb : ∀ (i : Fin 8) (x : UInt8), (x = 0 ∨ x = UInt8.ofNat (2 ^ i.val)) → f x = g x := by
  intro i x hx
  rcases hx with rfl | rfl
  ·
   rw [f0, g0]
  ·
   exact h i
 have hs : ∀ x : UInt8, x = (x &&& 1) ^^^ ((x &&& 2) ^^^ ((x &&& 4) ^^^ ((x &&& 8) ^^^ ((x &&& 16) ^^^ ((x &&& 32) ^^^ ((x &&& 64) ^^^ (x &&& 128))))))) := by
  exact all_u8 (by decide +kernel)
 have h0 : ∀ x : UInt8, x &&& 1 = 0 ∨ x &&& 1 = UInt8.ofNat (2 ^ (0 : Fin 8).val) := all_u8 (by decide +kernel)
 have h1 : ∀ x : UInt8, x &&& 2 = 0 ∨ x &&& 2 = UInt8.ofNat (2 ^ (1 : Fin 8).val) := all_u8 (by decide +kernel)
 have h2 : ∀ x : UInt8, x &&& 4 = 0 ∨ x &&& 4 = UInt8.ofNat (2 ^ (2 : Fin 8).val) := all_u8 (by decide +kernel)
 have h3 : ∀ x : UInt8, x &&& 8 = 0 ∨ x &&& 8 = UInt8.ofNat (2 ^ (3 : Fin 8).val) := all_u8 (by decide +kernel)
 have h4 : ∀ x : UInt8, x &&& 16 = 0 ∨ x &&& 16 = UInt8.ofNat (2 ^ (4 : Fin 8).val) := all_u8 (by decide +kernel)
 have h5 : ∀ x : UInt8, x &&& 32 = 0 ∨ x &&& 32 = UInt8.ofNat (2 ^ (5 : Fin 8).val) := all_u8 (by decide +kernel)
 have h6 : ∀ x : UInt8, x &&& 64 = 0 ∨ x &&& 64 = UInt8.ofNat (2 ^ (6 : Fin 8).val) := all_u8 (by decide +kernel)
 have h7 : ∀ x : UInt8, x &&& 128 = 0 ∨ x &&& 128 = UInt8.ofNat (2 ^ (7 : Fin 8).val) := all_u8 (by decide +kernel)
 rw [hs a]
 simp only [hf, hg]
 rw [hb 0 _ (h0 a), hb 1 _ (h1 a), hb 2 _ (h2 a), hb 3 _ (h3 a), hb 4 _ (h4 a), hb 5 _ (h5 a), hb 6 _ (h6 a), hb 7 _ (h7 a)]
theorem mul_comm (a b : UInt8) : mul a b = mul b a := by
 refine lin_ext (f := fun a => mul a b) (g := fun a => mul b a) (fun x y => xor_mul x y b) (fun x y => mul_xor b x y) (fun i => ?_) a
 refine lin_ext (f := fun b => mul (UInt8.ofNat (2 ^ i.val)) b) (g := fun b => mul b (UInt8.ofNat (2 ^ i.val))) (fun x y => mul_xor _ x y) (fun x y => xor_mul x y _) (fun j => ?_) b
 revert i j; decide +kernel
theorem mul_assoc (a b c : UInt8) : mul (mul a b) c = mul a (mul b c) := by
 refine lin_ext (f := fun a => mul (mul a b) c) (g := fun a => mul a (mul b c)) (fun x y => by simp only [xor_mul]) (fun x y => by simp only [xor_mul]) (fun i => ?_) a
 refine lin_ext (f := fun b => mul (mul (UInt8.ofNat (2 ^ i.val)) b) c) (g := fun b => mul (UInt8.ofNat (2 ^ i.val)) (mul b c)) (fun x y => by simp only [xor_mul, mul_xor]) (fun x y => by simp only [xor_mul, mul_xor]) (fun j => ?_) b
 refine lin_ext (f := fun c => mul (mul (UInt8.ofNat (2 ^ i.val)) (UInt8.ofNat (2 ^ j.val))) c) (g := fun c => mul (UInt8.ofNat (2 ^ i.val)) (mul (UInt8.ofNat (2 ^ j.val)) c)) (fun x y => by simp only [mul_xor]) (fun x y => by simp only [mul_xor]) (fun k => ?_) c
 revert i j k; decide +kernel
theorem mul_zero (a : UInt8) : mul a 0 = 0 := by rw [mul]; exact mulAux_zero _ _ _
theorem zero_mul (a : UInt8) : mul 0 a = 0 := by rw [mul_comm]; exact mul_zero a
theorem one_mul (a : UInt8) : mul 1 a = a := lin_ext (f := fun a => mul 1 a) (g := fun a => a) (fun x y => mul_xor 1 x y) (fun _ _ => rfl) (by decide +kernel) a
theorem mul_one (a : UInt8) : mul a 1 = a := by rw [mul_comm]; exact one_mul a
end Gf
end Go.Proofs.YtheijpjfpaghfaaGreatDoor
/- SHA-256 on lists of bytes: plain definitions that follow the program's own steps, and the walk's spelling of operations on words. No program in sight. -/
namespace Go.Proofs.YtheijpjfpaghfaaGreatDoor
open Go Gf

namespace Sha
/-- Rotated to the right. -/
def rr (x n : UInt32) : UInt32 := x >>> n ||| x <<< (32 - n)
def ss1 (x : UInt32) : UInt32 := rr x 17 ^^^ rr x 19 ^^^ x >>> 10
def ss0 (x : UInt32) : UInt32 := rr x 7 ^^^ rr x 18 ^^^ x >>> 3
def gw (l : List UInt32) (k : Nat) : UInt32 := l.getD k 0
/-- The next word of the schedule; the words so far are listed from the last one on. -/
def nxt (l : List UInt32) : UInt32 := ss1 (gw l 1) + gw l 6 + ss0 (gw l 14) + gw l 15
def sched : Nat → List UInt32 → List UInt32
 | 0, l => l
 | n + 1, l => sched n (nxt l :: l)
/-- The eight words. -/
structure St where
 a : UInt32
 b : UInt32
 c : UInt32
 d : UInt32
 e : UInt32
 f : UInt32
 g : UInt32
 h : UInt32
def bs1 (e : UInt32) : UInt32 := rr e 6 ^^^ rr e 11 ^^^ rr e 25
def bs0 (a : UInt32) : UInt32 := rr a 2 ^^^ rr a 13 ^^^ rr a 22
def chf (e f g : UInt32) : UInt32 := e &&& f ^^^ (~~~ e) &&& g
def maj (a b c : UInt32) : UInt32 := a &&& b ^^^ a &&& c ^^^ b &&& c
def t1 (s : St) (k w : UInt32) : UInt32 := s.h + bs1 s.e + chf s.e s.f s.g + k + w
def t2 (s : St) : UInt32 := bs0 s.a + maj s.a s.b s.c
def rnd (s : St) (k w : UInt32) : St := ⟨t1 s k w + t2 s, s.a, s.b, s.c, s.d + t1 s k w, s.e, s.f, s.g⟩
def rnds : St → List UInt32 → List UInt32 → St
 | s, k :: ks, w :: ws => rnds (rnd s k w) ks ws
 | s, _, _ => s
def St.add (s v : St) : St := ⟨s.a + v.a, s.b + v.b, s.c + v.c, s.d + v.d, s.e + v.e, s.f + v.f, s.g + v.g, s.h + v.h⟩
def word (l : List UInt8) (k : Nat) : UInt32 :=
 (l.getD (4 * k) 0).toUInt32 <<< 24 ||| (l.getD (4 * k + 1) 0).toUInt32 <<< 16 ||| (l.getD (4 * k + 2) 0).toUInt32 <<< 8 ||| (l.getD (4 * k + 3) 0).toUInt32
def ks : List UInt32 := [
 0x428a2f98, 0x71374491, 0xb5c0fbcf, 0xe9b5dba5, 0x3956c25b, 0x59f111f1, 0x923f82a4, 0xab1c5ed5,
 0xd807aa98, 0x12835b01, 0x243185be, 0x550c7dc3, 0x72be5d74, 0x80deb1fe, 0x9bdc06a7, 0xc19bf174,
 0xe49b69c1, 0xefbe4786, 0x0fc19dc6, 0x240ca1cc, 0x2de92c6f, 0x4a7484aa, 0x5cb0a9dc, 0x76f988da,
 0x983e5152, 0xa831c66d, 0xb00327c8, 0xbf597fc7, 0xc6e00bf3, 0xd5a79147, 0x06ca6351, 0x14292967,
 0x27b70a85, 0x2e1b2138, 0x4d2c6dfc, 0x53380d13, 0x650a7354, 0x766a0abb, 0x81c2c92e, 0x92722c85,
 0xa2bfe8a1, 0xa81a664b, 0xc24b8b70, 0xc76c51a3, 0xd192e819, 0xd6990624, 0xf40e3585, 0x106aa070,
 0x19a4c116, 0x1e376c08, 0x2748774c, 0x34b0bcb5, 0x391c0cb3, 0x4ed8aa4a, 0x5b9cca4f, 0x682e6ff3,
 0x748f82ee, 0x78a5636f, 0x84c87814, 0x8cc70208, 0x90befffa, 0xa4506ceb, 0xbef9a3f7, 0xc67178f2]
def first (l : List UInt8) : List UInt32 := (List.range 16).map (word l)
def ws (l : List UInt8) : List UInt32 := (sched 48 (first l).reverse).reverse
/-- The words after a block. -/
def comp (s : St) (l : List UInt8) : St := s.add (rnds s ks (ws l))
def ini : St := ⟨0x6a09e667, 0xbb67ae85, 0x3c6ef372, 0xa54ff53a, 0x510e527f, 0x9b05688c, 0x1f83d9ab, 0x5be0cd19⟩
/-- The words after the first k blocks of a list. -/
def hk : Nat → List UInt8 → St
 | 0, _ => ini
 | k + 1, l => comp (hk k l) ((l.drop (64 * k)).take 64)
/-- The words after the whole blocks of a list. -/
def hs (l : List UInt8) : St := hk (l.length / 64) l
def be8 (n : Nat) : List UInt8 := (List.range 8).map fun i => UInt8.ofNat (n >>> (56 - 8 * i))
def padding (n : Nat) : List UInt8 := (128 : UInt8) :: (List.replicate ((119 - n % 64) % 64) (0 : UInt8) ++ be8 (n * 8))
def bytes4 (x : UInt32) : List UInt8 := [(x >>> 24).toUInt8, (x >>> 16).toUInt8, (x >>> 8).toUInt8, x.toUInt8]
def St.bytes (s : St) : List UInt8 := bytes4 s.a ++ bytes4 s.b ++ bytes4 s.c ++ bytes4 s.d ++ bytes4 s.e ++ bytes4 s.f ++ bytes4 s.g ++ bytes4 s.h
/-- The sum of bytes. -/
def sha (l : List UInt8) : List UInt8 := (hs (l ++ padding l.length)).bytes

/-! ### words as the walk spells them -/
/-- A word as an integer: a plain def. -/
def wv (x : UInt32) : Int := (x.toNat : Int)
abbrev W (x : UInt32) : Value := .int .u32 (wv x)
theorem add_w (a b : UInt32) : (wv a + wv b) % 4294967296 = wv (a + b) := by
 unfold wv; rw [UInt32.toNat_add]; omega
theorem add_wrap (a b : UInt32) : IntKind.u32.wrap (wv a + wv b) = wv (a + b) := by
 show (wv a + wv b) % 4294967296 = _; exact add_w a b
theorem xor_w (a b : UInt32) : bits .xor .u32 (wv a) (wv b) = wv (a ^^^ b) := by
 unfold wv; rw [u32_xor_nat _ _ a.toNat_lt b.toNat_lt, UInt32.toNat_xor]
theorem and_w (a b : UInt32) : bits .and .u32 (wv a) (wv b) = wv (a &&& b) := by
 unfold wv; rw [u32_and_nat _ _ a.toNat_lt b.toNat_lt, UInt32.toNat_and]
theorem or_w (a b : UInt32) : bits .or .u32 (wv a) (wv b) = wv (a ||| b) := by
 unfold wv; rw [u32_or_nat _ _ a.toNat_lt b.toNat_lt, UInt32.toNat_or]
theorem not_w (a : UInt32) : bits .xor .u32 4294967295 (wv a) = wv (~~~ a) := by
 have h := xor_w (UInt32.ofNat 4294967295) a
 have e : wv (UInt32.ofNat 4294967295) = 4294967295 := by decide
 rw [e] at h
 rw [h]
 congr 1
theorem shl_w (x : UInt32) (n : Nat) (hn : n < 32) : wv x * 2 ^ n % 4294967296 = wv (x <<< UInt32.ofNat n) := by
 unfold wv
 rw [UInt32.toNat_shiftLeft, UInt32.toNat_ofNat_of_lt' (by show n < 4294967296; omega), Nat.mod_eq_of_lt hn, Nat.shiftLeft_eq, Int.natCast_emod, Int.natCast_mul, Int.natCast_pow]
 rfl
theorem shr_w (x : UInt32) (n : Nat) (hn : n < 32) : wv x / 2 ^ n = wv (x >>> UInt32.ofNat n) := by
 unfold wv
 rw [UInt32.toNat_shiftRight, UInt32.toNat_ofNat_of_lt' (by show n < 4294967296; omega), Nat.mod_eq_of_lt hn, Nat.shiftRight_eq_div_pow, Int.natCast_ediv, Int.natCast_pow]
 rfl
theorem wv_byte (b : UInt8) : bv b = wv b.toUInt32 := by
 unfold bv wv; rw [UInt8.toNat_toUInt32]
/-- A rotation as the program takes it. -/
theorem rot_w (x : UInt32) (n : Nat) (h0 : 0 < n) (h : n < 32) : bits .or .u32 (wv x * 2 ^ (32 - n) % 4294967296) (wv x / 2 ^ n) = wv (rr x (UInt32.ofNat n)) := by
 rw [shl_w x (32 - n) (by omega), shr_w x n h, or_w, rr, UInt32.or_comm]
 congr 3
 apply UInt32.toNat_inj.1
 rw [UInt32.toNat_ofNat_of_lt' (by show 32 - n < 4294967296; omega), UInt32.toNat_sub_of_le _ _ (by rw [UInt32.le_iff_toNat_le, UInt32.toNat_ofNat_of_lt' (by show n < 4294967296; omega)]; show n ≤ 32; omega), UInt32.toNat_ofNat_of_lt' (by show n < 4294967296; omega)]
 rfl
end Sha
end Go.Proofs.YtheijpjfpaghfaaGreatDoor
/- Contract of bits.RotateLeft32 at the rotations that SHA-256 takes. -/
namespace Go.Proofs.YtheijpjfpaghfaaGreatDoor
open Go.RowKit Gf Sha

theorem and31_2 : bits .and .u64 (IntKind.u64.wrap (-2)) 31 = 30 := by decide
theorem or_2 (x : UInt32) : bits .or .u32 (wv x * 1073741824 % 4294967296) (wv x / 4) = wv (rr x 2) := rot_w x 2 (by decide) (by decide)
theorem and31_6 : bits .and .u64 (IntKind.u64.wrap (-6)) 31 = 26 := by decide
theorem or_6 (x : UInt32) : bits .or .u32 (wv x * 67108864 % 4294967296) (wv x / 64) = wv (rr x 6) := rot_w x 6 (by decide) (by decide)
theorem and31_7 : bits .and .u64 (IntKind.u64.wrap (-7)) 31 = 25 := by decide
theorem or_7 (x : UInt32) : bits .or .u32 (wv x * 33554432 % 4294967296) (wv x / 128) = wv (rr x 7) := rot_w x 7 (by decide) (by decide)
theorem and31_11 : bits .and .u64 (IntKind.u64.wrap (-11)) 31 = 21 := by decide
theorem or_11 (x : UInt32) : bits .or .u32 (wv x * 2097152 % 4294967296) (wv x / 2048) = wv (rr x 11) := rot_w x 11 (by decide) (by decide)
theorem and31_13 : bits .and .u64 (IntKind.u64.wrap (-13)) 31 = 19 := by decide
theorem or_13 (x : UInt32) : bits .or .u32 (wv x * 524288 % 4294967296) (wv x / 8192) = wv (rr x 13) := rot_w x 13 (by decide) (by decide)
theorem and31_17 : bits .and .u64 (IntKind.u64.wrap (-17)) 31 = 15 := by decide
theorem or_17 (x : UInt32) : bits .or .u32 (wv x * 32768 % 4294967296) (wv x / 131072) = wv (rr x 17) := rot_w x 17 (by decide) (by decide)
theorem and31_18 : bits .and .u64 (IntKind.u64.wrap (-18)) 31 = 14 := by decide
theorem or_18 (x : UInt32) : bits .or .u32 (wv x * 16384 % 4294967296) (wv x / 262144) = wv (rr x 18) := rot_w x 18 (by decide) (by decide)
theorem and31_19 : bits .and .u64 (IntKind.u64.wrap (-19)) 31 = 13 := by decide
theorem or_19 (x : UInt32) : bits .or .u32 (wv x * 8192 % 4294967296) (wv x / 524288) = wv (rr x 19) := rot_w x 19 (by decide) (by decide)
theorem and31_22 : bits .and .u64 (IntKind.u64.wrap (-22)) 31 = 10 := by decide
theorem or_22 (x : UInt32) : bits .or .u32 (wv x * 1024 % 4294967296) (wv x / 4194304) = wv (rr x 22) := rot_w x 22 (by decide) (by decide)
theorem and31_25 : bits .and .u64 (IntKind.u64.wrap (-25)) 31 = 7 := by decide
theorem or_25 (x : UInt32) : bits .or .u32 (wv x * 128 % 4294967296) (wv x / 33554432) = wv (rr x 25) := rot_w x 25 (by decide) (by decide)
attribute [local go_sem] and31_2 or_2 and31_6 or_6 and31_7 or_7 and31_11 or_11 and31_13 or_13 and31_17 or_17 and31_18 or_18 and31_19 or_19 and31_22 or_22 and31_25 or_25
theorem rot2_any (x : UInt32) (w : World) :
  Calls Tryz.prog 148 #[W x, .int .i64 (-2)] w fun e w' => e = .returned (W (rr x 2)) ∧ w = w' := by
 go_enter Tryz.func148, Tryz.ntmps148
 go_wp2
 go_ret
 exact ⟨rfl, rfl⟩
theorem rot6_any (x : UInt32) (w : World) :
  Calls Tryz.prog 148 #[W x, .int .i64 (-6)] w fun e w' => e = .returned (W (rr x 6)) ∧ w = w' := by
 go_enter Tryz.func148, Tryz.ntmps148
 go_wp2
 go_ret
 exact ⟨rfl, rfl⟩
theorem rot7_any (x : UInt32) (w : World) :
  Calls Tryz.prog 148 #[W x, .int .i64 (-7)] w fun e w' => e = .returned (W (rr x 7)) ∧ w = w' := by
 go_enter Tryz.func148, Tryz.ntmps148
 go_wp2
 go_ret
 exact ⟨rfl, rfl⟩
theorem rot11_any (x : UInt32) (w : World) :
  Calls Tryz.prog 148 #[W x, .int .i64 (-11)] w fun e w' => e = .returned (W (rr x 11)) ∧ w = w' := by
 go_enter Tryz.func148, Tryz.ntmps148
 go_wp2
 go_ret
 exact ⟨rfl, rfl⟩
theorem rot13_any (x : UInt32) (w : World) :
  Calls Tryz.prog 148 #[W x, .int .i64 (-13)] w fun e w' => e = .returned (W (rr x 13)) ∧ w = w' := by
 go_enter Tryz.func148, Tryz.ntmps148
 go_wp2
 go_ret
 exact ⟨rfl, rfl⟩
theorem rot17_any (x : UInt32) (w : World) :
  Calls Tryz.prog 148 #[W x, .int .i64 (-17)] w fun e w' => e = .returned (W (rr x 17)) ∧ w = w' := by
 go_enter Tryz.func148, Tryz.ntmps148
 go_wp2
 go_ret
 exact ⟨rfl, rfl⟩
theorem rot18_any (x : UInt32) (w : World) :
  Calls Tryz.prog 148 #[W x, .int .i64 (-18)] w fun e w' => e = .returned (W (rr x 18)) ∧ w = w' := by
 go_enter Tryz.func148, Tryz.ntmps148
 go_wp2
 go_ret
 exact ⟨rfl, rfl⟩
theorem rot19_any (x : UInt32) (w : World) :
  Calls Tryz.prog 148 #[W x, .int .i64 (-19)] w fun e w' => e = .returned (W (rr x 19)) ∧ w = w' := by
 go_enter Tryz.func148, Tryz.ntmps148
 go_wp2
 go_ret
 exact ⟨rfl, rfl⟩
theorem rot22_any (x : UInt32) (w : World) :
  Calls Tryz.prog 148 #[W x, .int .i64 (-22)] w fun e w' => e = .returned (W (rr x 22)) ∧ w = w' := by
 go_enter Tryz.func148, Tryz.ntmps148
 go_wp2
 go_ret
 exact ⟨rfl, rfl⟩
theorem rot25_any (x : UInt32) (w : World) :
  Calls Tryz.prog 148 #[W x, .int .i64 (-25)] w fun e w' => e = .returned (W (rr x 25)) ∧ w = w' := by
 go_enter Tryz.func148, Tryz.ntmps148
 go_wp2
 go_ret
 exact ⟨rfl, rfl⟩
end Go.Proofs.YtheijpjfpaghfaaGreatDoor
