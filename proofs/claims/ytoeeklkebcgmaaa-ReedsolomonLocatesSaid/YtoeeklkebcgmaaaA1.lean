/- Several texts in one: Gf, GfW, Mem, Mk, GfM, Mat, Mat2, Mat3, Text, App, Elim, Elim2, Elim3, Elim4, Inv. -/
import Derived.Laws.BitsAllLaws
import Derived.Laws.BitsLemmas
import Derived.KernelRfl
import Derived.Test.YtoeeklkebcgmaaaChecked
import Derived.WalkKit
import Derived.WalkLawsBesides
import Derived.WalkSpells
import Derived.Deep.QuietTactic
import Derived.BigQuiet
import Derived.Lib.Hide
import Derived.Below
import Derived.Laws.OwnMore
import Derived.Deep.Draws
import Derived.Laws.Rows
import Derived.Deep.RegionHeld3
import Derived.Deep.RegionLaw
import Derived.Deep.RegionWith
import Derived.OrdersHeld
import Derived.StillTail
import Derived.Maps.AppendAt
import Derived.RegionTactic
import Derived.OwnWalk
/- Plain arithmetic of the field of 256 elements on UInt8: definitions that follow the program's own steps, and bridges from the walk's spelling of byte operations. No program in sight. -/
namespace Go.Proofs.Ytoeeklkebcgmaaa
open Go

namespace Gf
/-- A byte as an integer: a plain def, so that the walk's simp does not look behind it. -/
def bv (x : UInt8) : Int := (x.toNat : Int)
/-- The value of a byte. -/
abbrev B (x : UInt8) : Value := .int .u8 (bv x)
theorem bv_lo (x : UInt8) : 0 ≤ bv x := by unfold bv; omega
theorem bv_hi (x : UInt8) : bv x < 256 := by unfold bv; have := x.toNat_lt; omega
theorem bv_toNat (x : UInt8) : (bv x).toNat = x.toNat := by unfold bv; omega
theorem bv_inj {a b : UInt8} (h : bv a = bv b) : a = b := UInt8.toNat_inj.1 (by unfold bv at h; omega)
theorem bv_ofNat (x : Int) (h : 0 ≤ x) (h' : x < 256) : bv (UInt8.ofNat x.toNat) = x := by
  unfold bv; rw [UInt8.toNat_ofNat_of_lt' (by show x.toNat < 256; omega)]; omega
theorem ofNat_bv (x : UInt8) : UInt8.ofNat (bv x).toNat = x := by rw [bv_toNat]; simp
theorem bv_wrap (x : UInt8) : IntKind.u8.wrap (bv x) = bv x := by
  have h1 := bv_lo x
  have h2 := bv_hi x
  show bv x % 256 = bv x
  omega

def dbl (a : UInt8) : UInt8 := if (a &&& 128 != 0) = true then (a <<< 1) ^^^ 29 else a <<< 1

def mulAux : Nat → UInt8 → UInt8 → UInt8 → UInt8
  | 0, _, _, p => p
  | n + 1, a, b, p => if b = 0 then p else mulAux n (dbl a) (b >>> 1) (if b &&& 1 = 1 then p ^^^ a else p)

def mul (a b : UInt8) : UInt8 := mulAux 8 a b 0

def invAux : Nat → UInt8 → UInt8 → UInt8
  | 0, _, i => i
  | n + 1, a, i => invAux n (mul a a) (mul i (mul a a))

def inv (a : UInt8) : UInt8 := invAux 7 a 1

/-! ### all bytes, one after another -/
theorem all_u8 {p : UInt8 → Prop} (h : ∀ n : Fin 256, p (UInt8.ofNat n.val)) : ∀ a, p a := by
  intro a
  have := h ⟨a.toNat, a.toNat_lt⟩
  simpa using this

theorem toNat_lt' (a : UInt8) : a.toNat < 256 := a.toNat_lt

theorem B_inj {a b : UInt8} (h : B a = B b) : a = b := by
  have : bv a = bv b := by injection h
  exact bv_inj this

theorem xor_bits (a b : UInt8) : bits .xor .u8 (bv a) (bv b) = bv (a ^^^ b) := by
  unfold bv; rw [u8_xor_nat _ _ a.toNat_lt b.toNat_lt, UInt8.toNat_xor]
theorem and_bits (a b : UInt8) : bits .and .u8 (bv a) (bv b) = bv (a &&& b) := by
  unfold bv; rw [u8_and_nat _ _ a.toNat_lt b.toNat_lt, UInt8.toNat_and]
theorem or_bits (a b : UInt8) : bits .or .u8 (bv a) (bv b) = bv (a ||| b) := by
  unfold bv; rw [u8_or_nat _ _ a.toNat_lt b.toNat_lt, UInt8.toNat_or]

theorem beq_bytes (a b : UInt8) : (bv a == bv b) = (a == b) := by
  by_cases h : a = b
  · subst h; simp
  · have h3 : (bv a == bv b) = false := by
      rw [beq_eq_false_iff_ne]; exact fun e => h (bv_inj e)
    rw [h3]; simp [h]
theorem bne_bytes (a b : UInt8) : (bv a != bv b) = (a != b) := by
  simp only [bne, beq_bytes]
theorem eq_zero_iff (a : UInt8) : (bv a == 0) = (a == 0) := beq_bytes a 0
theorem ne_zero_iff (a : UInt8) : (bv a != 0) = (a != 0) := bne_bytes a 0
theorem eq_one_iff (a : UInt8) : (bv a == 1) = (a == 1) := beq_bytes a 1

theorem shl1 (a : UInt8) : bv a * (2 : Int) % (256 : Int) = bv (a <<< 1) := by
  revert a; exact all_u8 (by decide +kernel)
theorem shr1 (a : UInt8) : bv a / (2 : Int) = bv (a >>> 1) := by
  revert a; exact all_u8 (by decide +kernel)
theorem and128 (a : UInt8) : bits .and .u8 (bv a) 128 = bv (a &&& 128) := and_bits a 128
theorem and1 (a : UInt8) : bits .and .u8 (bv a) 1 = bv (a &&& 1) := and_bits a 1
theorem xor29 (a : UInt8) : bits .xor .u8 (bv a) 29 = bv (a ^^^ 29) := xor_bits a 29

theorem shr1_lt (b : UInt8) (h : b ≠ 0) : (b >>> 1).toNat < b.toNat := by
  revert b; exact all_u8 (by decide +kernel)
theorem shr1_half (b : UInt8) : (b >>> 1).toNat = b.toNat / 2 := by
  have := shr1 b; unfold bv at this; omega

theorem bv_zero : bv 0 = 0 := rfl
theorem bv_one : bv 1 = 1 := rfl

theorem mulAux_zero (n : Nat) (a p : UInt8) : mulAux n a 0 p = p := by cases n <;> simp [mulAux]
theorem mulAux_more (n : Nat) : ∀ (a b p : UInt8), b.toNat < 2 ^ n → mulAux (n + 1) a b p = mulAux n a b p := by
  induction n with
  | zero =>
    intro a b p hb
    have : b = 0 := UInt8.toNat_inj.1 (by show b.toNat = 0; omega)
    subst this; rw [mulAux_zero, mulAux_zero]
  | succ n ih =>
    intro a b p hb
    by_cases h : b = 0
    · subst h; rw [mulAux_zero, mulAux_zero]
    · have e1 : mulAux (n + 1 + 1) a b p = mulAux (n + 1) (dbl a) (b >>> 1) (if b &&& 1 = 1 then p ^^^ a else p) := by
        conv => lhs; unfold mulAux
        rw [if_neg h]
      have e2 : mulAux (n + 1) a b p = mulAux n (dbl a) (b >>> 1) (if b &&& 1 = 1 then p ^^^ a else p) := by
        conv => lhs; unfold mulAux
        rw [if_neg h]
      rw [e1, e2]
      exact ih _ _ _ (by rw [shr1_half]; omega)
/-- One step of the loop, whatever the byte. -/
theorem mulAux_step (a b p : UInt8) (h : b ≠ 0) : mulAux 8 a b p = mulAux 8 (dbl a) (b >>> 1) (if b &&& 1 = 1 then p ^^^ a else p) := by
  have e1 : mulAux 8 a b p = mulAux 7 (dbl a) (b >>> 1) (if b &&& 1 = 1 then p ^^^ a else p) := by
    show mulAux (7 + 1) a b p = _
    conv => lhs; unfold mulAux
    rw [if_neg h]
  rw [e1]
  exact (mulAux_more 7 _ _ _ (by rw [shr1_half]; have := b.toNat_lt; omega)).symm

/-! ### the field's laws -/
theorem all_u8b {p : UInt8 → Bool} (h : (List.range 256).all (fun n => p (UInt8.ofNat n)) = true) : ∀ a, p a = true := by
  intro a
  have := List.all_eq_true.1 h a.toNat (by simp only [List.mem_range]; exact a.toNat_lt)
  simpa using this
theorem xor_cancel (a : UInt8) : a ^^^ a = 0 := by simp
theorem xor_assoc (a b c : UInt8) : a ^^^ b ^^^ c = a ^^^ (b ^^^ c) := UInt8.xor_assoc a b c
theorem xor_comm (a b : UInt8) : a ^^^ b = b ^^^ a := UInt8.xor_comm a b
theorem mulAux_acc (n : Nat) : ∀ (a b p : UInt8), mulAux n a b p = p ^^^ mulAux n a b 0 := by
  induction n with
  | zero => intro a b p; simp [mulAux]
  | succ n ih =>
    intro a b p
    unfold mulAux
    by_cases h : b = 0
    · simp [h]
    · rw [if_neg h, if_neg h, ih, ih (p := if b &&& 1 = 1 then 0 ^^^ a else 0)]
      by_cases h1 : b &&& 1 = 1
      · rw [if_pos h1, if_pos h1]; simp [xor_assoc]
      · rw [if_neg h1, if_neg h1]; simp
theorem bit0 (a : UInt8) : a &&& 1 = 0 ∨ a &&& 1 = 1 := by
  revert a; exact all_u8 (by decide +kernel)
theorem bit7 (a : UInt8) : a &&& 128 = 0 ∨ a &&& 128 = 128 := by
  revert a; exact all_u8 (by decide +kernel)
theorem and_xor' (a b c : UInt8) : (a ^^^ b) &&& c = (a &&& c) ^^^ (b &&& c) := by
  apply UInt8.toBitVec_inj.1
  ext i
  simp [Bool.and_xor_distrib_right]
theorem dbl_eq (a : UInt8) : dbl a = (a <<< 1) ^^^ (if a &&& 128 = 128 then 29 else 0) := by
  unfold dbl
  rcases bit7 a with h | h <;> simp [h]
theorem bit_xor (x a b m : UInt8) (ha : a = 0 ∨ a = m) (hb : b = 0 ∨ b = m) (hm : m ≠ 0) : (if a ^^^ b = m then x else 0) = (if a = m then x else 0) ^^^ (if b = m then x else 0) := by
  have h0 : ¬ (0 : UInt8) = m := fun e => hm e.symm
  rcases ha with rfl | rfl <;> rcases hb with rfl | rfl <;> simp [h0]
theorem xor4 (a b c d : UInt8) : a ^^^ b ^^^ (c ^^^ d) = a ^^^ c ^^^ (b ^^^ d) := by
  rw [xor_assoc, xor_assoc, ← xor_assoc b, xor_comm b c, xor_assoc c]
theorem dbl_xor (a b : UInt8) : dbl (a ^^^ b) = dbl a ^^^ dbl b := by
  rw [dbl_eq, dbl_eq, dbl_eq, UInt8.shiftLeft_xor, and_xor', bit_xor 29 _ _ 128 (bit7 a) (bit7 b) (by decide), xor4]
theorem shr_xor (a b : UInt8) : (a ^^^ b) >>> 1 = (a >>> 1) ^^^ (b >>> 1) := UInt8.shiftRight_xor
theorem odd_xor (x a b : UInt8) : (if (a ^^^ b) &&& 1 = 1 then x else 0) = (if a &&& 1 = 1 then x else 0) ^^^ (if b &&& 1 = 1 then x else 0) := by
  rw [and_xor', bit_xor x _ _ 1 (bit0 a) (bit0 b) (by decide)]

/-- The product without the early end. -/
def mulBits : Nat → UInt8 → UInt8 → UInt8
  | 0, _, _ => 0
  | n + 1, a, b => (if b &&& 1 = 1 then a else 0) ^^^ mulBits n (dbl a) (b >>> 1)
theorem mulBits_zero (n : Nat) : ∀ a, mulBits n a 0 = 0 := by
  induction n with
  | zero => intro a; rfl
  | succ n ih => intro a; simp [mulBits]; exact ih _
theorem mulAux_bits (n : Nat) : ∀ a b, mulAux n a b 0 = mulBits n a b := by
  induction n with
  | zero => intro a b; rfl
  | succ n ih =>
    intro a b
    unfold mulAux mulBits
    by_cases h : b = 0
    · subst h; simp; exact (mulBits_zero n _).symm
    · rw [if_neg h, mulAux_acc, ih]
      by_cases h1 : b &&& 1 = 1
      · rw [if_pos h1, if_pos h1]; simp
      · rw [if_neg h1, if_neg h1]
theorem mul_bits (a b : UInt8) : mul a b = mulBits 8 a b := mulAux_bits 8 a b
theorem mulBits_xor (n : Nat) : ∀ (c a b : UInt8), mulBits n c (a ^^^ b) = mulBits n c a ^^^ mulBits n c b := by
  induction n with
  | zero => intro c a b; simp [mulBits]
  | succ n ih => intro c a b; simp only [mulBits]; rw [odd_xor, shr_xor, ih, xor4]
theorem ite_xor (p : Prop) [Decidable p] (a b : UInt8) : (if p then a ^^^ b else 0) = (if p then a else 0) ^^^ (if p then b else 0) := by
  by_cases h : p <;> simp [h]
theorem mulBits_xor' (n : Nat) : ∀ (a b c : UInt8), mulBits n (a ^^^ b) c = mulBits n a c ^^^ mulBits n b c := by
  induction n with
  | zero => intro a b c; simp [mulBits]
  | succ n ih => intro a b c; simp only [mulBits]; rw [dbl_xor, ih, ite_xor, xor4]
theorem mul_xor (c a b : UInt8) : mul c (a ^^^ b) = mul c a ^^^ mul c b := by
  rw [mul_bits, mul_bits, mul_bits, mulBits_xor]
theorem xor_mul (a b c : UInt8) : mul (a ^^^ b) c = mul a c ^^^ mul b c := by
  rw [mul_bits, mul_bits, mul_bits, mulBits_xor']
/-- Two additive functions that agree at the bits agree. -/
theorem lin_ext {f g : UInt8 → UInt8} (hf : ∀ a b, f (a ^^^ b) = f a ^^^ f b) (hg : ∀ a b, g (a ^^^ b) = g a ^^^ g b)
    (h : ∀ i : Fin 8, f (UInt8.ofNat (2 ^ i.val)) = g (UInt8.ofNat (2 ^ i.val))) (a : UInt8) : f a = g a := by
  have f0 : f 0 = 0 := by have := hf 0 0; simpa using this
  have g0 : g 0 = 0 := by have := hg 0 0; simpa using this
  have hb : ∀ (i : Fin 8) (x : UInt8), (x = 0 ∨ x = UInt8.ofNat (2 ^ i.val)) → f x = g x := by
    intro i x hx
    rcases hx with rfl | rfl
    · rw [f0, g0]
    · exact h i
  have hs : ∀ x : UInt8, x = (x &&& 1) ^^^ ((x &&& 2) ^^^ ((x &&& 4) ^^^ ((x &&& 8) ^^^ ((x &&& 16) ^^^ ((x &&& 32) ^^^ ((x &&& 64) ^^^ (x &&& 128))))))) := by
    exact all_u8 (by decide +kernel)
  have h0 : ∀ x : UInt8, x &&& 1 = 0 ∨ x &&& 1 = UInt8.ofNat (2 ^ (0 : Fin 8).val) := all_u8 (by decide +kernel)
  have h1 : ∀ x : UInt8, x &&& 2 = 0 ∨ x &&& 2 = UInt8.ofNat (2 ^ (1 : Fin 8).val) := all_u8 (by decide +kernel)
  have h2 : ∀ x : UInt8, x &&& 4 = 0 ∨ x &&& 4 = UInt8.ofNat (2 ^ (2 : Fin 8).val) := all_u8 (by decide +kernel)
  have h3 : ∀ x : UInt8, x &&& 8 = 0 ∨ x &&& 8 = UInt8.ofNat (2 ^ (3 : Fin 8).val) := all_u8 (by decide +kernel)
  have h4 : ∀ x : UInt8, x &&& 16 = 0 ∨ x &&& 16 = UInt8.ofNat (2 ^ (4 : Fin 8).val) := all_u8 (by decide +kernel)
  have h5 : ∀ x : UInt8, x &&& 32 = 0 ∨ x &&& 32 = UInt8.ofNat (2 ^ (5 : Fin 8).val) := all_u8 (by decide +kernel)
  have h6 : ∀ x : UInt8, x &&& 64 = 0 ∨ x &&& 64 = UInt8.ofNat (2 ^ (6 : Fin 8).val) := all_u8 (by decide +kernel)
  have h7 : ∀ x : UInt8, x &&& 128 = 0 ∨ x &&& 128 = UInt8.ofNat (2 ^ (7 : Fin 8).val) := all_u8 (by decide +kernel)
  rw [hs a]
  simp only [hf, hg]
  rw [hb 0 _ (h0 a), hb 1 _ (h1 a), hb 2 _ (h2 a), hb 3 _ (h3 a), hb 4 _ (h4 a), hb 5 _ (h5 a), hb 6 _ (h6 a), hb 7 _ (h7 a)]
theorem mul_comm (a b : UInt8) : mul a b = mul b a := by
  refine lin_ext (f := fun a => mul a b) (g := fun a => mul b a) (fun x y => xor_mul x y b) (fun x y => mul_xor b x y) (fun i => ?_) a
  refine lin_ext (f := fun b => mul (UInt8.ofNat (2 ^ i.val)) b) (g := fun b => mul b (UInt8.ofNat (2 ^ i.val))) (fun x y => mul_xor _ x y) (fun x y => xor_mul x y _) (fun j => ?_) b
  revert i j; decide +kernel
theorem mul_assoc (a b c : UInt8) : mul (mul a b) c = mul a (mul b c) := by
  refine lin_ext (f := fun a => mul (mul a b) c) (g := fun a => mul a (mul b c)) (fun x y => by simp only [xor_mul]) (fun x y => by simp only [xor_mul]) (fun i => ?_) a
  refine lin_ext (f := fun b => mul (mul (UInt8.ofNat (2 ^ i.val)) b) c) (g := fun b => mul (UInt8.ofNat (2 ^ i.val)) (mul b c)) (fun x y => by simp only [xor_mul, mul_xor]) (fun x y => by simp only [xor_mul, mul_xor]) (fun j => ?_) b
  refine lin_ext (f := fun c => mul (mul (UInt8.ofNat (2 ^ i.val)) (UInt8.ofNat (2 ^ j.val))) c) (g := fun c => mul (UInt8.ofNat (2 ^ i.val)) (mul (UInt8.ofNat (2 ^ j.val)) c)) (fun x y => by simp only [mul_xor]) (fun x y => by simp only [mul_xor]) (fun k => ?_) c
  revert i j k; decide +kernel
theorem mul_zero (a : UInt8) : mul a 0 = 0 := by rw [mul]; exact mulAux_zero _ _ _
theorem zero_mul (a : UInt8) : mul 0 a = 0 := by rw [mul_comm]; exact mul_zero a
theorem one_mul (a : UInt8) : mul 1 a = a := lin_ext (f := fun a => mul 1 a) (g := fun a => a) (fun x y => mul_xor 1 x y) (fun _ _ => rfl) (by decide +kernel) a
theorem mul_one (a : UInt8) : mul a 1 = a := by rw [mul_comm]; exact one_mul a
theorem mul_inv (a : UInt8) (h : a ≠ 0) : mul a (inv a) = 1 := by
  revert a; exact all_u8 (by decide +kernel)
theorem nibbles (a : UInt8) : UInt8.ofNat (bv a % 16).toNat ^^^ UInt8.ofNat (bv a / 16).toNat * 16 = a := by
  revert a; exact all_u8 (by decide +kernel)
end Gf
end Go.Proofs.Ytoeeklkebcgmaaa
/- Contracts of package gf256: double, Mul, Inv: the walks. -/
namespace Go.Proofs.Ytoeeklkebcgmaaa
open Go.RowKit Gf

attribute [local go_sem] Gf.xor_bits Gf.and_bits Gf.or_bits Gf.and128 Gf.and1 Gf.xor29 Gf.shl1 Gf.shr1 Gf.ne_zero_iff Gf.eq_zero_iff Gf.eq_one_iff Gf.beq_bytes Gf.bne_bytes Gf.bv_toNat

theorem ret_u8 {a b : UInt8} (h : a = b) : Ending.returned (B a) = .returned (B b) := by rw [h]

set_option maxHeartbeats 400000 in
theorem double_any (a : UInt8) (w : World) :
    Calls Try.prog 67 #[B a] w fun e w' => e = .returned (B (dbl a)) ∧ w = w' := by
  by_cases h : (a &&& 128 != 0) = true
  · go_enter Try.func67, Try.ntmps67
    go_wp2
    go_ret
    refine ⟨?_, rfl⟩
    show Ending.returned (B (a <<< 1 ^^^ 29)) = _
    rw [dbl, if_pos h]
  · have h' : (a &&& 128 != 0) = false := by simpa using h
    go_enter Try.func67, Try.ntmps67
    go_wp2
    go_ret
    refine ⟨?_, rfl⟩
    show Ending.returned (.int .u8 (bv a * (2 : Int) % (256 : Int))) = _
    rw [shl1, dbl, if_neg h]

set_option maxHeartbeats 400000 in
theorem mul_any (a b : UInt8) (w : World) :
    Calls Try.prog 60 #[B a, B b] w fun e w' => e = .returned (B (mul a b)) ∧ w = w' := by
  go_enter Try.func60, Try.ntmps60
  go_wp2
  go_loop [0, 1, 5] (fun x y p => ∃ a' b' p' : UInt8, x = B a' ∧ y = B b' ∧ p = B p' ∧ Hid (mulAux 8 a' b' p' = mul a b)) (fun _ y _ => (intOf y).toNat)
  case atStart => exact ⟨a, b, 0, rfl, rfl, rfl, Lib.hid rfl⟩
  case round =>
    obtain ⟨a', b', p', rfl, rfl, rfl, hm⟩ := hrel
    by_cases hb : b' = 0
    · have H : Hid (p' = mul a b) := by
        have := hm.out; subst hb; rw [mulAux_zero] at this; exact this
      clear hm
      have hb' : (b' != 0) = false := by simp [hb]
      have HB := Lib.hid hb
      clear hb
      go_wp2
      go_ret
      exact ⟨ret_u8 H.out, rfl⟩
    · have hb' : (b' != 0) = true := by simp [hb]
      have hlt := shr1_lt b' hb
      have hs := mulAux_step a' b' p' hb
      have HB := Lib.hid hb
      clear hb
      by_cases h1 : b' &&& 1 = 1
      · rw [if_pos h1] at hs
        have HS := Lib.hid (hs.symm.trans hm.out)
        have h1' : (b' &&& 1 == 1) = true := by simp [h1]
        clear hs h1 hm
        go_wp2_with (go_at_call 67; refine (double_any _ _).mono ?_; rintro e w' ⟨rfl, rfl⟩)
        go_round
        case rel => exact ⟨_, b' >>> 1, _, rfl, rfl, rfl, HS⟩
        case measure => simp only [intOf, Gf.bv_toNat]; omega
      · rw [if_neg h1] at hs
        have HS := Lib.hid (hs.symm.trans hm.out)
        have h1' : (b' &&& 1 == 1) = false := by simp [h1]
        clear hs h1 hm
        go_wp2_with (go_at_call 67; refine (double_any _ _).mono ?_; rintro e w' ⟨rfl, rfl⟩)
        go_round
        case rel => exact ⟨_, b' >>> 1, _, rfl, rfl, rfl, HS⟩
        case measure => simp only [intOf, Gf.bv_toNat]; omega

set_option maxHeartbeats 400000 in
theorem inv_any (a : UInt8) (h : (a == 0) = false) (w : World) :
    Calls Try.prog 52 #[B a] w fun e w' => e = .returned (.tuple #[B (inv a), .int .i64 0]) ∧ w = w' := by
  go_enter Try.func52, Try.ntmps52
  go_wp2
  go_loop [0, 4, 7] (fun x i k => ∃ (a' i' : UInt8) (n : Nat), x = B a' ∧ i = B i' ∧ k = .int .i64 (n : Int) ∧ n ≤ 7 ∧ Hid (invAux (7 - n) a' i' = inv a)) (fun _ _ k => 7 - (intOf k).toNat)
  case atStart => exact ⟨a, 1, 0, rfl, rfl, rfl, by omega, Lib.hid rfl⟩
  case round =>
    obtain ⟨a', i', n, rfl, rfl, rfl, hn, hm⟩ := hrel
    by_cases hlt : n < 7
    · have HS : Hid (invAux (7 - (n + 1)) (mul a' a') (mul i' (mul a' a')) = inv a) := by
        have e : 7 - n = (7 - (n + 1)) + 1 := by omega
        have := hm.out; rw [e, invAux] at this; exact this
      clear hm
      go_wp2_with (go_at_call 60; refine (mul_any _ _ _).mono ?_; rintro e w' ⟨rfl, rfl⟩)
      go_round
      case rel => exact ⟨_, _, n + 1, rfl, rfl, by go_num, by omega, HS⟩
      case measure => simp [intOf]; omega
    · have HS : Hid (i' = inv a) := by
        have e : 7 - n = 0 := by omega
        have := hm.out; rw [e, invAux] at this; exact this
      clear hm
      go_wp2
      go_ret2
      exact ⟨by rw [← HS.out]; rfl, rfl⟩

set_option maxHeartbeats 400000 in
theorem inv_zero (w : World) :
    Calls Try.prog 52 #[B 0] w fun e w' => e = .returned (.tuple #[B 0, .int .i64 1]) ∧ w = w' := by
  have h : ((0 : UInt8) == 0) = true := rfl
  go_enter Try.func52, Try.ntmps52
  go_wp2
  go_ret2
  exact ⟨rfl, rfl⟩
end Go.Proofs.Ytoeeklkebcgmaaa
/- Words for memory: a block known whole, slices of bytes, of ints and of byte slices that read as lists. No program in sight. -/
namespace Go.Proofs.Ytoeeklkebcgmaaa
open Go Go.RowKit Gf

/-- Block g is just the cells cs of element type t, none frozen. -/
def Blk (w : World) (g : Nat) (t : TypeId) (cs : Array Value) : Prop := w.heap[g]? = some (.cells cs t (0, 0))

section
variable {w w' : World} {g : Nat} {t : TypeId} {cs : Array Value}
theorem Blk.lt (h : Blk w g t cs) : g < w.heap.size := by
  rcases Nat.lt_or_ge g w.heap.size with hlt | hge
  · exact hlt
  · unfold Blk at h; rw [Array.getElem?_eq_none hge] at h; cases h
theorem Blk.cell (h : Blk w g t cs) (i : Nat) : w.cell? ⟨g, i, none⟩ = cs[i]? := cell_of_row w g i cs t (0, 0) h
theorem Blk.frozen (h : Blk w g t cs) (i : Nat) : w.frozen? ⟨g, i, none⟩ = false := by
  unfold Blk at h
  simp [World.frozen?, h]
theorem Blk.new (w : World) (t : TypeId) (cs : Array Value) : Blk (w.alloc (.cells cs t)) w.heap.size t cs := heap_alloc_new w _
theorem Blk.drew (h : Blk w g t cs) : Blk w.drew g t cs := h
theorem Blk.drewN (h : Blk w g t cs) (n : Nat) : Blk (w.drewN n) g t cs := h
theorem Blk.alloc (h : Blk w g t cs) (o : Obj) : Blk (w.alloc o) g t cs := (Below.heap_alloc w o g h.lt).trans h
theorem Blk.set_ (h : Blk w g t cs) (i : Nat) (u : Value) : Blk (w.setCell ⟨g, i, none⟩ u) g t (cs.setIfInBounds i u) := by
  unfold Blk at h ⊢
  simp [World.setCell, Array.getElem?_modify, h]
theorem Blk.far (h : Blk w g t cs) {p : Addr} (hp : g ≠ p.block) (u : Value) : Blk (w.setCell p u) g t cs := (Below.heap_setCell w p u g hp).trans h
theorem Blk.below {B : Nat} (h : Blk w g t cs) (hb : Below B w w') (hg : g < B) : Blk w' g t cs := (hb.block g hg).trans h
theorem Blk.kept (h : Blk w g t cs) (hb : Below w.heap.size w w') : Blk w' g t cs := (hb.block g h.lt).trans h
theorem Blk.inj {t' : TypeId} {cs' : Array Value} (h : Blk w g t cs) (h' : Blk w g t' cs') : cs = cs' := by
  unfold Blk at h h'
  rw [h] at h'
  injection h' with h'
  injection h' with h1
end

theorem below_drewN {B : Nat} {a w : World} (h : Below B a w) (n : Nat) : Below B a (w.drewN n) := ⟨h.os, h.tape, h.output, h.size, h.block⟩
theorem below_ofDrew {w w' : World} (h : Below w.drew.heap.size w.drew w') : Below w.heap.size w w' := ⟨h.os, h.tape, h.output, h.size, h.block⟩
theorem size_drewN (w : World) (n : Nat) : (w.drewN n).heap.size = w.heap.size := rfl

/-- A cell that is there lies below the heap's size. -/
theorem cell_lt {w : World} {p : Addr} {v : Value} (h : w.cell? p = some v) : p.block < w.heap.size := by
  rcases Nat.lt_or_ge p.block w.heap.size with hlt | hge
  · exact hlt
  · unfold World.cell? at h; rw [Array.getElem?_eq_none hge] at h; cases h

/-- What was there is there. -/
theorem cell_kept {w w' : World} {p : Addr} {v : Value} (hb : Below w.heap.size w w') (h : w.cell? p = some v) : w'.cell? p = some v :=
  (hb.cell (cell_lt h)).trans h

/-- A call's own frame, twice. -/
theorem below_then {w w1 w2 : World} (h : Below w.heap.size w w1) (k : Below w1.heap.size w1 w2) : Below w.heap.size w w2 :=
  h.trans (k.mono h.size)
theorem below_thenB {B : Nat} {w w1 w2 : World} (h : Below B w w1) (hB : B ≤ w1.heap.size) (k : Below w1.heap.size w1 w2) : Below B w w2 :=
  h.trans (k.mono hB)

/-- Element k of a list of bytes, of rows, of ints: plain defs, so that the walk's simp does not respell them. -/
def gB (l : List UInt8) (k : Nat) : UInt8 := l.getD k 0
def gR (m : List (List UInt8)) (k : Nat) : List UInt8 := m.getD k []
def gI (z : List Int) (k : Nat) : Int := z.getD k 0
theorem gB_eq {l : List UInt8} {k : Nat} (h : k < l.length) : gB l k = l[k] := by simp [gB, List.getD, List.getElem?_eq_getElem h]
theorem gR_eq {m : List (List UInt8)} {k : Nat} (h : k < m.length) : gR m k = m[k] := by simp [gR, List.getD, List.getElem?_eq_getElem h]
theorem gI_eq {z : List Int} {k : Nat} (h : k < z.length) : gI z k = z[k] := by simp [gI, List.getD, List.getElem?_eq_getElem h]
theorem gR_set_self {m : List (List UInt8)} {k : Nat} (h : k < m.length) (l : List UInt8) : gR (m.set k l) k = l := by
  rw [gR, List.getD_eq_getElem?_getD, List.getElem?_set_self h, Option.getD_some]
theorem gR_set_ne {m : List (List UInt8)} {k j : Nat} (h : k ≠ j) (l : List UInt8) : gR (m.set k l) j = gR m j := by
  rw [gR, gR, List.getD_eq_getElem?_getD, List.getElem?_set_ne h, ← List.getD_eq_getElem?_getD]

/-- Of what was there, only blocks in S may have turned. -/
structure Kp (S : Nat → Prop) (w w' : World) : Prop where
  os : w'.os = w.os
  tape : w'.tape = w.tape
  output : w'.output = w.output
  size : w.heap.size ≤ w'.heap.size
  block : ∀ k, k < w.heap.size → ¬ S k → w'.heap[k]? = w.heap[k]?

section
variable {S S' : Nat → Prop} {w w1 w2 : World}
theorem Kp.refl (S : Nat → Prop) (w : World) : Kp S w w := ⟨rfl, rfl, rfl, Nat.le_refl _, fun _ _ _ => rfl⟩
theorem Kp.mono (h : Kp S w w1) (hs : ∀ k, k < w.heap.size → S k → S' k) : Kp S' w w1 := ⟨h.os, h.tape, h.output, h.size, fun k hk hn => h.block k hk (fun hS => hn (hs k hk hS))⟩
theorem Kp.trans (h : Kp S w w1) (k : Kp S w1 w2) : Kp S w w2 :=
  ⟨k.os.trans h.os, k.tape.trans h.tape, k.output.trans h.output, Nat.le_trans h.size k.size, fun i hi hn => (k.block i (Nat.lt_of_lt_of_le hi h.size) hn).trans (h.block i hi hn)⟩
theorem Kp.of_below (h : Below w.heap.size w w1) : Kp S w w1 := ⟨h.os, h.tape, h.output, h.size, fun i hi _ => h.block i hi⟩
theorem Kp.below (h : Kp S w w1) {b : Nat} (hb : b ≤ w.heap.size) (hs : ∀ k, S k → b ≤ k) : Below b w w1 :=
  ⟨h.os, h.tape, h.output, h.size, fun i hi => h.block i (Nat.lt_of_lt_of_le hi hb) (fun hS => by have := hs i hS; omega)⟩
theorem Kp.then (h : Kp S w w1) (k : Below w1.heap.size w1 w2) : Kp S w w2 := h.trans (Kp.of_below k)
theorem Kp.drew (h : Kp S w w1) : Kp S w w1.drew := ⟨h.os, h.tape, h.output, h.size, h.block⟩
theorem Kp.drewN (h : Kp S w w1) (n : Nat) : Kp S w (w1.drewN n) := ⟨h.os, h.tape, h.output, h.size, h.block⟩
theorem Kp.alloc (h : Kp S w w1) (o : Obj) : Kp S w (w1.alloc o) :=
  h.trans ⟨rfl, rfl, rfl, by simp, fun i hi _ => Below.heap_alloc w1 o i hi⟩
theorem Kp.set (h : Kp S w w1) {p : Addr} (hp : S p.block ∨ w.heap.size ≤ p.block) (v : Value) : Kp S w (w1.setCell p v) :=
  ⟨h.os, h.tape, h.output, by rw [World.size_setCell]; exact h.size, fun i hi hn => (Below.heap_setCell w1 p v i (fun e => by
    subst e
    rcases hp with hp | hp
    · exact hn hp
    · omega)).trans (h.block i hi hn)⟩
theorem Kp.blk {g : Nat} {t : TypeId} {cs : Array Value} (h : Kp S w w1) (hb : Blk w g t cs) (hn : ¬ S g) : Blk w1 g t cs := (h.block g hb.lt hn).trans hb
theorem Kp.cell (h : Kp S w w1) {p : Addr} {v : Value} (hc : w.cell? p = some v) (hn : ¬ S p.block) : w1.cell? p = some v :=
  (World.cell?_of_block (h.block p.block (cell_lt hc) hn)).trans hc
theorem Kp.own (h : Kp S w w1) {base : Nat} {e : TypeId} {v : Value} {n : Nat} {xs : List Value} (ho : w.ownsRow base e 1 v n xs) (hn : ∀ g, v.ownBlock = some g → ¬ S g) : w1.ownsRow base e 1 v n xs := by
  refine ⟨ho.1, ?_⟩
  rcases ho.2 with h0 | ⟨g, cap, cur, rfl, hb, hh, hr⟩
  · exact .inl h0
  · refine .inr ⟨g, cap, cur, rfl, hb, ?_, hr⟩
    have hlt : g < w.heap.size := by
      rcases Nat.lt_or_ge g w.heap.size with h1 | h1
      · exact h1
      · rw [Array.getElem?_eq_none h1] at hh; cases hh
    exact (h.block g hlt (hn g rfl)).trans hh
theorem Kp.grown (h : Kp S w w1) {row : Option Nat} (hg : w1.grownBy w2 row) (hr : ∀ k, row = some k → S k ∨ w.heap.size ≤ k) : Kp S w w2 :=
  ⟨hg.os.trans h.os, hg.tape.trans h.tape, hg.output.trans h.output, Nat.le_trans h.size hg.size, fun i hi hn =>
    (hg.block i (Nat.lt_of_lt_of_le hi h.size) (fun e => by
      rcases hr i e.symm with h1 | h1
      · exact hn h1
      · omega)).trans (h.block i hi hn)⟩
end

/-- The greatest capacity in bytes that a slice is let to have. -/
def lim : Nat := 140737488355328

/-- The slice value '.slice A n c' has the cells f 0, f 1, .. f (n - 1). -/
def Cells (w : World) (A : Option Addr) (n : Nat) (f : Nat → Value) : Prop :=
  ∀ k, k < n → ∃ g o, A = some ⟨g, o, none⟩ ∧ w.cell? ⟨g, o + k, none⟩ = some (f k)

theorem Cells.kept {w w' : World} {A : Option Addr} {n : Nat} {f : Nat → Value} (h : Cells w A n f) (hb : Below w.heap.size w w') : Cells w' A n f :=
  fun k hk => let ⟨g, o, e, hc⟩ := h k hk; ⟨g, o, e, cell_kept hb hc⟩
theorem Cells.drewN {w : World} {A : Option Addr} {n : Nat} {f : Nat → Value} (h : Cells w A n f) (k : Nat) : Cells (w.drewN k) A n f := h
/-- A store at a cell that holds another kind of value turns none of them. -/
theorem Cells.store {w : World} {A : Option Addr} {n : Nat} {f : Nat → Value} (h : Cells w A n f) {p : Addr} {u : Value} (hp : w.cell? p = some u) (hne : ∀ k, k < n → u ≠ f k) (v : Value) : Cells (w.setCell p v) A n f :=
  fun k hk => let ⟨g, o, e, hc⟩ := h k hk
    ⟨g, o, e, (World.cell?_setCell_other w p _ v (fun e' => by rw [← e', hp] at hc; injection hc with hc; exact hne k hk hc)).trans hc⟩

/-- Bytes. -/
def BS (w : World) (A : Option Addr) (n c : Nat) (l : List UInt8) : Prop :=
  l.length = n ∧ n ≤ c ∧ n ≤ lim ∧ Cells w A n (fun k => B (gB l k))
/-- Ints. -/
def IS (w : World) (A : Option Addr) (n c : Nat) (l : List Int) : Prop :=
  l.length = n ∧ n ≤ c ∧ n * 8 ≤ lim ∧ Cells w A n (fun k => .int .i64 (gI l k))
/-- Slices of bytes. -/
def MS (w : World) (A : Option Addr) (n c : Nat) (m : List (List UInt8)) : Prop :=
  m.length = n ∧ n ≤ c ∧ n * 24 ≤ lim ∧ ∀ k, k < n → ∃ g o A' n' c', A = some ⟨g, o, none⟩ ∧ w.cell? ⟨g, o + k, none⟩ = some (.slice A' n' c') ∧ BS w A' n' c' (gR m k)

section
variable {w w' : World} {A : Option Addr} {n c : Nat} {l : List UInt8} {m : List (List UInt8)} {z : List Int}
theorem BS.kept (h : BS w A n c l) (hb : Below w.heap.size w w') : BS w' A n c l := ⟨h.1, h.2.1, h.2.2.1, h.2.2.2.kept hb⟩
theorem BS.drew (h : BS w A n c l) : BS w.drew A n c l := h
theorem IS.drew (h : IS w A n c z) : IS w.drew A n c z := h
theorem MS.drew (h : MS w A n c m) : MS w.drew A n c m := h
theorem BS.drewN (h : BS w A n c l) (k : Nat) : BS (w.drewN k) A n c l := h
theorem IS.kept (h : IS w A n c z) (hb : Below w.heap.size w w') : IS w' A n c z := ⟨h.1, h.2.1, h.2.2.1, h.2.2.2.kept hb⟩
theorem MS.kept (h : MS w A n c m) (hb : Below w.heap.size w w') : MS w' A n c m :=
  ⟨h.1, h.2.1, h.2.2.1, fun k hk => let ⟨g, o, A', n', c', e, hc, hr⟩ := h.2.2.2 k hk; ⟨g, o, A', n', c', e, cell_kept hb hc, hr.kept hb⟩⟩
theorem BS.at_ (h : BS w A n c l) (hb : Below w.heap.size w w') {k : Nat} (hk : k < n) : ∃ g o, A = some ⟨g, o, none⟩ ∧ w'.cell? ⟨g, o + k, none⟩ = some (B (gB l k)) :=
  (h.kept hb).2.2.2 k hk
theorem IS.at_ (h : IS w A n c z) (hb : Below w.heap.size w w') {k : Nat} (hk : k < n) : ∃ g o, A = some ⟨g, o, none⟩ ∧ w'.cell? ⟨g, o + k, none⟩ = some (.int .i64 (gI z k)) :=
  (h.kept hb).2.2.2 k hk
theorem MS.at_ (h : MS w A n c m) (hb : Below w.heap.size w w') {k : Nat} (hk : k < n) :
    ∃ g o A' n' c', A = some ⟨g, o, none⟩ ∧ w'.cell? ⟨g, o + k, none⟩ = some (.slice A' n' c') ∧ BS w' A' n' c' (gR m k) :=
  (h.kept hb).2.2.2 k hk
theorem BS.len_le (h : BS w A n c l) : n ≤ 140737488355328 := by have := h.2.2.1; unfold lim at this; omega
theorem IS.len_le (h : IS w A n c z) : n * 8 ≤ 140737488355328 := by have := h.2.2.1; unfold lim at this; omega
theorem MS.len_le (h : MS w A n c m) : n * 24 ≤ 140737488355328 := by have := h.2.2.1; unfold lim at this; omega
theorem BS.nil : BS w none 0 0 [] := ⟨rfl, Nat.le_refl _, by decide, fun k hk => absurd hk (by omega)⟩
theorem IS.nil : IS w none 0 0 [] := ⟨rfl, Nat.le_refl _, by decide, fun k hk => absurd hk (by omega)⟩
theorem MS.nil : MS w none 0 0 [] := ⟨rfl, Nat.le_refl _, by decide, fun k hk => absurd hk (by omega)⟩
end

/-- A list of bytes as the cells of a block. -/
def row (l : List UInt8) : Array Value := (l.map B).toArray
theorem row_size (l : List UInt8) : (row l).size = l.length := by simp [row]
theorem row_get (l : List UInt8) (k : Nat) (h : k < l.length) : (row l)[k]? = some (B (gB l k)) := by
  rw [gB_eq h]; simp [row, List.getElem?_eq_getElem h]
theorem row_set (l : List UInt8) (k : Nat) (b : UInt8) : (row l).setIfInBounds k (B b) = row (l.set k b) := by
  simp [row, List.map_set]

theorem BS.of_own {w : World} {base : Nat} {t : TypeId} {v : Value} {n : Nat} {l : List UInt8} (h : w.ownsRow base t 1 v n (l.map B)) (hn : n ≤ lim) : ∃ A c, v = .slice A n c ∧ BS w A n c l := by
  have hl : l.length = n := by have := h.1; simpa using this
  rcases h.2 with ⟨rfl, rfl⟩ | ⟨g, cap, cur, rfl, _, hh, hnc, _, hsz, htk⟩
  · exact ⟨none, 0, rfl, hl, Nat.le_refl _, hn, fun k hk => absurd hk (by omega)⟩
  · refine ⟨some ⟨g, 0, none⟩, cap, rfl, hl, hnc, hn, fun k hk => ⟨g, 0, rfl, ?_⟩⟩
    have hkl : k < l.length := by omega
    show _ = some (B (gB l k))
    rw [Nat.zero_add, h.cellAt k (by omega), gB_eq hkl]
    simp [List.getElem?_eq_getElem hkl]
def zeros (n : Nat) : List UInt8 := List.replicate n 0
theorem zeros_length (n : Nat) : (zeros n).length = n := by simp [zeros]
/-- The first k elements mapped, the others 0. -/
def part (f : UInt8 → UInt8) (l : List UInt8) (k : Nat) : List UInt8 := (l.take k).map f ++ List.replicate (l.length - k) 0
theorem part_zero (f : UInt8 → UInt8) (l : List UInt8) : part f l 0 = zeros l.length := by simp [part, zeros]
theorem part_all (f : UInt8 → UInt8) (l : List UInt8) (k : Nat) (h : l.length ≤ k) : part f l k = l.map f := by
  simp [part, List.take_of_length_le h, Nat.sub_eq_zero_of_le h]
theorem part_length (f : UInt8 → UInt8) (l : List UInt8) (k : Nat) (h : k ≤ l.length) : (part f l k).length = l.length := by
  simp [part]; omega
theorem part_set (f : UInt8 → UInt8) (l : List UInt8) (k : Nat) (h : k < l.length) : (part f l k).set k (f (gB l k)) = part f l (k + 1) := by
  have e : l.length - k = (l.length - (k + 1)) + 1 := by omega
  have hl : ((l.take k).map f).length = k := by simp; omega
  unfold part
  rw [List.set_append, if_neg (by omega), hl, Nat.sub_self, e, List.replicate_succ, List.set_cons_zero, List.take_succ_eq_append_getElem h, List.map_append, List.append_assoc]
  simp only [List.map_cons, List.map_nil, List.cons_append, List.nil_append, gB_eq h]

/-- A block that is known whole, as a slice from its head. -/
theorem BS.of_blk {w : World} {g n : Nat} {t : TypeId} {l : List UInt8} (h : Blk w g t (row l)) (hn : l.length = n) (hl : n ≤ lim) : BS w (some ⟨g, 0, none⟩) n n l :=
  ⟨hn, Nat.le_refl _, hl, fun k hk => ⟨g, 0, rfl, by rw [Nat.zero_add, h.cell]; exact row_get l k (by omega)⟩⟩

/-- Block g holds slices that read as the rows of m. -/
def RowsBlk (w : World) (g : Nat) (t : TypeId) (cs : Array Value) (m : List (List UInt8)) : Prop :=
  Blk w g t cs ∧ m.length ≤ cs.size ∧ ∀ i, i < m.length → ∃ A n c, cs[i]? = some (.slice A n c) ∧ BS w A n c (gR m i)

section
variable {w w' : World} {g : Nat} {t : TypeId} {cs : Array Value} {m : List (List UInt8)}
theorem RowsBlk.kept (h : RowsBlk w g t cs m) (hb : Below w.heap.size w w') : RowsBlk w' g t cs m :=
  ⟨h.1.kept hb, h.2.1, fun i hi => let ⟨A, n, c, e, hr⟩ := h.2.2 i hi; ⟨A, n, c, e, hr.kept hb⟩⟩
theorem RowsBlk.drew (h : RowsBlk w g t cs m) : RowsBlk w.drew g t cs m := h
theorem RowsBlk.drewN (h : RowsBlk w g t cs m) (k : Nat) : RowsBlk (w.drewN k) g t cs m := h
theorem BS.store {A : Option Addr} {n c : Nat} {l : List UInt8} (h : BS w A n c l) {p : Addr} {B' : Option Addr} {n' c' : Nat} (hp : w.cell? p = some (.slice B' n' c')) (v : Value) : BS (w.setCell p v) A n c l :=
  ⟨h.1, h.2.1, h.2.2.1, h.2.2.2.store hp (fun k _ e => by cases e) v⟩
theorem BS.far {A : Option Addr} {n c : Nat} {l : List UInt8} (h : BS w A n c l) {p : Addr} (hp : ∀ g o, A = some ⟨g, o, none⟩ → g ≠ p.block) (v : Value) : BS (w.setCell p v) A n c l :=
  ⟨h.1, h.2.1, h.2.2.1, fun k hk => by
    obtain ⟨g, o, e, hc⟩ := h.2.2.2 k hk
    exact ⟨g, o, e, (World.cell?_setCell_other w p _ v (fun e' => hp g o e (by rw [e']))).trans hc⟩⟩
theorem RowsBlk.cell (h : RowsBlk w g t cs m) {i : Nat} (hi : i < m.length) : ∃ A n c, w.cell? ⟨g, i, none⟩ = some (.slice A n c) ∧ BS w A n c (gR m i) := by
  obtain ⟨A, n, c, e, hr⟩ := h.2.2 i hi
  exact ⟨A, n, c, by rw [h.1.cell]; exact e, hr⟩
theorem RowsBlk.set_ (h : RowsBlk w g t cs m) {i : Nat} (hi : i < m.length) {A : Option Addr} {n c : Nat} {l : List UInt8} (hl : BS w A n c l) :
    RowsBlk (w.setCell ⟨g, i, none⟩ (.slice A n c)) g t (cs.setIfInBounds i (.slice A n c)) (m.set i l) := by
  obtain ⟨A0, n0, c0, hc0, _⟩ := h.cell hi
  refine ⟨h.1.set_ i _, by simp [h.2.1], fun j hj => ?_⟩
  rw [List.length_set] at hj
  by_cases e : i = j
  · subst e
    refine ⟨A, n, c, by rw [Array.getElem?_setIfInBounds_self_of_lt (by have := h.2.1; omega)], ?_⟩
    rw [gR_set_self hi]
    exact hl.store hc0 _
  · obtain ⟨A1, n1, c1, e1, hr⟩ := h.2.2 j hj
    refine ⟨A1, n1, c1, by rw [Array.getElem?_setIfInBounds_ne e]; exact e1, ?_⟩
    rw [gR_set_ne e]
    exact hr.store hc0 _
theorem RowsBlk.far (h : RowsBlk w g t cs m) {p : Addr} (hp : g ≠ p.block) {u : Value} (hu : w.cell? p = some u) (hne : ∀ b, u ≠ B b) (v : Value) : RowsBlk (w.setCell p v) g t cs m :=
  ⟨h.1.far hp v, h.2.1, fun i hi => let ⟨A, n, c, e, hr⟩ := h.2.2 i hi; ⟨A, n, c, e, hr.1, hr.2.1, hr.2.2.1, hr.2.2.2.store hu (fun _ _ => hne _) v⟩⟩
theorem RowsBlk.toMS (h : RowsBlk w g t cs m) {n c : Nat} (hn : m.length = n) (hc : n ≤ c) (hl : n * 24 ≤ lim) : MS w (some ⟨g, 0, none⟩) n c m :=
  ⟨hn, hc, hl, fun k hk => by
    subst hn
    obtain ⟨A, n, c, e, hr⟩ := h.cell hk
    exact ⟨g, 0, A, n, c, rfl, by rw [Nat.zero_add]; exact e, hr⟩⟩
end

/-- v is a new slice of byte slices over a block of its own; nothing old has turned. -/
def NewM (t : TypeId) (m : List (List UInt8)) (w : World) (v : Value) (w' : World) : Prop :=
  ∃ g cs n, v = .slice (some ⟨g, 0, none⟩) n n ∧ m.length = n ∧ w.heap.size ≤ g ∧ RowsBlk w' g t cs m ∧ Below w.heap.size w w'

/-- v is a new byte slice over a block of its own that holds l; nothing old has turned. -/
def NewB (t : TypeId) (l : List UInt8) (w : World) (v : Value) (w' : World) : Prop :=
  ∃ g n, v = .slice (some ⟨g, 0, none⟩) n n ∧ l.length = n ∧ w.heap.size ≤ g ∧ Blk w' g t (row l) ∧ Below w.heap.size w w'
/-- dst plus src times c, byte by byte. -/
def muladd (dst src : List UInt8) (c : UInt8) : List UInt8 := List.zipWith (fun s d => mul c s ^^^ d) src dst
/-- After k rounds of MulAdd. -/
def mpart (dst src : List UInt8) (c : UInt8) (k : Nat) : List UInt8 := (muladd dst src c).take k ++ (src.map (mul c)).drop k
theorem muladd_length (dst src : List UInt8) (c : UInt8) (h : dst.length = src.length) : (muladd dst src c).length = src.length := by
  simp [muladd]; omega
theorem mpart_zero (dst src : List UInt8) (c : UInt8) : mpart dst src c 0 = src.map (mul c) := by simp [mpart]
theorem mpart_all (dst src : List UInt8) (c : UInt8) (h : dst.length = src.length) (k : Nat) (hk : src.length ≤ k) : mpart dst src c k = muladd dst src c := by
  simp [mpart, List.take_of_length_le (show (muladd dst src c).length ≤ k by rw [muladd_length _ _ _ h]; exact hk), hk]
theorem mpart_length (dst src : List UInt8) (c : UInt8) (h : dst.length = src.length) (k : Nat) (hk : k ≤ src.length) : (mpart dst src c k).length = src.length := by
  simp [mpart, muladd_length _ _ _ h]; omega
theorem mpart_get (dst src : List UInt8) (c : UInt8) (h : dst.length = src.length) (k : Nat) (hk : k < src.length) : gB (mpart dst src c k) k = mul c (gB src k) := by
  have hl : ((muladd dst src c).take k).length = k := by simp [muladd_length _ _ _ h]; omega
  simp only [mpart, gB, List.getD_eq_getElem?_getD]
  rw [List.getElem?_append_right (by omega), hl, Nat.sub_self, List.getElem?_drop]
  simp [List.getElem?_eq_getElem hk]
theorem mpart_set (dst src : List UInt8) (c : UInt8) (h : dst.length = src.length) (k : Nat) (hk : k < src.length) :
    (mpart dst src c k).set k (mul c (gB src k) ^^^ gB dst k) = mpart dst src c (k + 1) := by
  have hm : k < (muladd dst src c).length := by rw [muladd_length _ _ _ h]; exact hk
  have hl : ((muladd dst src c).take k).length = k := by simp; omega
  have hd : k < (src.map (mul c)).length := by simpa using hk
  have e : (muladd dst src c)[k] = mul c (gB src k) ^^^ gB dst k := by
    rw [gB_eq hk, gB_eq (show k < dst.length by omega)]; simp [muladd]
  unfold mpart
  rw [List.set_append, if_neg (by omega), hl, Nat.sub_self, List.drop_eq_getElem_cons hd, List.set_cons_zero, List.take_succ_eq_append_getElem hm, e, List.append_assoc]
  rfl
end Go.Proofs.Ytoeeklkebcgmaaa
/- Closed facts about the program's tables, and 'make' of the element types that the chapter uses. -/
namespace Go.Proofs.Ytoeeklkebcgmaaa
open Go Go.RowKit Gf

theorem infoU8 : (Try.prog.info? 5).map (fun i => (i.zero, i.size, i.bytes)) = some (some (.int .u8 0), 1, 1) := by kernel_rfl
theorem infoBytes : (Try.prog.info? 22).map (fun i => (i.zero, i.size, i.bytes)) = some (some (.slice none 0 0), 1, 24) := by kernel_rfl
theorem infoInt : (Try.prog.info? 3).map (fun i => (i.zero, i.size, i.bytes)) = some (some (.int .i64 0), 1, 8) := by kernel_rfl

theorem made_one (z : Value) (n : Nat) : madeCells #[z] n = (List.replicate n z).toArray := by
  rw [← toList_madeCells_one]

theorem make_bytes (n : Nat) (h : n ≤ 140737488355328) (w : World) :
    (Instr.makeSlice 22 (.int .i64 (n : Int)) (.int .i64 (n : Int))).run Try.prog w = .ok (.slice (some ⟨w.heap.size, 0, none⟩) n n) (w.alloc (.cells (row (zeros n)) 5)) := by
  obtain ⟨i, hi, hz, hs, hb⟩ := info_parts infoU8
  have hr := run_make (P := Try.prog) w 22 5 i _ Try.underlying22 hi hz .i64 .i64 n n (by omega) (by omega) (by rw [hb]; omega) (by omega)
  rw [hr, hs]
  simp only [Int.toNat_natCast, Value.cells, Nat.mul_one]
  rw [made_one]
  simp [row, zeros]; rfl

theorem make_rows (n : Nat) (h : n * 24 ≤ 140737488355328) (w : World) :
    (Instr.makeSlice 30 (.int .i64 (n : Int)) (.int .i64 (n : Int))).run Try.prog w = .ok (.slice (some ⟨w.heap.size, 0, none⟩) n n) (w.alloc (.cells (Array.replicate n (.slice none 0 0)) 22)) := by
  obtain ⟨i, hi, hz, hs, hb⟩ := info_parts infoBytes
  have hr := run_make (P := Try.prog) w 30 22 i _ Try.underlying30 hi hz .i64 .i64 n n (by omega) (by omega) (by rw [hb]; omega) (by omega)
  rw [hr, hs]
  simp only [Int.toNat_natCast, Value.cells, Nat.mul_one]
  rw [made_one]
  simp
end Go.Proofs.Ytoeeklkebcgmaaa
/- Contracts of package gf256 that touch memory: multiplier and its closure, Scale, MulAdd. -/
namespace Go.Proofs.Ytoeeklkebcgmaaa
open Go.RowKit Gf

attribute [local go_sem] Gf.xor_bits Gf.and_bits Gf.or_bits Gf.and128 Gf.and1 Gf.xor29 Gf.shl1 Gf.shr1 Gf.ne_zero_iff Gf.eq_zero_iff Gf.eq_one_iff Gf.beq_bytes Gf.bne_bytes Gf.bv_toNat

theorem mul_int (x y : Int) (w : World) (hx : 0 ≤ x) (hx' : x < 256) (hy : 0 ≤ y) (hy' : y < 256) :
    Calls Try.prog 60 #[.int .u8 x, .int .u8 y] w fun e w' => e = .returned (B (mul (UInt8.ofNat x.toNat) (UInt8.ofNat y.toNat))) ∧ w = w' := by
  have h := mul_any (UInt8.ofNat x.toNat) (UInt8.ofNat y.toNat) w
  rw [B, B, bv_ofNat x hx hx', bv_ofNat y hy hy'] at h
  exact h

/-- The lower table of multiplier after k rounds. -/
def low (c : UInt8) (k : Nat) : List UInt8 := (List.range 16).map fun i => if i < k then mul c (UInt8.ofNat i) else 0
def high (c : UInt8) (k : Nat) : List UInt8 := (List.range 16).map fun i => if i < k then mul c (UInt8.ofNat i * 16) else 0
theorem low_length (c : UInt8) (k : Nat) : (low c k).length = 16 := by simp [low]
theorem high_length (c : UInt8) (k : Nat) : (high c k).length = 16 := by simp [high]
theorem set_range (f : Nat → UInt8) (k : Nat) (_hk : k < 16) : ((List.range 16).map fun i => if i < k then f i else 0).set k (f k) = (List.range 16).map fun i => if i < k + 1 then f i else 0 := by
  apply List.ext_getElem (by simp)
  intro i h1 h2
  rw [List.getElem_set]
  simp only [List.getElem_map, List.getElem_range]
  by_cases h : k = i
  · subst h; simp
  · rw [if_neg h]
    by_cases h3 : i < k
    · rw [if_pos h3, if_pos (by omega)]
    · rw [if_neg h3, if_neg (by omega)]
theorem low_set (c : UInt8) (k : Nat) (hk : k < 16) : (low c k).set k (mul c (UInt8.ofNat k)) = low c (k + 1) := set_range (fun i => mul c (UInt8.ofNat i)) k hk
theorem high_set (c : UInt8) (k : Nat) (hk : k < 16) : (high c k).set k (mul c (UInt8.ofNat k * 16)) = high c (k + 1) := set_range (fun i => mul c (UInt8.ofNat i * 16)) k hk

def Tabs (c : UInt8) (g k : Nat) (w w' : World) : Prop :=
  Blk w' g 120 (row (low c k)) ∧ Blk w' (g + 1) 120 (row (high c k)) ∧ Below g w w' ∧ w'.heap.size = g + 2

set_option maxHeartbeats 400000 in
theorem multiplier_any (c : UInt8) (w : World) :
    Calls Try.prog 86 #[B c] w fun e w' => e = .returned (.func (.func 95) #[] #[.pointer (some ⟨w.heap.size, 0, none⟩), .pointer (some ⟨w.heap.size + 1, 0, none⟩)]) ∧ Tabs c w.heap.size 16 w w' := by
  have hmf : ∀ (fn : Fn) (first cap : Array Value) (w : World), (Instr.makeFunc fn first cap).run Try.prog w = .ok (.func fn first cap) w := fun _ _ _ _ => rfl
  go_enter Try.func86, Try.ntmps86
  go_wp2
  go_loopw [6] (fun i wr => ∃ k : Nat, k ≤ 16 ∧ i = .int .i64 (k : Int) ∧ Tabs c w.heap.size k w wr) (fun i _ => 16 - (intOf i).toNat)
  case atStart =>
    refine ⟨0, by omega, rfl, ?_, ?_, ?_, ?_⟩
    · exact (Blk.new w _ _).alloc _
    · have h := Blk.new (w.alloc (.cells (row (low c 0)) 120)) 120 (row (high c 0))
      rw [World.size_alloc] at h
      exact h
    · exact ((Below.refl _ _).alloc (Nat.le_refl _) _).alloc (by simp) _
    · simp
  case round =>
    obtain ⟨k, hk, rfl, h1, h2, hb, hz⟩ := hrel
    by_cases hlt : k < 16
    · have c1 : wr.cell? ⟨w.heap.size, k, none⟩ = some (B (gB (low c k) k)) := by rw [h1.cell]; exact row_get _ _ (by rw [low_length]; exact hlt)
      have f1 := h1.frozen k
      have h1' := h1.set_ k (B (mul c (UInt8.ofNat k)))
      rw [row_set, low_set c k hlt] at h1'
      have h2' := h2.far (p := ⟨w.heap.size, k, none⟩) (by simp) (B (mul c (UInt8.ofNat k)))
      have c2 : (wr.setCell ⟨w.heap.size, k, none⟩ (B (mul c (UInt8.ofNat k)))).cell? ⟨w.heap.size + 1, k, none⟩ = some (B (gB (high c k) k)) := by rw [h2'.cell]; exact row_get _ _ (by rw [high_length]; exact hlt)
      have f2 := h2'.frozen k
      have h2'' := h2'.set_ k (B (mul c (UInt8.ofNat k * 16)))
      rw [row_set, high_set c k hlt] at h2''
      have h1'' := h1'.far (p := ⟨w.heap.size + 1, k, none⟩) (by simp) (B (mul c (UInt8.ofNat k * 16)))
      have HR : Hid (Tabs c w.heap.size (k + 1) w ((wr.setCell ⟨w.heap.size, k, none⟩ (B (mul c (UInt8.ofNat k)))).setCell ⟨w.heap.size + 1, k, none⟩ (B (mul c (UInt8.ofNat k * 16))))) :=
        Lib.hid ⟨h1'', h2'', (hb.setCell (by simp) _).setCell (by simp) _, by simp [World.setCell, hz]⟩
      clear h1 h2 h1' h2' h1'' h2'' hb hz
      go_wp2_with (go_at_call 60; refine (mul_int _ _ _ (bv_lo _) (bv_hi _) (by omega) (by omega)).mono ?_; rintro e w' ⟨rfl, rfl⟩)
      go_roundw
      case rel => exact ⟨k + 1, by omega, by go_num, HR.out⟩
      case measure => simp [intOf]; omega
    · obtain rfl : k = 16 := by omega
      have HR : Hid (Tabs c w.heap.size 16 w wr) := Lib.hid ⟨h1, h2, hb, hz⟩
      clear h1 h2 hb hz
      go_wp2
      go_ret
      exact ⟨rfl, HR.out⟩

theorem low_get (c : UInt8) (i : Nat) (h : i < 16) : gB (low c 16) i = mul c (UInt8.ofNat i) := by
  simp [gB, low, List.getD, h]
theorem high_get (c : UInt8) (i : Nat) (h : i < 16) : gB (high c 16) i = mul c (UInt8.ofNat i * 16) := by
  simp [gB, high, List.getD, h]
theorem and15 (a : UInt8) : bits .and .u8 (bv a) 15 = bv a % 16 := u8_and15 _ (bv_lo a) (bv_hi a)

set_option maxHeartbeats 400000 in
theorem times_any (c a : UInt8) (g : Nat) (w : World) (h1 : Blk w g 120 (row (low c 16))) (h2 : Blk w (g + 1) 120 (row (high c 16))) :
    Calls Try.prog 95 #[B a, .pointer (some ⟨g, 0, none⟩), .pointer (some ⟨g + 1, 0, none⟩)] w fun e w' => e = .returned (B (mul c a)) ∧ ∃ n, w' = w.drewN n := by
  have hl := bv_lo a
  have hh := bv_hi a
  have c1 : w.cell? ⟨g, (bv a % 16).toNat, none⟩ = some (B (mul c (UInt8.ofNat (bv a % 16).toNat))) := by
    rw [h1.cell, row_get _ _ (by rw [low_length]; omega), low_get _ _ (by omega)]
  have c2 : w.cell? ⟨g + 1, (bv a / 16).toNat, none⟩ = some (B (mul c (UInt8.ofNat (bv a / 16).toNat * 16))) := by
    rw [h2.cell, row_get _ _ (by rw [high_length]; omega), high_get _ _ (by omega)]
  have HF : Hid (mul c (UInt8.ofNat (bv a % 16).toNat) ^^^ mul c (UInt8.ofNat (bv a / 16).toNat * 16) = mul c a) := by
    rw [← mul_xor, nibbles]; exact Lib.hid rfl
  have q1 : 0 ≤ bv a % 16 := by omega
  have q2 : bv a % 16 < 16 := by omega
  have q3 : 0 ≤ bv a / 16 := by omega
  have q4 : bv a / 16 < 16 := by omega
  have e15 := and15 a
  clear h1 h2
  go_enter Try.func95, Try.ntmps95
  go_wp2
  go_quiet (fail)
  go_wp2
  go_ret
  exact ⟨ret_u8 HF.out, _, rfl⟩

/-- What the rounds of Scale keep. -/
def ScaleI (c : UInt8) (l : List UInt8) (g gm k : Nat) (w wr : World) : Prop :=
  Blk wr g 5 (row (part (mul c) l k)) ∧ Blk wr gm 120 (row (low c 16)) ∧ Blk wr (gm + 1) 120 (row (high c 16)) ∧ Below w.heap.size w wr ∧ w.heap.size ≤ g ∧ g ≠ gm ∧ g ≠ gm + 1

def Rets (R : World → Value → World → Prop) (w : World) (e : Ending) (w' : World) : Prop := ∃ v, e = .returned v ∧ R w v w'

set_option maxHeartbeats 400000 in
theorem scale_any (A : Option Addr) (n cp : Nat) (l : List UInt8) (c : UInt8) (w : World) (h : BS w A n cp l) :
    Calls Try.prog 72 #[.slice A n cp, B c] w (Rets (NewB 5 (l.map (mul c))) w) := by
  have hn := h.len_le
  have hmk := make_bytes n hn
  have hln := h.1
  have HL := Lib.hid hln
  clear hln
  go_enter Try.func72, Try.ntmps72
  go_wp2_with (go_at_call 86; refine (multiplier_any _ _).mono ?_; rintro e w1 ⟨rfl, htabs⟩)
  go_loopw [16] (fun i wr => ∃ k : Nat, k ≤ n ∧ i = .int .i64 (k : Int) ∧ ScaleI c l w1.heap.size w.heap.size k w wr) (fun i _ => n - (intOf i).toNat)
  case atStart =>
    obtain ⟨t1, t2, t3, t4⟩ := htabs
    refine ⟨0, by omega, rfl, ?_, t1.alloc _, t2.alloc _, t3.alloc t3.size _, t3.size, by omega, by omega⟩
    rw [part_zero, HL.out]
    exact Blk.new w1 _ _
  case round =>
    obtain ⟨k, hk, rfl, h1, h2, h3, hb, hg, hne1, hne2⟩ := hrel
    by_cases hlt : k < n
    · obtain ⟨g, o, rfl, hc⟩ := h.at_ hb hlt
      have c1 : wr.cell? ⟨w1.heap.size, k, none⟩ = some (B (gB (part (mul c) l k) k)) := by
        rw [h1.cell]; exact row_get _ _ (by rw [part_length _ _ _ (by rw [HL.out]; exact hk), HL.out]; exact hlt)
      have f1 := h1.frozen k
      have H1 := Lib.hid h1
      have H2 := Lib.hid h2
      have H3 := Lib.hid h3
      have HB := Lib.hid hb
      clear h1 h2 h3 hb hmk
      go_wp2_with (go_at_call 95; refine (times_any c _ w.heap.size _ H2.out H3.out).mono ?_; rintro e w' ⟨rfl, nq, rfl⟩)
      go_roundw
      case rel =>
        refine ⟨k + 1, by omega, by go_num, ?_, (H2.out.drewN nq).far hne1.symm _, (H3.out.drewN nq).far hne2.symm _, (below_drewN HB.out nq).setCell hg _, hg, hne1, hne2⟩
        have := (H1.out.drewN nq).set_ k (B (mul c (gB l k)))
        rw [row_set, part_set _ _ _ (by rw [HL.out]; exact hlt)] at this
        exact this
      case measure => simp [intOf]; omega
    · have hl : part (mul c) l k = l.map (mul c) := part_all _ _ _ (by rw [HL.out]; omega)
      have HR : Hid (NewB 5 (l.map (mul c)) w (.slice (some ⟨w1.heap.size, 0, none⟩) n n) wr) := by
        refine Lib.hid ⟨w1.heap.size, n, rfl, by rw [List.length_map, HL.out], hg, by rw [← hl]; exact h1, hb⟩
      clear h1 h2 h3 hb hl hmk
      go_wp2
      go_ret
      exact ⟨_, rfl, HR.out⟩

def MulAddI (dst src : List UInt8) (c : UInt8) (g k : Nat) (w wr : World) : Prop :=
  Blk wr g 5 (row (mpart dst src c k)) ∧ Below w.heap.size w wr ∧ w.heap.size ≤ g

def Rets0 (R : World → Value → World → Prop) (w : World) (e : Ending) (w' : World) : Prop := ∃ v, e = .returned (.tuple #[v, .int .i64 0]) ∧ R w v w'

set_option maxHeartbeats 400000 in
theorem muladd_any (A A' : Option Addr) (n cp cp' : Nat) (dst src : List UInt8) (c : UInt8) (w : World) (h : BS w A n cp dst) (h' : BS w A' n cp' src) :
    Calls Try.prog 66 #[.slice A n cp, .slice A' n cp', B c] w (Rets0 (NewB 5 (muladd dst src c)) w) := by
  have hn := h.len_le
  have HL := Lib.hid h.1
  have HL' := Lib.hid h'.1
  have HE : Hid (dst.length = src.length) := Lib.hid (by rw [HL.out, HL'.out])
  go_enter Try.func66, Try.ntmps66
  go_wp2_with fail
  refine (scale_any A' n cp' src c w h').mono ?_
  rintro e w1 ⟨v, rfl, g, n1, rfl, hn1, hg, hblk, hb⟩
  obtain rfl : n = n1 := by rw [← hn1, List.length_map, HL'.out]
  clear hn1
  have H0 := Lib.hid hblk
  have HB0 := Lib.hid hb
  clear hblk hb
  go_wp2_with fail
  go_loopw [21] (fun i wr => ∃ k : Nat, k ≤ n ∧ i = .int .i64 (k : Int) ∧ MulAddI dst src c g k w wr) (fun i _ => n - (intOf i).toNat)
  case atStart => exact ⟨0, by omega, rfl, by rw [mpart_zero]; exact H0.out, HB0.out, hg⟩
  case round =>
    obtain ⟨k, hk, rfl, h1, hb, _⟩ := hrel
    by_cases hlt : k < n
    · obtain ⟨ga, o, rfl, hc⟩ := h.at_ hb hlt
      have c1 : wr.cell? ⟨g, k, none⟩ = some (B (mul c (gB src k))) := by
        rw [h1.cell, row_get _ _ (by rw [mpart_length _ _ _ HE.out _ (by rw [HL'.out]; exact hk), HL'.out]; exact hlt), mpart_get _ _ _ HE.out _ (by rw [HL'.out]; exact hlt)]
      have f1 := h1.frozen k
      have H1 := Lib.hid h1
      have HB := Lib.hid hb
      clear h1 hb
      go_wp2
      go_roundw
      case rel =>
        refine ⟨k + 1, by omega, by go_num, ?_, HB.out.setCell hg _, hg⟩
        have := H1.out.set_ k (B (mul c (gB src k) ^^^ gB dst k))
        rw [row_set, mpart_set _ _ _ HE.out _ (by rw [HL'.out]; exact hlt)] at this
        exact this
      case measure => simp [intOf]; omega
    · have HR : Hid (NewB 5 (muladd dst src c) w (.slice (some ⟨g, 0, none⟩) n n) wr) := by
        exact Lib.hid ⟨g, n, rfl, by rw [muladd_length _ _ _ HE.out, HL'.out], hg, by rw [← mpart_all _ _ _ HE.out k (by rw [HL'.out]; omega)]; exact h1, hb⟩
      clear h1 hb
      go_wp2
      go_ret2
      exact ⟨_, rfl, HR.out⟩
end Go.Proofs.Ytoeeklkebcgmaaa
/- Contracts of package matrix, as far as valid matrices go: columns, Valid, inRange, zeros, Identity, combine, Apply, Mul. -/
namespace Go.Proofs.Ytoeeklkebcgmaaa
open Go.RowKit Gf

attribute [local go_sem] Gf.xor_bits Gf.and_bits Gf.or_bits Gf.ne_zero_iff Gf.eq_zero_iff Gf.eq_one_iff Gf.beq_bytes Gf.bne_bytes Gf.bv_toNat

theorem ret_int {k : IntKind} {a b : Int} (h : a = b) : Ending.returned (.int k a) = .returned (.int k b) := by rw [h]

/-- Every row has the length L. -/
def Rect (m : List (List UInt8)) (L : Nat) : Prop := ∀ i, i < m.length → (gR m i).length = L

set_option maxHeartbeats 400000 in
theorem columns_any (A : Option Addr) (n c : Nat) (m : List (List UInt8)) (w : World) (h : MS w A n c m) :
    Calls Try.prog 54 #[.slice A n c] w fun e w' => e = .returned (.int .i64 ((gR m 0).length : Int)) ∧ w = w' := by
  have hn := h.len_le
  by_cases h0 : n = 0
  · subst h0
    have hm : m = [] := List.eq_nil_of_length_eq_zero h.1
    subst hm
    go_enter Try.func54, Try.ntmps54
    go_wp2
    go_ret
    exact ⟨rfl, rfl⟩
  · have hb0 : ((n : Int) == 0) = false := by simp; omega
    have hp : 0 < n := by omega
    obtain ⟨g, o, A', n', c', rfl, hc, hr⟩ := h.at_ (Below.refl _ _) hp
    rw [Nat.add_zero] at hc
    have HL := Lib.hid hr.1
    clear h0 hr
    go_enter Try.func54, Try.ntmps54
    go_wp2
    go_ret
    exact ⟨ret_int (by rw [HL.out]), rfl⟩

set_option maxHeartbeats 400000 in
theorem valid_any (A : Option Addr) (n c : Nat) (m : List (List UInt8)) (L : Nat) (w : World) (h : MS w A n c m) (hr : Rect m L) (hn : n ≤ 64) (hL : L ≤ 64) :
    Calls Try.prog 53 #[.slice A n c] w fun e w' => e = .returned (.bool true) ∧ w = w' := by
  have hcol : (gR m 0).length ≤ 64 := by
    by_cases h0 : 0 < m.length
    · rw [hr 0 h0]; exact hL
    · have hm : m = [] := List.eq_nil_of_length_eq_zero (by omega)
      subst hm; simp [gR]
  have hd : decide ((64 : Int) < (n : Int)) = false := by simp; omega
  have hd2 : decide ((64 : Int) < ((gR m 0).length : Int)) = false := by simp; omega
  have HL := Lib.hid h.1
  go_enter Try.func53, Try.ntmps53
  go_wp2_with (go_at_call 54; refine (columns_any A n c m _ h).mono ?_; rintro e w' ⟨rfl, rfl⟩)
  go_loop [15] (fun i => ∃ k : Nat, k ≤ n ∧ i = .int .i64 (k : Int)) (fun i => n - (intOf i).toNat)
  case atStart => exact ⟨0, by omega, rfl⟩
  case round =>
    obtain ⟨k, hk, rfl⟩ := hrel
    by_cases hlt : k < n
    · obtain ⟨g, o, A1, n1, c1, rfl, hc, hr1⟩ := h.at_ (Below.refl _ _) hlt
      obtain ⟨g', o', A2, n2, c2, e2, hc2, hr2⟩ := h.at_ (Below.refl _ _) (show 0 < n by omega)
      injection e2 with e2
      injection e2 with e3 e4
      subst e3 e4
      rw [Nat.add_zero] at hc2
      have hne : n1 = n2 := by
        rw [← hr1.1, ← hr2.1, hr k (by rw [HL.out]; exact hlt), hr 0 (by rw [HL.out]; omega)]
      subst hne
      clear hr1 hr2 h
      go_wp2
      go_round
      case rel => exact ⟨k + 1, by omega, by go_num⟩
      case measure => simp [intOf]; omega
    · clear h
      go_wp2
      go_ret
      exact ⟨rfl, rfl⟩

set_option maxHeartbeats 400000 in
theorem inRange_any (n : Int) (w : World) (h0 : 0 ≤ n) (h1 : n ≤ 64) :
    Calls Try.prog 85 #[.int .i64 n] w fun e w' => e = .returned (.bool true) ∧ w = w' := by
  have d0 : decide (0 ≤ n) = true := by simpa using h0
  have d1 : decide (n ≤ 64) = true := by simpa using h1
  go_enter Try.func85, Try.ntmps85
  go_wp2
  go_ret
  exact ⟨rfl, rfl⟩

/-- The cells of the outer block of zeros after k rounds: row i lies in block g + 1 + i. -/
def ptrs (g c k r : Nat) : Array Value := ((List.range r).map fun i => if i < k then Value.slice (some ⟨g + 1 + i, 0, none⟩) c c else .slice none 0 0).toArray
theorem ptrs_size (g c k r : Nat) : (ptrs g c k r).size = r := by simp [ptrs]
theorem ptrs_get (g c k r i : Nat) (h : i < r) : (ptrs g c k r)[i]? = some (if i < k then Value.slice (some ⟨g + 1 + i, 0, none⟩) c c else .slice none 0 0) := by
  simp [ptrs, List.getElem?_range h]
theorem ptrs_zero (g c r : Nat) : ptrs g c 0 r = Array.replicate r (.slice none 0 0) := by
  apply Array.ext (by simp [ptrs])
  intro i h1 h2
  simp [ptrs]
theorem ptrs_set (g c k r : Nat) (_h : k < r) : (ptrs g c k r).setIfInBounds k (.slice (some ⟨g + 1 + k, 0, none⟩) c c) = ptrs g c (k + 1) r := by
  apply Array.ext (by simp [ptrs])
  intro i h1 h2
  rw [Array.getElem_setIfInBounds (by simpa [ptrs] using h1)]
  by_cases e : k = i
  · subst e; simp [ptrs]
  · rw [if_neg e]
    simp only [ptrs, List.getElem_toArray, List.getElem_map, List.getElem_range]
    by_cases h3 : i < k
    · rw [if_pos h3, if_pos (by omega)]
    · rw [if_neg h3, if_neg (by omega)]

/-- Rows of bytes, each in its own block from g + 1 on, behind the outer block g. -/
def Grid (w : World) (g : Nat) (k r c : Nat) (f : Nat → List UInt8) (w0 : World) : Prop :=
  Blk w g 22 (ptrs g c k r) ∧ (∀ i, i < k → Blk w (g + 1 + i) 5 (row (f i))) ∧ Below g w0 w ∧ w.heap.size = g + 1 + k

def GridRet (r c : Nat) (f : Nat → List UInt8) (w : World) (e : Ending) (w' : World) : Prop :=
  e = .returned (.slice (some ⟨w.heap.size, 0, none⟩) r r) ∧ Grid w' w.heap.size r r c f w

set_option maxHeartbeats 400000 in
theorem zeros_any (r c : Nat) (w : World) (hr : r * 24 ≤ 140737488355328) (hc : c ≤ 140737488355328) :
    Calls Try.prog 65 #[.int .i64 (r : Int), .int .i64 (c : Int)] w (GridRet r c (fun _ => zeros c) w) := by
  have hmk := make_rows r hr
  have hmb := make_bytes c hc
  go_enter Try.func65, Try.ntmps65
  go_wp2
  clear hmk
  go_loopw [11] (fun i wr => ∃ k : Nat, k ≤ r ∧ i = .int .i64 (k : Int) ∧ Grid wr w.heap.size k r c (fun _ => zeros c) w) (fun i _ => r - (intOf i).toNat)
  case atStart =>
    refine ⟨0, by omega, rfl, ?_, fun i hi => absurd hi (by omega), (Below.refl _ _).alloc (Nat.le_refl _) _, by simp⟩
    rw [ptrs_zero]
    exact Blk.new w _ _
  case round =>
    obtain ⟨k, hk, rfl, h1, h2, hb, hz⟩ := hrel
    by_cases hlt : k < r
    · have c1 : wr.cell? ⟨w.heap.size, k, none⟩ = some (.slice none 0 0) := by
        rw [h1.cell, ptrs_get _ _ _ _ _ hlt, if_neg (by omega)]
      have f1 := h1.frozen k
      have hzl : w.heap.size < wr.heap.size := by omega
      have H1 := Lib.hid h1
      have H2 := Lib.hid h2
      have HB := Lib.hid hb
      have HZ := Lib.hid hz
      clear h1 h2 hb hz
      go_wp2
      go_roundw
      case rel =>
        refine ⟨k + 1, by omega, by go_num, ?_, ?_, ?_, ?_⟩
        · have := (H1.out.set_ k (.slice (some ⟨w.heap.size + 1 + k, 0, none⟩) c c)).alloc (.cells (row (zeros c)) 5)
          rw [ptrs_set _ _ _ _ hlt, ← HZ.out] at this
          exact this
        · intro i hi
          by_cases e : i < k
          · exact ((H2.out i e).far (p := ⟨w.heap.size, k, none⟩) (by simp; omega) _).alloc _
          · obtain rfl : i = k := by omega
            have := Blk.new (wr.setCell ⟨w.heap.size, i, none⟩ (.slice (some ⟨wr.heap.size, 0, none⟩) c c)) 5 (row (zeros c))
            rw [World.size_setCell, HZ.out] at this
            rw [HZ.out]
            exact this
        · exact (HB.out.setCell (p := ⟨w.heap.size, k, none⟩) (Nat.le_refl _) _).alloc (by rw [World.size_setCell]; have := HZ.out; omega) _
        · have := HZ.out
          rw [World.size_alloc, World.size_setCell]; omega
      case measure => simp [intOf]; omega
    · obtain rfl : k = r := by omega
      have HR : Hid (Grid wr w.heap.size k k c (fun _ => zeros c) w) := Lib.hid ⟨h1, h2, hb, hz⟩
      clear h1 h2 hb hz
      go_wp2
      go_ret
      exact ⟨rfl, HR.out⟩

theorem Grid.rowsBlk {w w0 : World} {g r c : Nat} {f : Nat → List UInt8} (h : Grid w g r r c f w0) (hf : ∀ i, i < r → (f i).length = c) (hc : c ≤ lim) :
    RowsBlk w g 22 (ptrs g c r r) ((List.range r).map f) := by
  refine ⟨h.1, by simp [ptrs_size], fun i hi => ?_⟩
  have hi' : i < r := by simpa using hi
  refine ⟨some ⟨g + 1 + i, 0, none⟩, c, c, by rw [ptrs_get _ _ _ _ _ hi', if_pos hi'], ?_⟩
  have hb := BS.of_blk (h.2.1 i hi') (hf i hi') hc
  rw [gR_eq hi]
  simpa using hb

/-- Row i of the identity. -/
def unit (n i : Nat) : List UInt8 := (zeros n).set i 1
theorem unit_length (n i : Nat) : (unit n i).length = n := by simp [unit, zeros_length]

set_option maxHeartbeats 400000 in
theorem identity_any (n : Nat) (w : World) (hn : n ≤ 64) :
    Calls Try.prog 71 #[.int .i64 (n : Int)] w (GridRet n n (unit n) w) := by
  go_enter Try.func71, Try.ntmps71
  go_wp2_with (first
    | (go_at_call 85; refine (inRange_any _ _ (by omega) (by omega)).mono ?_; rintro e w' ⟨rfl, rfl⟩)
    | (go_at_call 65; refine (zeros_any n n _ (by omega) (by omega)).mono ?_; rintro e w1 ⟨rfl, hgrid⟩))
  go_loopw [13] (fun i wr => ∃ k : Nat, k ≤ n ∧ i = .int .i64 (k : Int) ∧ Grid wr w.heap.size n n n (fun i => if i < k then unit n i else zeros n) w) (fun i _ => n - (intOf i).toNat)
  case atStart =>
    refine ⟨0, by omega, rfl, hgrid.1, fun i hi => ?_, hgrid.2.2.1, hgrid.2.2.2⟩
    simp only [Nat.not_lt_zero, if_false]
    exact hgrid.2.1 i hi
  case round =>
    obtain ⟨k, hk, rfl, h1, h2, hb, hz⟩ := hrel
    by_cases hlt : k < n
    · have c1 : wr.cell? ⟨w.heap.size, k, none⟩ = some (.slice (some ⟨w.heap.size + 1 + k, 0, none⟩) n n) := by
        rw [h1.cell, ptrs_get _ _ _ _ _ hlt, if_pos hlt]
      have hk2 := h2 k hlt
      simp only [Nat.lt_irrefl, if_false] at hk2
      have c2 : wr.cell? ⟨w.heap.size + 1 + k, k, none⟩ = some (B (gB (zeros n) k)) := by
        rw [hk2.cell, row_get _ _ (by rw [zeros_length]; exact hlt)]
      have f2 := hk2.frozen k
      have H1 := Lib.hid h1
      have H2 := Lib.hid h2
      have HB := Lib.hid hb
      have HZ := Lib.hid hz
      have HK := Lib.hid hk2
      clear h1 h2 hb hz hk2
      go_wp2
      go_roundw
      case rel =>
        refine ⟨k + 1, by omega, by go_num, H1.out.far (by simp; omega) _, fun i hi => ?_, HB.out.setCell (by simp; omega) _, by rw [World.size_setCell]; exact HZ.out⟩
        by_cases e : i = k
        · subst e
          simp only [Nat.lt_succ_self, if_true]
          have := HK.out.set_ i (B 1)
          rw [row_set] at this
          exact this
        · have := (H2.out i hi).far (p := ⟨w.heap.size + 1 + k, k, none⟩) (by simp; omega) (.int .u8 1)
          by_cases e2 : i < k
          · simp only [e2, if_true] at this
            simp only [show i < k + 1 by omega, if_true]
            exact this
          · simp only [e2, if_false] at this
            simp only [show ¬ i < k + 1 by omega, if_false]
            exact this
      case measure => simp [intOf]; omega
    · obtain rfl : k = n := by omega
      have HR : Hid (Grid wr w.heap.size k k k (unit k) w) := Lib.hid ⟨h1, fun i hi => by have := h2 i hi; simp only [hi, if_true] at this; exact this, hb, hz⟩
      clear h1 h2 hb hz
      go_wp2
      go_ret
      exact ⟨rfl, HR.out⟩
end Go.Proofs.Ytoeeklkebcgmaaa
/- Contracts of package matrix: combine, Apply, Mul. -/
namespace Go.Proofs.Ytoeeklkebcgmaaa
open Go.RowKit Gf

attribute [local go_sem] Gf.xor_bits Gf.and_bits Gf.or_bits Gf.ne_zero_iff Gf.eq_zero_iff Gf.eq_one_iff Gf.beq_bytes Gf.bne_bytes Gf.bv_toNat

/-- One row times blocks of length L, after the first k elements of the row. -/
def comb (row : List UInt8) (blocks : List (List UInt8)) (L : Nat) : Nat → List UInt8
  | 0 => zeros L
  | k + 1 => if gB row k = 0 then comb row blocks L k else muladd (comb row blocks L k) (gR blocks k) (gB row k)
theorem comb_length (row : List UInt8) (blocks : List (List UInt8)) (L : Nat) (hr : Rect blocks L) : ∀ k, k ≤ blocks.length → (comb row blocks L k).length = L
  | 0, _ => zeros_length L
  | k + 1, h => by
    unfold comb
    have ih := comb_length row blocks L hr k (by omega)
    by_cases e : gB row k = 0
    · rw [if_pos e]; exact ih
    · rw [if_neg e, muladd_length _ _ _ (by rw [ih, hr k (by omega)]), hr k (by omega)]

/-- Rows i of the product: those before r are done, row r after k elements, the others zero. -/
def crow (m blocks : List (List UInt8)) (L r k i : Nat) : List UInt8 := comb (gR m i) blocks L (if i < r then (gR m i).length else if i = r then k else 0)
def cmat (m blocks : List (List UInt8)) (L r k : Nat) : List (List UInt8) := (List.range m.length).map (crow m blocks L r k)
theorem cmat_length (m blocks : List (List UInt8)) (L r k : Nat) : (cmat m blocks L r k).length = m.length := by simp [cmat]
theorem cmat_get (m blocks : List (List UInt8)) (L r k i : Nat) (h : i < m.length) : gR (cmat m blocks L r k) i = crow m blocks L r k i := by
  rw [gR_eq (by rw [cmat_length]; exact h)]; simp [cmat]
theorem cmat_zero (m blocks : List (List UInt8)) (L : Nat) : cmat m blocks L 0 0 = (List.range m.length).map (fun _ => zeros L) := by
  apply List.ext_getElem (by simp [cmat])
  intro i h1 h2
  simp [cmat, crow, comb]
theorem cmat_next (m blocks : List (List UInt8)) (L r : Nat) (k : Nat) (h : (gR m r).length ≤ k) (hk : k ≤ (gR m r).length) : cmat m blocks L r k = cmat m blocks L (r + 1) 0 := by
  obtain rfl : k = (gR m r).length := by omega
  apply List.ext_getElem (by simp [cmat])
  intro i h1 h2
  simp only [cmat, List.getElem_map, List.getElem_range, crow]
  by_cases e1 : i < r
  · rw [if_pos e1, if_pos (by omega)]
  · rw [if_neg e1]
    by_cases e2 : i = r
    · subst e2; rw [if_pos rfl, if_pos (by omega)]
    · rw [if_neg e2, if_neg (by omega)]
      by_cases e3 : i = r + 1
      · rw [if_pos e3]
      · rw [if_neg e3]
theorem cmat_skip (m blocks : List (List UInt8)) (L r k : Nat) (h : gB (gR m r) k = 0) : cmat m blocks L r k = cmat m blocks L r (k + 1) := by
  apply List.ext_getElem (by simp [cmat])
  intro i h1 h2
  simp only [cmat, List.getElem_map, List.getElem_range, crow]
  by_cases e1 : i < r
  · rw [if_pos e1, if_pos e1]
  · rw [if_neg e1, if_neg e1]
    by_cases e2 : i = r
    · subst e2; rw [if_pos rfl, if_pos rfl]; conv => rhs; unfold comb
      rw [if_pos h]
    · rw [if_neg e2, if_neg e2]
theorem cmat_set (m blocks : List (List UInt8)) (L r k : Nat) (_hr : r < m.length) (h : gB (gR m r) k ≠ 0) :
    (cmat m blocks L r k).set r (muladd (crow m blocks L r k r) (gR blocks k) (gB (gR m r) k)) = cmat m blocks L r (k + 1) := by
  apply List.ext_getElem (by simp [cmat])
  intro i h1 h2
  rw [List.getElem_set]
  simp only [cmat, List.getElem_map, List.getElem_range]
  by_cases e : r = i
  · subst e
    rw [if_pos rfl]
    simp only [crow, Nat.lt_irrefl, if_false, if_true]
    conv => rhs; unfold comb
    rw [if_neg h]
  · rw [if_neg e]
    simp only [crow]
    by_cases e1 : i < r
    · rw [if_pos e1, if_pos e1]
    · rw [if_neg e1, if_neg e1, if_neg (Ne.symm e), if_neg (Ne.symm e)]
theorem crow_length (m blocks : List (List UInt8)) (L r k i : Nat) (hr : Rect blocks L) (hm : Rect m blocks.length) (hi : i < m.length) (hk : k ≤ blocks.length) : (crow m blocks L r k i).length = L := by
  unfold crow
  apply comb_length _ _ _ hr
  by_cases e1 : i < r
  · rw [if_pos e1, hm i hi]; exact Nat.le_refl _
  · rw [if_neg e1]; by_cases e2 : i = r
    · rw [if_pos e2]; exact hk
    · rw [if_neg e2]; omega

def CombI (m blocks : List (List UInt8)) (L g r k : Nat) (w wr : World) : Prop :=
  ∃ cs, RowsBlk wr g 22 cs (cmat m blocks L r k) ∧ Below w.heap.size w wr ∧ w.heap.size ≤ g

set_option maxHeartbeats 1000000 in
theorem combine_any (A A' : Option Addr) (n n' c c' : Nat) (m blocks : List (List UInt8)) (L : Nat) (w : World) (h : MS w A n c m) (h' : MS w A' n' c' blocks)
    (hm : Rect m n') (hbk : Rect blocks L) (hL : L ≤ 140737488355328) :
    Calls Try.prog 55 #[.slice A n c, .slice A' n' c', .int .i64 (L : Int)] w (Rets (NewM 22 (cmat m blocks L n 0)) w) := by
  have hn := h.len_le
  have hn' := h'.len_le
  have HLm := Lib.hid h.1
  have HLb := Lib.hid h'.1
  go_enter Try.func55, Try.ntmps55
  go_wp2_with (go_at_call 65; refine (zeros_any n L _ hn hL).mono ?_; rintro e w1 ⟨rfl, hgrid⟩)
  go_loopw [18] (fun i wr => ∃ r : Nat, r ≤ n ∧ i = .int .i64 (r : Int) ∧ CombI m blocks L w.heap.size r 0 w wr) (fun i _ => n - (intOf i).toNat)
  case atStart =>
    refine ⟨0, by omega, rfl, ptrs w.heap.size L n n, ?_, hgrid.2.2.1, Nat.le_refl _⟩
    rw [cmat_zero, HLm.out]
    exact hgrid.rowsBlk (fun i _ => zeros_length L) hL
  case round =>
    obtain ⟨r, hr, rfl, cs, h1, hb, _⟩ := hrel
    by_cases hlt : r < n
    · obtain ⟨ga, oa, A1, n1, c1, rfl, hca0, hra⟩ := h.at_ (Below.refl _ _) hlt
      obtain rfl : n1 = n' := by rw [← hra.1, hm r (by rw [HLm.out]; exact hlt)]
      have hca := cell_kept hb hca0
      have H1 := Lib.hid h1
      have HB := Lib.hid hb
      clear h1 hb hca0
      go_wp2
      obtain ⟨wo, rfl⟩ : ∃ wo : World, wo = wr := ⟨_, rfl⟩
      go_loopw [25] (fun i wr => ∃ k : Nat, k ≤ n1 ∧ i = .int .i64 (k : Int) ∧ CombI m blocks L w.heap.size r k w wr) (fun i _ => n1 - (intOf i).toNat)
      case atStart => exact ⟨0, by omega, rfl, _, H1.out, HB.out, Nat.le_refl _⟩
      case round =>
        obtain ⟨k, hk, rfl, cs', h2, hb2, _⟩ := hrel
        clear hca
        by_cases hlt2 : k < n1
        · obtain ⟨gr, ob, rfl, hcr⟩ := hra.at_ hb2 hlt2
          by_cases hz : gB (gR m r) k = 0
          · have hz' : (gB (gR m r) k != 0) = false := by simp [hz]
            have HR : Hid (CombI m blocks L w.heap.size r (k + 1) w wr) := Lib.hid ⟨cs', by rw [← cmat_skip _ _ _ _ _ hz]; exact h2, hb2, Nat.le_refl _⟩
            clear hz h2 hb2
            go_wp2
            go_roundw
            case rel => exact ⟨k + 1, by omega, by go_num, HR.out⟩
            case measure => simp [intOf]; omega
          · have hz' : (gB (gR m r) k != 0) = true := by simp [hz]
            obtain ⟨gb, o2, A2, n2, c2, rfl, hcb0, hrb⟩ := h'.at_ (Below.refl _ _) hlt2
            have hcb := cell_kept hb2 hcb0
            obtain ⟨A3, n3, c3, hc3, hr3⟩ := h2.cell (i := r) (by rw [cmat_length, HLm.out]; exact hlt)
            rw [cmat_get _ _ _ _ _ _ (by rw [HLm.out]; exact hlt)] at hr3
            obtain rfl : n2 = L := by rw [← hrb.1, hbk k (by rw [HLb.out]; exact hlt2)]
            obtain rfl : n3 = n2 := by
              rw [← hr3.1, crow_length m blocks n2 r k r hbk (by rw [HLb.out]; exact hm) (by rw [HLm.out]; exact hlt) (by rw [HLb.out]; exact hk)]
            have hrbw := hrb.kept hb2
            have f3 := h2.1.frozen r
            have HS := Lib.hid (cmat_set m blocks n3 r k (by rw [HLm.out]; exact hlt) hz)
            have H2 := Lib.hid h2
            have HB2 := Lib.hid hb2
            have HR3 := Lib.hid hr3
            have HRB := Lib.hid hrbw
            have q1 : (0 : Int) ≤ (r : Int) := by omega
            have q2 : (r : Int) < (n : Int) := by omega
            have q3 : (0 : Int) ≤ (k : Int) := by omega
            have q4 : (k : Int) < (n1 : Int) := by omega
            clear hz h2 hb2 hcb0 hrb hr3 hrbw
            go_wp2
            go_region_with (go_at_call 66; refine (muladd_any _ _ _ _ _ _ _ _ _ HR3.out.drew HRB.out.drew).mono ?_; rintro e w2 ⟨v, rfl, g2, nn, rfl, hnn, hg2, hblk2, hbe2⟩; have hc2 := cell_kept (w := wr.drew) hbe2 hc3; have hf2 := (H2.out.1.drew.kept hbe2).frozen r)
            all_goals
              go_wp2
              go_roundw
              case rel =>
                have hml : nn ≤ lim := by
                  rw [← hnn, muladd_length _ _ _ (by rw [HR3.out.1, HRB.out.1]), HRB.out.1]; exact hL
                have := ((H2.out.drew).kept hbe2).set_ (i := r) (by rw [cmat_length, HLm.out]; exact hlt) (BS.of_blk hblk2 hnn hml)
                rw [HS.out] at this
                exact ⟨k + 1, by omega, by go_num, _, this, (below_thenB HB2.out HB2.out.size (below_ofDrew hbe2)).setCell (Nat.le_refl _) _, Nat.le_refl _⟩
              case measure => simp [intOf]; omega
        · have HR : Hid (CombI m blocks L w.heap.size (r + 1) 0 w wr) := by
            refine Lib.hid ⟨cs', ?_, hb2, Nat.le_refl _⟩
            rw [← cmat_next m blocks L r k (by rw [hm r (by rw [HLm.out]; exact hlt)]; omega) (by rw [hm r (by rw [HLm.out]; exact hlt)]; omega)]
            exact h2
          clear h2 hb2
          go_wp2
          go_roundw
          case rel => exact ⟨r + 1, by omega, by go_num, HR.out⟩
          case measure => simp [intOf]; omega
    · obtain rfl : r = n := by omega
      have HR : Hid (NewM 22 (cmat m blocks L r 0) w (.slice (some ⟨w.heap.size, 0, none⟩) r r) wr) := by
        exact Lib.hid ⟨w.heap.size, cs, r, rfl, by rw [cmat_length, HLm.out], Nat.le_refl _, h1, hb⟩
      clear h1 hb
      go_wp2
      go_ret
      exact ⟨_, rfl, HR.out⟩
end Go.Proofs.Ytoeeklkebcgmaaa
/- Contracts of package matrix: Apply and Mul on matrices that fit. -/
namespace Go.Proofs.Ytoeeklkebcgmaaa
open Go.RowKit Gf

attribute [local go_sem] Gf.xor_bits Gf.and_bits Gf.or_bits Gf.ne_zero_iff Gf.eq_zero_iff Gf.eq_one_iff Gf.beq_bytes Gf.bne_bytes Gf.bv_toNat

theorem ncols_eq {m : List (List UInt8)} {L : Nat} (h : Rect m L) (h0 : 0 < m.length) : (gR m 0).length = L := h 0 h0

set_option maxHeartbeats 1000000 in
theorem apply_any (A A' : Option Addr) (n n' c c' : Nat) (m blocks : List (List UInt8)) (L : Nat) (w : World) (h : MS w A n c m) (h' : MS w A' n' c' blocks)
    (hm : Rect m n') (hbk : Rect blocks L) (hL : L ≤ 140737488355328) (hn : 0 < n) (hn64 : n ≤ 64) (hn' : 0 < n') (hn64' : n' ≤ 64) :
    Calls Try.prog 38 #[.slice A n c, .slice A' n' c'] w (Rets0 (NewM 22 (cmat m blocks L n 0)) w) := by
  have HLm := Lib.hid h.1
  have HLb := Lib.hid h'.1
  have HC := Lib.hid (ncols_eq hm (by rw [h.1]; exact hn))
  have HC' := Lib.hid (ncols_eq hbk (by rw [h'.1]; exact hn'))
  go_enter Try.func38, Try.ntmps38
  go_wp2_with (first
    | (go_at_call 53; refine (valid_any A n c m n' _ h hm hn64 hn64').mono ?_; rintro e w' ⟨rfl, rfl⟩)
    | (go_at_call 54; refine (columns_any A n c m _ h).mono ?_; rintro e w' ⟨rfl, rfl⟩; rw [HC.out]))
  go_loop [20] (fun i => ∃ k : Nat, k ≤ n' ∧ i = .int .i64 (k : Int)) (fun i => n' - (intOf i).toNat)
  case atStart => exact ⟨0, by omega, rfl⟩
  case round =>
    obtain ⟨k, hk, rfl⟩ := hrel
    by_cases hlt : k < n'
    · obtain ⟨g, o, A1, n1, c1, rfl, hc, hr1⟩ := h'.at_ (Below.refl _ _) hlt
      obtain ⟨g', o', A2, n2, c2, e2, hc2, hr2⟩ := h'.at_ (Below.refl _ _) hn'
      injection e2 with e2
      injection e2 with e3 e4
      subst e3 e4
      rw [Nat.add_zero] at hc2
      have hne : n1 = n2 := by
        rw [← hr1.1, ← hr2.1, hbk k (by rw [HLb.out]; exact hlt), hbk 0 (by rw [HLb.out]; omega)]
      subst hne
      clear hr1 hr2 h h'
      go_wp2
      go_round
      case rel => exact ⟨k + 1, by omega, by go_num⟩
      case measure => simp [intOf]; omega
    · go_wp2_with (first
        | (go_at_call 54; refine (columns_any A' n' c' blocks _ h').mono ?_; rintro e w' ⟨rfl, rfl⟩; rw [HC'.out])
        | (go_at_call 55; refine (combine_any A A' n n' c c' m blocks L _ h h' hm hbk hL).mono ?_; rintro e w' ⟨v, rfl, hv⟩))
      go_ret2
      exact ⟨_, rfl, hv⟩

set_option maxHeartbeats 1000000 in
theorem mmul_any (A A' : Option Addr) (n n' c c' : Nat) (m b : List (List UInt8)) (L : Nat) (w : World) (h : MS w A n c m) (h' : MS w A' n' c' b)
    (hm : Rect m n') (hbk : Rect b L) (hL : L ≤ 64) (hn : 0 < n) (hn64 : n ≤ 64) (hn' : 0 < n') (hn64' : n' ≤ 64) :
    Calls Try.prog 58 #[.slice A n c, .slice A' n' c'] w (Rets0 (NewM 22 (cmat m b L n 0)) w) := by
  have HC := Lib.hid (ncols_eq hm (by rw [h.1]; exact hn))
  have HC' := Lib.hid (ncols_eq hbk (by rw [h'.1]; exact hn'))
  go_enter Try.func58, Try.ntmps58
  go_wp2_with fail
  refine (valid_any A n c m n' _ h hm hn64 hn64').mono ?_
  rintro e w' ⟨rfl, rfl⟩
  go_wp2_with fail
  refine (valid_any A' n' c' b L _ h' hbk hn64' hL).mono ?_
  rintro e w' ⟨rfl, rfl⟩
  go_wp2_with fail
  refine (columns_any A n c m _ h).mono ?_
  rintro e w' ⟨rfl, rfl⟩
  rw [HC.out]
  go_wp2_with fail
  refine (columns_any A' n' c' b _ h').mono ?_
  rintro e w' ⟨rfl, rfl⟩
  rw [HC'.out]
  go_wp2_with fail
  refine (combine_any A A' n n' c c' m b L _ h h' hm hbk (by omega)).mono ?_
  rintro e w' ⟨v, rfl, hv⟩
  go_wp2
  go_ret2
  exact ⟨_, rfl, hv⟩
end Go.Proofs.Ytoeeklkebcgmaaa
/- A region that draws its order, walked once: operations that yield their value whatever the others do may come first, reads of the world at hand may come in any order among themselves, and what changes the world comes in one order. Proved for any program. -/
namespace Go.Proofs.Ytoeeklkebcgmaaa
open Go

namespace Text
variable {P : Program} {ops : Array Oper} {Q : Exit → Act → World → Prop} {S : World → Prop}

/-- The operations that number j waits for. -/
def preds (ops : Array Oper) (j : Nat) : List Nat :=
  match ops[j]? with
  | some o => (o.after.toList.filter fun e => Region.binds .any e).map (·.on)
  | none => []

theorem mem_preds {j : Nat} {o : Oper} (ho : ops[j]? = some o) {e : Edge} (he : e ∈ o.after) (hb : Region.binds .any e = true) : e.on ∈ preds ops j := by
  unfold preds
  rw [ho]
  exact List.mem_map.2 ⟨e, List.mem_filter.2 ⟨by simpa using he, hb⟩, rfl⟩
theorem of_preds {j p : Nat} (h : p ∈ preds ops j) : ∃ o e, ops[j]? = some o ∧ e ∈ o.after ∧ Region.binds .any e = true ∧ e.on = p := by
  unfold preds at h
  split at h
  · rename_i o ho
    obtain ⟨e, he, rfl⟩ := List.mem_map.1 h
    obtain ⟨h1, h2⟩ := List.mem_filter.1 he
    exact ⟨o, e, ho, by simpa using h1, h2, rfl⟩
  · cases h

/-- All that number j waits for, through others too. -/
def arow (ops : Array Oper) (j : Nat) (T : List (List Nat)) : List Nat :=
  (List.range j).filter fun i => (preds ops j).contains i || (preds ops j).any fun p => (T.getD p []).contains i
def tbl (ops : Array Oper) : Nat → List (List Nat)
  | 0 => []
  | j + 1 => tbl ops j ++ [arow ops j (tbl ops j)]
theorem tbl_length (n : Nat) : (tbl ops n).length = n := by
  induction n with
  | zero => rfl
  | succ n ih => simp [tbl, ih]

/-- What has come up is shut downward. -/
def Closed (ops : Array Oper) (listed : Array Bool) : Prop := ∀ j p, p ∈ preds ops j → listed.getD j false = true → listed.getD p false = true

theorem tbl_sound {listed : Array Bool} (hc : Closed ops listed) : ∀ (n j i : Nat), i ∈ (tbl ops n).getD j [] → listed.getD j false = true → listed.getD i false = true := by
  intro n
  induction n with
  | zero => intro j i h; simp [tbl] at h
  | succ n ih =>
    intro j i h hj
    rw [tbl, List.getD_eq_getElem?_getD] at h
    by_cases hjn : j < n
    · rw [List.getElem?_append_left (by rw [tbl_length]; exact hjn), ← List.getD_eq_getElem?_getD] at h
      exact ih j i h hj
    · by_cases hjn2 : j = n
      · subst hjn2
        rw [List.getElem?_append_right (by rw [tbl_length]; exact Nat.le_refl _), tbl_length, Nat.sub_self] at h
        simp only [List.getElem?_cons_zero, Option.getD_some] at h
        obtain ⟨_, h2⟩ := List.mem_filter.1 h
        rw [Bool.or_eq_true] at h2
        rcases h2 with h2 | h2
        · exact hc j i (by simpa using h2) hj
        · obtain ⟨p, hp, hi⟩ := List.any_eq_true.1 h2
          exact ih p i (by simpa using hi) (hc j p hp hj)
      · rw [List.getElem?_eq_none (by rw [List.length_append, tbl_length]; simp; omega)] at h
        simp at h

/-- Kinds: 0 held (yields wherever S holds), 1 a read of the world at hand, 2 an effect that keeps S, 3 an effect behind which S is not wanted, 4 pure (yields in whatever world). May x stand before y where y does not wait for it? -/
def swapB (kx ky : Nat) : Bool := decide (4 ≤ kx) || (kx == 0 && ky != 3) || (kx == 1 && (decide (ky ≤ 1) || decide (4 ≤ ky)))
/-- May x stand before y? -/
def pairB (ops : Array Oper) (T : List (List Nat)) (x y : Nat × Nat) : Bool :=
  !(preds ops x.1).contains y.1 && !(x.2 == 3 && y.2 == 0) &&
  ((T.getD y.1 []).contains x.1 ||
    (swapB x.2 y.2 && (match ops[x.1]?, ops[y.1]? with | some ox, some oy => ox.apart ops oy | _, _ => false)))
def pairsB (ops : Array Oper) (T : List (List Nat)) : List (Nat × Nat) → Bool
  | [] => true
  | x :: r => r.all (pairB ops T x) && pairsB ops T r
def textB (ops : Array Oper) (L : List (Nat × Nat)) : Bool :=
  Region.noSelect ops && (List.range ops.size).all (fun i => (L.map (·.1)).contains i) && L.all (fun x => decide (x.1 < ops.size) && (preds ops x.1).all (fun p => decide (p < ops.size) && p != x.1)) &&
    decide (L.map (·.1)).Nodup && decide (L.length = ops.size) && pairsB ops (tbl ops ops.size) L

theorem pairsB_spec {T : List (List Nat)} : ∀ {L : List (Nat × Nat)}, pairsB ops T L = true → L.Pairwise (fun x y => pairB ops T x y = true)
  | [], _ => List.Pairwise.nil
  | x :: r, h => by
    simp only [pairsB, Bool.and_eq_true, List.all_eq_true] at h
    exact List.Pairwise.cons h.1 (pairsB_spec h.2)

/-- The walk in the order of L. -/
def wpText (P : Program) (ops : Array Oper) (Q : Exit → Act → World → Prop) (S : World → Prop) : List (Nat × Nat) → Act → World → Prop
  | [], a, w => Q .normal a w
  | (i, 0) :: r, a, w => ∃ o v, ops[i]? = some o ∧ YieldsIf P ops S o v a ∧ wpText P ops Q S r (a.put o.dst v) w
  | (i, 1) :: r, a, w => ∃ o v, ops[i]? = some o ∧ YieldsAt P ops w o v a ∧ wpText P ops Q S r (a.put o.dst v) w
  | (i, 2) :: r, a, w => wpOp P ops Q i (fun a' w' => S w' ∧ wpText P ops Q S r a' w') a w
  | (i, 3) :: r, a, w => wpOp P ops Q i (fun a' w' => wpText P ops Q S r a' w') a w
  | (i, _ + 4) :: r, a, w => ∃ o v, ops[i]? = some o ∧ Yields P ops o v a ∧ wpText P ops Q S r (a.put o.dst v) w

/-- What commutes: x stands before y and y does not wait for it. -/
def Swap (ops : Array Oper) (x y : Nat × Nat) : Prop :=
  swapB x.2 y.2 = true ∧ ∀ ox oy, ops[x.1]? = some ox → ops[y.1]? = some oy → ox.apart ops oy = true

/-- What an operation of kind k yields. -/
def Gives (P : Program) (ops : Array Oper) (S : World → Prop) (w : World) (k : Nat) (o : Oper) (v : Value) (a : Act) : Prop :=
  (k = 0 → YieldsIf P ops S o v a) ∧ (k = 1 → YieldsAt P ops w o v a) ∧ (4 ≤ k → Yields P ops o v a)
theorem Gives.of_same {w : World} {k : Nat} {o : Oper} {v : Value} {a a' : Act} (h : Gives P ops S w k o v a) (he : execOp a'.eval o = execOp a.eval o)
    (hw : Region.wanted o (yielded ops a'.tmps) = Region.wanted o (yielded ops a.tmps)) : Gives P ops S w k o v a' :=
  ⟨fun e => (h.1 e).of_same he hw, fun e => (h.2.1 e).of_same he hw, fun e => (h.2.2 e).of_same he hw⟩
theorem text_gives {w : World} {i k : Nat} (hk : k ≤ 1 ∨ 4 ≤ k) {r : List (Nat × Nat)} {a : Act} :
    wpText P ops Q S ((i, k) :: r) a w ↔ ∃ o v, ops[i]? = some o ∧ Gives P ops S w k o v a ∧ wpText P ops Q S r (a.put o.dst v) w := by
  match k, hk with
  | 0, _ => exact ⟨fun ⟨o, v, h1, h2, h3⟩ => ⟨o, v, h1, ⟨fun _ => h2, (fun h => absurd h (by decide)), (fun h => absurd h (by decide))⟩, h3⟩, fun ⟨o, v, h1, h2, h3⟩ => ⟨o, v, h1, h2.1 rfl, h3⟩⟩
  | 1, _ => exact ⟨fun ⟨o, v, h1, h2, h3⟩ => ⟨o, v, h1, ⟨(fun h => absurd h (by decide)), fun _ => h2, (fun h => absurd h (by decide))⟩, h3⟩, fun ⟨o, v, h1, h2, h3⟩ => ⟨o, v, h1, h2.2.1 rfl, h3⟩⟩
  | 2, h => exact absurd h (by omega)
  | 3, h => exact absurd h (by omega)
  | k + 4, _ => exact ⟨fun ⟨o, v, h1, h2, h3⟩ => ⟨o, v, h1, ⟨(fun h => absurd h (by omega)), (fun h => absurd h (by omega)), fun _ => h2⟩, h3⟩, fun ⟨o, v, h1, h2, h3⟩ => ⟨o, v, h1, h2.2.2 (by omega), h3⟩⟩

theorem swapB_still {kx ky : Nat} (h : swapB kx ky = true) : kx ≤ 1 ∨ 4 ≤ kx := by
  simp only [swapB, Bool.or_eq_true, Bool.and_eq_true, decide_eq_true_eq, beq_iff_eq, bne_iff_ne] at h
  omega

/-- A held operation, a read or a pure one may be brought to the front. -/
theorem front_still (i k : Nat) (hk : k ≤ 1 ∨ 4 ≤ k) (oi : Oper) (hoi : ops[i]? = some oi) (hsel : ∀ (j : Nat) (o : Oper) cs b, ops[j]? = some o → o.op ≠ .select cs b) (w : World) :
    ∀ (L1 L2 : List (Nat × Nat)) (a : Act), (∀ x ∈ L1, Swap ops x (i, k)) → wpText P ops Q S (L1 ++ (i, k) :: L2) a w →
      ∃ v, Gives P ops S w k oi v a ∧ wpText P ops Q S (L1 ++ L2) (a.put oi.dst v) w := by
  intro L1
  induction L1 with
  | nil =>
    intro L2 a _ h
    obtain ⟨o, v, ho, hy, hr⟩ := (text_gives hk).1 h
    obtain rfl : o = oi := Option.some.inj (ho.symm.trans hoi)
    exact ⟨v, hy, hr⟩
  | cons x L1 ih =>
    intro L2 a hs h
    obtain ⟨j, kj⟩ := x
    have hsw := hs (j, kj) (by simp)
    have hkj := swapB_still hsw.1
    obtain ⟨oj, vj, hoj, hy, hr⟩ := (text_gives hkj).1 h
    have hap := hsw.2 oj oi hoj hoi
    obtain ⟨h1, h2, h3⟩ := Oper.apart_spec hap
    obtain ⟨v, y0, hr'⟩ := ih L2 _ (fun x hx => hs x (by simp [hx])) hr
    have hsi := fun cs b => hsel i oi cs b hoi
    refine ⟨v, y0.of_same (execOp_put oi hsi a oj.dst vj h1).symm (wanted_put oi a oj.dst vj h1).symm, (text_gives hkj).2 ⟨oj, vj, hoj, hy.of_same (execOp_put oj (fun cs b => hsel j oj cs b hoj) a oi.dst v h3) (wanted_put oj a oi.dst v h3), ?_⟩⟩
    rw [← Act.put_comm a vj v h2]
    exact hr'

/-- An effect may be brought to the front past held and pure operations. -/
theorem front_eff (i : Nat) (oi : Oper) (hoi : ops[i]? = some oi) (hsel : ∀ (j : Nat) (o : Oper) cs b, ops[j]? = some o → o.op ≠ .select cs b)
    (hQ : ∀ c a w (d : Tmp) v, Q (.panic c) (a.put (some d) v) w → Q (.panic c) a w) (w : World) :
    ∀ (L1 L2 : List (Nat × Nat)) (a : Act), (∀ x ∈ L1, Swap ops x (i, 2)) → wpText P ops Q S (L1 ++ (i, 2) :: L2) a w →
      wpOp P ops Q i (fun a' w' => S w' ∧ wpText P ops Q S (L1 ++ L2) a' w') a w := by
  intro L1
  induction L1 with
  | nil => intro L2 a _ h; exact h
  | cons x L1 ih =>
    intro L2 a hs h
    obtain ⟨j, kj⟩ := x
    have hsw := hs (j, kj) (by simp)
    have hkj : kj = 0 ∨ 4 ≤ kj := by
      have := hsw.1
      simp only [swapB, Bool.or_eq_true, Bool.and_eq_true, decide_eq_true_eq, beq_iff_eq, bne_iff_ne] at this
      omega
    obtain ⟨oj, vj, hoj, hy, hr⟩ := (text_gives (by omega)).1 h
    have hr' := ih L2 _ (fun x hx => hs x (by simp [hx])) hr
    have hap := hsw.2 oj oi hoj hoi
    have hq : ∀ c a w, Q (.panic c) (a.put oj.dst vj) w → Q (.panic c) a w := fun c a w hq => by
      cases hd : oj.dst with
      | none => rw [hd] at hq; exact hq
      | some d => rw [hd] at hq; exact hQ c a w d _ hq
    have hsj := fun cs b => hsel j oj cs b hoj
    have hsi := fun cs b => hsel i oi cs b hoi
    rcases hkj with rfl | h4
    · have h2 := wpOp_putIf (S := S) hoi hap hsj hsi hq (hy.1 rfl) hr'
      exact wpOp_mono (fun a' w' h3 => ⟨h3.2.1, oj, vj, hoj, h3.1, h3.2.2⟩) h2
    · have h2 := wpOp_put hoi hap hsj hsi hq (hy.2.2 h4) hr'
      exact wpOp_mono (fun a' w' h3 => ⟨h3.2.1, (text_gives (.inr h4)).2 ⟨oj, vj, hoj, ⟨fun e => absurd e (by omega), fun e => absurd e (by omega), fun _ => h3.1⟩, h3.2.2⟩⟩) h2
/-- An effect behind which S is not wanted, past pure operations. -/
theorem front_last (i : Nat) (oi : Oper) (hoi : ops[i]? = some oi) (hsel : ∀ (j : Nat) (o : Oper) cs b, ops[j]? = some o → o.op ≠ .select cs b)
    (hQ : ∀ c a w (d : Tmp) v, Q (.panic c) (a.put (some d) v) w → Q (.panic c) a w) (w : World) :
    ∀ (L1 L2 : List (Nat × Nat)) (a : Act), (∀ x ∈ L1, Swap ops x (i, 3)) → wpText P ops Q S (L1 ++ (i, 3) :: L2) a w →
      wpOp P ops Q i (fun a' w' => wpText P ops Q S (L1 ++ L2) a' w') a w := by
  intro L1
  induction L1 with
  | nil => intro L2 a _ h; exact h
  | cons x L1 ih =>
    intro L2 a hs h
    obtain ⟨j, kj⟩ := x
    have hsw := hs (j, kj) (by simp)
    have h4 : 4 ≤ kj := by
      have := hsw.1
      simp only [swapB, Bool.or_eq_true, Bool.and_eq_true, decide_eq_true_eq, beq_iff_eq, bne_iff_ne] at this
      omega
    obtain ⟨oj, vj, hoj, hy, hr⟩ := (text_gives (.inr h4)).1 h
    have hr' := ih L2 _ (fun x hx => hs x (by simp [hx])) hr
    have hap := hsw.2 oj oi hoj hoi
    have hq : ∀ c a w, Q (.panic c) (a.put oj.dst vj) w → Q (.panic c) a w := fun c a w hq => by
      cases hd : oj.dst with
      | none => rw [hd] at hq; exact hq
      | some d => rw [hd] at hq; exact hQ c a w d _ hq
    have h2 := wpOp_put hoi hap (fun cs b => hsel j oj cs b hoj) (fun cs b => hsel i oi cs b hoi) hq (hy.2.2 h4) hr'
    exact wpOp_mono (fun a' w' h3 => (text_gives (.inr h4)).2 ⟨oj, vj, hoj, ⟨fun e => absurd e (by omega), fun e => absurd e (by omega), fun _ => h3.1⟩, h3.2⟩) h2

theorem wpOp_of_yieldsAt {i : Nat} {o : Oper} {v : Value} {a : Act} {w : World} {K : Act → World → Prop} (hi : ops[i]? = some o) (hy : YieldsAt P ops w o v a) (h : K (a.put o.dst v) w) : wpOp P ops Q i K a w :=
  wpOp_of_stOp (fun _ h' => h') (hy.stOp hi (K := fun a' => K a' w) h)

/-- What L and the list of what has come up say of one another. -/
structure Inv (ops : Array Oper) (L : List (Nat × Nat)) (listed : Array Bool) : Prop where
  size : listed.size = ops.size
  mem : ∀ i, i ∈ L.map (·.1) ↔ i < ops.size ∧ listed.getD i false = false
  nodup : (L.map (·.1)).Nodup
  closed : Closed ops listed
  pairs : L.Pairwise (fun x y => pairB ops (tbl ops ops.size) x y = true)
  inside : ∀ x ∈ L, ∀ p ∈ preds ops x.1, p < ops.size ∧ p ≠ x.1

theorem getD_true_false {listed : Array Bool} {i : Nat} (hi : i < listed.size) : listed.getD i true = listed.getD i false := by simp [hi]

theorem Inv.ready_of_head {x : Nat × Nat} {r : List (Nat × Nat)} {listed : Array Bool} (h : Inv ops (x :: r) listed) : x.1 ∈ Region.ready .any ops listed := by
  have hx := (h.mem x.1).1 (by simp)
  obtain ⟨o, ho⟩ : ∃ o, ops[x.1]? = some o := ⟨_, Array.getElem?_eq_getElem hx.1⟩
  refine mem_ready.2 ⟨by rw [getD_true_false (by rw [h.size]; exact hx.1)]; exact hx.2, o, ho, fun e he hb => ?_⟩
  have hp := mem_preds ho he hb
  obtain ⟨h1, h2⟩ := h.inside x (by simp) e.on hp
  cases hl : listed.getD e.on false with
  | true => rfl
  | false =>
    have hm := (h.mem e.on).2 ⟨h1, hl⟩
    simp only [List.map_cons, List.mem_cons] at hm
    rcases hm with hm | hm
    · exact absurd hm h2
    · obtain ⟨y, hy, hye⟩ := List.mem_map.1 hm
      have := (List.pairwise_cons.1 h.pairs).1 y hy
      simp only [pairB, Bool.and_eq_true, Bool.not_eq_true'] at this
      rw [hye] at this
      have h3 := this.1.1
      rw [List.contains_iff_mem.2 hp] at h3
      cases h3

theorem Inv.step {L1 L2 : List (Nat × Nat)} {i k : Nat} {listed : Array Bool} (h : Inv ops (L1 ++ (i, k) :: L2) listed) (hr : i ∈ Region.ready .any ops listed) : Inv ops (L1 ++ L2) (listed.setIfInBounds i true) := by
  have hil : i < ops.size := ((h.mem i).1 (by simp)).1
  have hnd := h.nodup
  have hsub : (L1 ++ L2).Sublist (L1 ++ (i, k) :: L2) := List.Sublist.append (List.Sublist.refl _) (List.sublist_cons_self _ _)
  refine ⟨by simp [h.size], fun j => ?_, hnd.sublist (hsub.map _), ?_, h.pairs.sublist hsub, fun x hx => h.inside x (hsub.subset hx)⟩
  · have hj := h.mem j
    have hni : i ∉ (L1 ++ L2).map (·.1) := by
      rw [List.map_append, List.map_cons, List.nodup_append] at hnd
      obtain ⟨_, n2, n3⟩ := hnd
      rw [List.nodup_cons] at n2
      rw [List.map_append, List.mem_append]
      rintro (hm | hm)
      · exact n3 i hm i (by simp) rfl
      · exact n2.1 hm
    by_cases e : i = j
    · subst e
      constructor
      · intro hm; exact absurd hm hni
      · rintro ⟨_, h2⟩
        simp [h.size, hil] at h2
    · rw [getD_set_ne false e]
      rw [← hj]
      simp only [List.map_append, List.map_cons, List.mem_append, List.mem_cons]
      constructor
      · rintro (hm | hm)
        · exact .inl hm
        · exact .inr (.inr hm)
      · rintro (hm | hm | hm)
        · exact .inl hm
        · exact absurd hm.symm e
        · exact .inr hm
  · intro j p hp hl
    by_cases e : i = j
    · subst e
      obtain ⟨_, o, ho, hall⟩ := mem_ready.1 hr
      obtain ⟨o', ed, ho', he, hb, rfl⟩ := of_preds hp
      obtain rfl : o = o' := Option.some.inj (ho.symm.trans ho')
      exact getD_set_true (hall ed he hb)
    · rw [getD_set_ne false e] at hl
      exact getD_set_true (h.closed j p hp hl)

theorem Inv.swap {L1 L2 : List (Nat × Nat)} {i k : Nat} {listed : Array Bool} (h : Inv ops (L1 ++ (i, k) :: L2) listed) (hr : i ∈ Region.ready .any ops listed) : ∀ x ∈ L1, Swap ops x (i, k) := by
  intro x hx
  have hp := (List.pairwise_append.1 h.pairs).2.2 x hx (i, k) (by simp)
  have hxl := (h.mem x.1).1 (by rw [List.map_append, List.mem_append]; exact .inl (List.mem_map_of_mem hx))
  simp only [pairB, Bool.and_eq_true, Bool.or_eq_true, Bool.not_eq_true'] at hp
  rcases hp.2 with ha | hb
  · exfalso
    have hmem : x.1 ∈ (tbl ops ops.size).getD i [] := by simpa using ha
    have hc2 := (h.step hr).closed
    have hl := tbl_sound hc2 _ i x.1 hmem (by
      have hil : i < ops.size := ((h.mem i).1 (by simp)).1
      simp [h.size, hil])
    by_cases e : i = x.1
    · have hnd := h.nodup
      rw [List.map_append, List.map_cons, List.nodup_append] at hnd
      exact hnd.2.2 x.1 (List.mem_map_of_mem hx) i (by simp) e.symm
    · rw [getD_set_ne false e, hxl.2] at hl
      cases hl
  · refine ⟨hb.1, fun ox oy hox hoy => ?_⟩
    · have := hb.2
      simp only [hox, hoy] at this
      exact this

theorem wpAny_of_text (hsel : ∀ (j : Nat) (o : Oper) cs b, ops[j]? = some o → o.op ≠ .select cs b) (hQ : ∀ c a w (d : Tmp) v, Q (.panic c) (a.put (some d) v) w → Q (.panic c) a w) :
    ∀ (n : Nat) (L : List (Nat × Nat)) (listed : Array Bool) (a : Act) (w : World), L.length = n → Inv ops L listed → ((∃ x ∈ L, x.2 = 0) → S w) → wpText P ops Q S L a w → wpAny P .any ops Q n listed a w
  | 0, L, listed, a, w, hn, inv, _, h => by
    obtain rfl : L = [] := List.eq_nil_of_length_eq_zero hn
    refine ⟨?_, h⟩
    cases hrd : Region.ready .any ops listed with
    | nil => rfl
    | cons j js =>
      have hj : j ∈ Region.ready .any ops listed := by rw [hrd]; simp
      obtain ⟨h1, o, ho, _⟩ := mem_ready.1 hj
      have hlt : j < ops.size := (Array.getElem?_eq_some_iff.1 ho).1
      have := (inv.mem j).2 ⟨hlt, by rw [← getD_true_false (by rw [inv.size]; exact hlt)]; exact h1⟩
      simp at this
  | n + 1, L, listed, a, w, hn, inv, hS, h => by
    refine ⟨fun h0 => ?_, fun i hi => ?_⟩
    · cases L with
      | nil => exact h
      | cons x r => have := inv.ready_of_head; rw [h0] at this; cases this
    · obtain ⟨h1, oi, hoi, _⟩ := mem_ready.1 hi
      have hlt : i < ops.size := (Array.getElem?_eq_some_iff.1 hoi).1
      have hm := (inv.mem i).2 ⟨hlt, by rw [← getD_true_false (by rw [inv.size]; exact hlt)]; exact h1⟩
      obtain ⟨⟨i', k⟩, hx, rfl⟩ := List.mem_map.1 hm
      obtain ⟨L1, L2, rfl⟩ := List.append_of_mem hx
      have hsw := inv.swap hi
      have inv' := inv.step hi
      have hn' : (L1 ++ L2).length = n := by simp only [List.length_append, List.length_cons] at hn ⊢; omega
      have hall := fun x (hx : x ∈ L1) => (List.pairwise_append.1 inv.pairs).2.2 x hx (i', k) (by simp)
      have hL2 := (List.pairwise_cons.1 (List.pairwise_append.1 inv.pairs).2.1).1
      have hpass : (∃ x ∈ L1 ++ L2, x.2 = 0) → S w := fun ⟨x, hx, hx0⟩ => hS ⟨x, by simp only [List.mem_append, List.mem_cons] at hx ⊢; exact hx.imp id .inr, hx0⟩
      have go : wpOp P ops Q i' (fun a' w' => ((∃ x ∈ L1 ++ L2, x.2 = 0) → S w') ∧ wpText P ops Q S (L1 ++ L2) a' w') a w := by
        match k, hsw, h, hL2, hS with
        | 0, hsw, h, _, hS =>
          obtain ⟨v, y0, hr⟩ := front_still i' 0 (by omega) oi hoi hsel w L1 L2 a hsw h
          exact (y0.1 rfl).wpOp hoi (hS ⟨(i', 0), by simp, rfl⟩) ⟨hpass, hr⟩
        | 1, hsw, h, _, _ =>
          obtain ⟨v, y1, hr⟩ := front_still i' 1 (by omega) oi hoi hsel w L1 L2 a hsw h
          exact wpOp_of_yieldsAt hoi (y1.2.1 rfl) ⟨hpass, hr⟩
        | 2, hsw, h, _, _ => exact wpOp_mono (fun a' w' h' => ⟨fun _ => h'.1, h'.2⟩) (front_eff i' oi hoi hsel hQ w L1 L2 a hsw h)
        | 3, hsw, h, hL2, _ =>
          refine wpOp_mono (fun a' w' h' => ⟨fun ⟨x, hx, hx0⟩ => ?_, h'⟩) (front_last i' oi hoi hsel hQ w L1 L2 a hsw h)
          exfalso
          rcases List.mem_append.1 hx with hx | hx
          · have := (hsw x hx).1
            rw [hx0] at this
            simp [swapB] at this
          · have := hL2 x hx
            simp [pairB, hx0] at this
        | k + 4, hsw, h, _, _ =>
          obtain ⟨v, y1, hr⟩ := front_still i' (k + 4) (by omega) oi hoi hsel w L1 L2 a hsw h
          exact (y1.2.2 (by omega)).wpOp hoi ⟨hpass, hr⟩
      exact wpOp_mono (fun a' w' h' => wpAny_of_text hsel hQ n (L1 ++ L2) _ a' w' hn' inv' h'.1 h'.2) go

/-- THE RULE. -/
theorem wp_region_text {id : Nat} {a : Act} {w : World} (S : World → Prop) (L : List (Nat × Nat)) (hm : P.follows .mixedOrders = true) (hB : textB ops L = true)
    (hQ : ∀ c a w (d : Tmp) v, Q (.panic c) (a.put (some d) v) w → Q (.panic c) a w) (hS : S w.drew) (h : wpText P ops Q S L a w.drew) : (Code.region id ops true).wp P Q a w := by
  simp only [textB, Bool.and_eq_true, decide_eq_true_eq] at hB
  obtain ⟨⟨⟨⟨⟨h1, h2⟩, h3⟩, h4⟩, hlen⟩, h5⟩ := hB
  refine wp_region_any hm ?_
  refine wpAny_of_text (S := S) (Region.noSelect_spec h1) hQ ops.size L _ a _ hlen ⟨by simp, fun i => ?_, h4, fun j p hp hl => ?_, pairsB_spec h5, fun x hx p hp => ?_⟩ (fun _ => hS) h
  · rw [getD_replicate_false]
    constructor
    · intro hi
      obtain ⟨x, hx, rfl⟩ := List.mem_map.1 hi
      have := List.all_eq_true.1 h3 x hx
      simp only [Bool.and_eq_true, decide_eq_true_eq] at this
      exact ⟨this.1, rfl⟩
    · rintro ⟨hi, _⟩
      have := List.all_eq_true.1 h2 i (List.mem_range.2 hi)
      simpa using this
  · rw [getD_replicate_false] at hl; cases hl
  · have := List.all_eq_true.1 h3 x hx
    simp only [Bool.and_eq_true] at this
    have h6 := List.all_eq_true.1 this.2 p hp
    simp only [Bool.and_eq_true, decide_eq_true_eq] at h6
    exact ⟨h6.1, by simpa using h6.2⟩

section steps
variable {a : Act} {w : World} {r : List (Nat × Nat)} {i : Nat}
theorem held {o : Oper} {v : Value} (ho : ops[i]? = some o) (hw : Region.wanted o (yielded ops a.tmps) = true) (hv : ∀ w, S w → (execOp a.eval o).run P w = .ok (.value v) w)
    (h : wpText P ops Q S r (a.put o.dst v) w) : wpText P ops Q S ((i, 0) :: r) a w := ⟨o, v, ho, .inl ⟨hw, hv⟩, h⟩
theorem pure {o : Oper} {v : Value} (ho : ops[i]? = some o) (hw : Region.wanted o (yielded ops a.tmps) = true) (hv : ∀ w, (execOp a.eval o).run P w = .ok (.value v) w)
    (h : wpText P ops Q S r (a.put o.dst v) w) : wpText P ops Q S ((i, 4) :: r) a w := ⟨o, v, ho, .inl ⟨hw, hv⟩, h⟩
theorem skip4 {o : Oper} (ho : ops[i]? = some o) (hw : Region.wanted o (yielded ops a.tmps) = false)
    (h : wpText P ops Q S r (a.put o.dst undef) w) : wpText P ops Q S ((i, 4) :: r) a w := ⟨o, undef, ho, .inr ⟨hw, rfl⟩, h⟩
theorem skip0 {o : Oper} (ho : ops[i]? = some o) (hw : Region.wanted o (yielded ops a.tmps) = false)
    (h : wpText P ops Q S r (a.put o.dst undef) w) : wpText P ops Q S ((i, 0) :: r) a w := ⟨o, undef, ho, .inr ⟨hw, rfl⟩, h⟩
theorem read {o : Oper} {v : Value} (ho : ops[i]? = some o) (hw : Region.wanted o (yielded ops a.tmps) = true) (hv : (execOp a.eval o).run P w = .ok (.value v) w)
    (h : wpText P ops Q S r (a.put o.dst v) w) : wpText P ops Q S ((i, 1) :: r) a w := ⟨o, v, ho, .inl ⟨hw, .inl hv⟩, h⟩
theorem skip1 {o : Oper} (ho : ops[i]? = some o) (hw : Region.wanted o (yielded ops a.tmps) = false)
    (h : wpText P ops Q S r (a.put o.dst undef) w) : wpText P ops Q S ((i, 1) :: r) a w := ⟨o, undef, ho, .inr ⟨hw, rfl⟩, h⟩
/-- A call that leaves the world as it is, among the reads. -/
theorem quiet {o : Oper} {v : Value} {f : FuncId} {args : Array Value} (ho : ops[i]? = some o) (hw : Region.wanted o (yielded ops a.tmps) = true) (hv : (execOp a.eval o).run P w = .ok (.enter f args) w)
    (hc : Calls P f args w (fun e w'' => e = .returned v ∧ w = w'')) (h : wpText P ops Q S r (a.put o.dst v) w) : wpText P ops Q S ((i, 1) :: r) a w :=
  ⟨o, v, ho, .inl ⟨hw, .inr (.inr ⟨f, args, hv, hc.mono fun _ _ h => ⟨h.1, h.2.symm⟩⟩)⟩, h⟩
/-- No way out but the normal one. -/
def NoQ : Exit → Act → World → Prop := fun _ _ _ => False
theorem wp_of_noQ {o : Oper} {K : Act → World → Prop} (h : o.wp P a w K NoQ) : o.wp P a w K Q := by
  unfold Oper.wp at *
  generalize (execOp a.eval o).run P w = r at *
  cases r with
  | ok n w' =>
    cases n <;> simp only [Oper.upon] at h ⊢ <;>
      first
        | exact h
        | exact Calls.mono h (fun e w'' he => by cases e <;> first | exact he | exact he.elim | (obtain ⟨_, _, hf⟩ := he; exact hf.elim))
  | halt x w' => cases x <;> simp only [Oper.upon] at h ⊢ <;> exact h.elim
theorem eff {o : Oper} (ho : ops[i]? = some o) (hg : o.guard = none) (h : ∀ K : Act → World → Prop, (∀ a w, S w → wpText P ops Q S r a w → K a w) → o.wp P a w K NoQ) : wpText P ops Q S ((i, 2) :: r) a w := by
  show wpOp P ops Q i (fun a' w' => S w' ∧ wpText P ops Q S r a' w') a w
  unfold wpOp
  simp only [ho]
  rw [if_pos (by simp [Region.wanted, hg])]
  exact .inl (wp_of_noQ (h _ fun _ _ h1 h2 => ⟨h1, h2⟩))
theorem last {o : Oper} (ho : ops[i]? = some o) (hg : o.guard = none) (h : ∀ K : Act → World → Prop, (∀ a w, wpText P ops Q S r a w → K a w) → o.wp P a w K NoQ) : wpText P ops Q S ((i, 3) :: r) a w := by
  show wpOp P ops Q i (fun a' w' => wpText P ops Q S r a' w') a w
  unfold wpOp
  simp only [ho]
  rw [if_pos (by simp [Region.wanted, hg])]
  exact .inl (wp_of_noQ (h _ fun _ _ h2 => h2))
theorem purek {o : Oper} (ho : ops[i]? = some o) (hw : Region.wanted o (yielded ops a.tmps) = true)
    (h : ∀ K : Act → Prop, (∀ a, wpText P ops Q S r a w → K a) → ∃ v, (∀ w, (execOp a.eval o).run P w = .ok (.value v) w) ∧ K (a.put o.dst v)) : wpText P ops Q S ((i, 4) :: r) a w := by
  obtain ⟨v, h1, h2⟩ := h _ (fun _ h => h)
  exact pure ho hw h1 h2
theorem heldk {o : Oper} (ho : ops[i]? = some o) (hw : Region.wanted o (yielded ops a.tmps) = true)
    (h : ∀ K : Act → Prop, (∀ a, wpText P ops Q S r a w → K a) → ∃ v, (∀ w, S w → (execOp a.eval o).run P w = .ok (.value v) w) ∧ K (a.put o.dst v)) : wpText P ops Q S ((i, 0) :: r) a w := by
  obtain ⟨v, h1, h2⟩ := h _ (fun _ h => h)
  exact held ho hw h1 h2
theorem readk {o : Oper} (ho : ops[i]? = some o) (hw : Region.wanted o (yielded ops a.tmps) = true)
    (h : ∀ K : Act → Prop, (∀ a, wpText P ops Q S r a w → K a) → ∃ v, (execOp a.eval o).run P w = .ok (.value v) w ∧ K (a.put o.dst v)) : wpText P ops Q S ((i, 1) :: r) a w := by
  obtain ⟨v, h1, h2⟩ := h _ (fun _ h => h)
  exact read ho hw h1 h2
theorem quietk {o : Oper} (ho : ops[i]? = some o) (hw : Region.wanted o (yielded ops a.tmps) = true)
    (h : ∀ K : Act → Prop, (∀ a, wpText P ops Q S r a w → K a) → ∃ v f args, (execOp a.eval o).run P w = .ok (.enter f args) w ∧ Calls P f args w (fun e w'' => e = .returned v ∧ w = w'') ∧ K (a.put o.dst v)) : wpText P ops Q S ((i, 1) :: r) a w := by
  obtain ⟨v, f, args, h1, h2, h3⟩ := h _ (fun _ h => h)
  exact quiet ho hw h1 h2 h3
theorem skipk {o : Oper} {k : Nat} (hk : k = 0 ∨ k = 1 ∨ k = 4) (ho : ops[i]? = some o) (hw : Region.wanted o (yielded ops a.tmps) = false)
    (h : ∀ K : Act → Prop, (∀ a, wpText P ops Q S r a w → K a) → K (a.put o.dst undef)) : wpText P ops Q S ((i, k) :: r) a w := by
  have h2 := h _ (fun _ h => h)
  rcases hk with rfl | rfl | rfl
  · exact skip0 ho hw h2
  · exact skip1 ho hw h2
  · exact skip4 ho hw h2
theorem done (h : Q .normal a w) : wpText P ops Q S [] a w := h
end steps
attribute [irreducible] wpText
end Text
end Go.Proofs.Ytoeeklkebcgmaaa
/- append onto a slice of the call's own, in the words of Mem: the source may be nil, empty or not. -/
namespace Go.Proofs.Ytoeeklkebcgmaaa
open Go Go.RowKit Gf

section
variable {P : Program} (w : World)

theorem run_app_nil (base : Nat) (t ty e : TypeId) (i : TypeInfo) (ht : P.underlying t = some (.slice e)) (hi : P.info? e = some i)
    (v : Value) (n : Nat) (xs : List Value) (hown : w.ownsRow base e 1 v n xs) (c : Nat) : (Builtin.append_ #[t, t] ty #[v, .slice none 0 c]).run P w = .ok v w := by
  rcases hown.2 with ⟨rfl, rfl⟩ | ⟨g, cap, cur, rfl, _, _, hnc, _⟩
  · simp [Builtin.append_, run_underlying ht, sizeOf, typeInfo, hi, Builtin.lenOf, Builtin.firstCells]
  · simp [Builtin.append_, run_underlying ht, sizeOf, typeInfo, hi, Builtin.lenOf, Builtin.firstCells, hnc, storeCells]

theorem run_app (base : Nat) (t ty e : TypeId) (i : TypeInfo) (z : Value) (bytes : Nat) (ht : P.underlying t = some (.slice e)) (hi : P.info? e = some i) (hz : i.zero = some z)
    (hsize : i.size = 1) (hby : i.bytes = bytes) (hzs : z.cells.size = 1)
    (v : Value) (n : Nat) (xs : List Value) (hown : w.ownsRow base e 1 v n xs)
    (A : Option Addr) (m c : Nat) (news : List Value) (hl : news.length = m) (hr : Cells w A m (fun k => news.getD k undef)) (h1 : ∀ u ∈ news, u.oneCell' = true)
    (hbytes : (n + m) * bytes ≤ 140737488355328) (h63 : n + m ≤ 140737488355328) (hbase : base ≤ w.heap.size) :
    ∃ v' w', (Builtin.append_ #[t, t] ty #[v, .slice A m c]).run P w = .ok v' w' ∧ w'.ownsRow base e 1 v' (n + m) (xs ++ news) ∧ w.grownBy w' v.ownBlock ∧
      (v'.ownBlock = v.ownBlock ∨ v'.ownBlock = some w.heap.size) := by
  have hmx : n + m ≤ maxLen := by simp only [maxLen]; omega
  rcases Nat.eq_zero_or_pos m with h0 | h0
  · subst h0
    have hn : news = [] := List.eq_nil_of_length_eq_zero hl
    subst hn
    rcases A with _ | ad
    · exact ⟨v, w, run_app_nil w base t ty e i ht hi v n xs hown c, by simpa using hown, World.grownBy.refl w _, .inl rfl⟩
    · obtain ⟨v', w', hrun, h2, h3, _, h5⟩ := run_append_own_at (P := P) w base t ty e i z 1 bytes ht hi hz hsize hby hzs (by omega) v n xs hown ad 0 c [] (by simp) (fun j u hu => by simp at hu) h1 hmx hbytes hbase
      exact ⟨v', w', hrun, h2, h3, h5⟩
  · obtain ⟨g, o, rfl, _⟩ := hr 0 h0
    have hcells : ∀ j u, news[j]? = some u → w.cell? ((⟨g, o, none⟩ : Addr).add j) = some u := by
      intro j u hu
      have hj : j < m := by rw [← hl]; exact (List.getElem?_eq_some_iff.1 hu).1
      obtain ⟨g', o', e', hc⟩ := hr j hj
      injection e' with e'
      injection e' with e1 e2
      subst e1 e2
      have ea : (⟨g, o, none⟩ : Addr).add j = ⟨g, o + j, none⟩ := by
        unfold Addr.add; split
        · rename_i hj0; subst hj0; simp
        · rfl
      rw [ea, hc]
      simp [List.getD, hu]
    obtain ⟨v', w', hrun, h2, h3, _, h5⟩ := run_append_own_at (P := P) w base t ty e i z 1 bytes ht hi hz hsize hby hzs (by omega) v n xs hown ⟨g, o, none⟩ m c news (by omega) hcells h1 hmx hbytes hbase
    exact ⟨v', w', hrun, h2, h3, h5⟩

/-- What an append leaves. -/
def AppPost (base : Nat) (e : TypeId) (v : Value) (n m : Nat) (xs : List Value) (v' : Value) (w w' : World) : Prop :=
  w'.ownsRow base e 1 v' (n + m) xs ∧ w.grownBy w' v.ownBlock ∧ (v'.ownBlock = v.ownBlock ∨ v'.ownBlock = some w.heap.size)

theorem wp_app {o : Oper} {a : Act} {K : Act → World → Prop} {Q : Exit → Act → World → Prop} (s x : Operand) (t : TypeId)
    (ho : o.op = .call { callee := .builtin .append, args := #[s, x], argTypes := #[t, t] })
    (base : Nat) (e : TypeId) (i : TypeInfo) (z : Value) (bytes : Nat) (ht : P.underlying t = some (.slice e)) (hi : P.info? e = some i) (hz : i.zero = some z)
    (hsize : i.size = 1) (hby : i.bytes = bytes) (hzs : z.cells.size = 1)
    (v : Value) (n : Nat) (xs : List Value) (hs : a.eval s = v) (hown : w.ownsRow base e 1 v n xs)
    (A : Option Addr) (m c : Nat) (news : List Value) (hx : a.eval x = .slice A m c) (hl : news.length = m) (hr : Cells w A m (fun k => news.getD k undef)) (h1 : ∀ u ∈ news, u.oneCell' = true)
    (hbytes : (n + m) * bytes ≤ 140737488355328) (h63 : n + m ≤ 140737488355328) (hbase : base ≤ w.heap.size)
    (h : ∀ v' w', AppPost base e v n m (xs ++ news) v' w w' → K (a.put o.dst v') w') : o.wp P a w K Q := by
  obtain ⟨v', w', hrun, h2, h3, h4⟩ := run_app (P := P) w base t o.type e i z bytes ht hi hz hsize hby hzs v n xs hown A m c news hl hr h1 hbytes h63 hbase
  unfold Oper.wp execOp
  simp only [ho, resolve, invoke, builtin, Sem.run_bind, Sem.run_pure, Result.andThen_ok, List.map_toArray, List.map_cons, List.map_nil, hs, hx, hrun]
  exact h v' w' ⟨h2, h3, h4⟩
end

theorem wpList_app {P : Program} (w : World) {ops : Array Oper} {rest : List Oper} {o : Oper} {a : Act} {Q : Exit → Act → World → Prop} (hgd : o.guard = none) (s x : Operand) (t : TypeId)
    (ho : o.op = .call { callee := .builtin .append, args := #[s, x], argTypes := #[t, t] })
    (base : Nat) (e : TypeId) (z : Value) (bytes : Nat) (ht : P.underlying t = some (.slice e)) (hinfo : (P.info? e).map (fun i => (i.zero, i.size, i.bytes)) = some (some z, 1, bytes)) (hzs : z.cells.size = 1)
    (v : Value) (n : Nat) (xs : List Value) (hs : a.eval s = v) (hown : w.ownsRow base e 1 v n xs)
    (A : Option Addr) (m c : Nat) (news : List Value) (hx : a.eval x = .slice A m c) (hl : news.length = m) (hr : Cells w A m (fun k => news.getD k undef)) (h1 : ∀ u ∈ news, u.oneCell' = true)
    (hbytes : (n + m) * bytes ≤ 140737488355328) (h63 : n + m ≤ 140737488355328) (hbase : base ≤ w.heap.size)
    (h : ∀ v' w', AppPost base e v n m (xs ++ news) v' w w' → wpList P ops Q rest (a.put o.dst v') w') : wpList P ops Q (o :: rest) a w := by
  obtain ⟨i, hi, hz, hsz, hby⟩ := info_parts hinfo
  exact wpList_plain hgd fun _ hK => wp_app w s x t ho base e i z bytes ht hi hz hsz hby hzs v n xs hs hown A m c news hx hl hr h1 hbytes h63 hbase fun v' w' hp => hK _ _ (h v' w' hp)

theorem info_some {P : Program} {e : TypeId} {z : Value} {size bytes : Nat} (h : (P.info? e).map (fun i => (i.zero, i.size, i.bytes)) = some (some z, size, bytes)) : ∃ i, P.info? e = some i ∧ i.zero = some z ∧ i.size = size ∧ i.bytes = bytes := info_parts h

theorem cells_of_BS {w : World} {A : Option Addr} {m c : Nat} {l : List UInt8} (h : BS w A m c l) : Cells w A m (fun k => (l.map B).getD k undef) := fun k hk => by
  obtain ⟨g, o, e, hc⟩ := h.2.2.2 k hk
  have hkl : k < l.length := by rw [h.1]; exact hk
  refine ⟨g, o, e, ?_⟩
  show _ = some ((l.map B).getD k undef)
  rw [hc]
  show some (B (gB l k)) = _
  rw [gB_eq hkl]
  simp [List.getD, List.getElem?_eq_getElem hkl]

/-- append of bytes, at an operation of a region that draws. -/
theorem wp_appB (w : World) {o : Oper} {a : Act} {K : Act → World → Prop} {Q : Exit → Act → World → Prop} (s x : Operand)
    (ho : o.op = .call { callee := .builtin .append, args := #[s, x], argTypes := #[22, 22] })
    (base : Nat) (v : Value) (n : Nat) (l : List UInt8) (hs : a.eval s = v) (hown : w.ownsRow base 5 1 v n (l.map B))
    (A : Option Addr) (m c : Nat) (l' : List UInt8) (hx : a.eval x = .slice A m c) (hr : BS w A m c l') (hb : n + m ≤ 140737488355328) (hbase : base ≤ w.heap.size)
    (h : ∀ v' w', AppPost base 5 v n m ((l ++ l').map B) v' w w' → K (a.put o.dst v') w') : o.wp Try.prog a w K Q := by
  obtain ⟨i, hi, hz, hsz, hby⟩ := info_some infoU8
  exact wp_app w s x _ ho base 5 i _ 1 Try.underlying22 hi hz hsz hby rfl v n (l.map B) hs hown A m c (l'.map B) hx (by simp [hr.1]) (cells_of_BS hr) (by simp [Value.oneCell']) (by omega) hb hbase
    (fun v' w' hp => h v' w' (by rw [List.map_append]; exact hp))
theorem wpList_appB (w : World) {ops : Array Oper} {rest : List Oper} {o : Oper} {a : Act} {Q : Exit → Act → World → Prop} (hgd : o.guard = none) (s x : Operand)
    (ho : o.op = .call { callee := .builtin .append, args := #[s, x], argTypes := #[22, 22] })
    (base : Nat) (v : Value) (n : Nat) (l : List UInt8) (hs : a.eval s = v) (hown : w.ownsRow base 5 1 v n (l.map B))
    (A : Option Addr) (m c : Nat) (l' : List UInt8) (hx : a.eval x = .slice A m c) (hr : BS w A m c l') (hb : n + m ≤ 140737488355328) (hbase : base ≤ w.heap.size)
    (h : ∀ v' w', AppPost base 5 v n m ((l ++ l').map B) v' w w' → wpList Try.prog ops Q rest (a.put o.dst v') w') : wpList Try.prog ops Q (o :: rest) a w :=
  wpList_plain hgd fun _ hK => wp_appB w s x ho base v n l hs hown A m c l' hx hr hb hbase fun v' w' hp => hK _ _ (h v' w' hp)

/-- One value appended: it lies in a new block of its own. -/
theorem cells_one {w : World} {g : Nat} {t : TypeId} {u : Value} (h : Blk w g t #[u]) : Cells w (some ⟨g, 0, none⟩) 1 (fun k => [u].getD k undef) := fun k hk => by
  obtain rfl : k = 0 := by omega
  exact ⟨g, 0, rfl, by rw [h.cell]; rfl⟩
theorem wp_app1 (w : World) {o : Oper} {a : Act} {K : Act → World → Prop} {Q : Exit → Act → World → Prop} (s x : Operand) (t e : TypeId) (z : Value) (bytes : Nat) (ht : Try.prog.underlying t = some (.slice e))
    (hinfo : (Try.prog.info? e).map (fun i => (i.zero, i.size, i.bytes)) = some (some z, 1, bytes)) (hzs : z.cells.size = 1)
    (ho : o.op = .call { callee := .builtin .append, args := #[s, x], argTypes := #[t, t] })
    (base : Nat) (v : Value) (n : Nat) (xs : List Value) (hs : a.eval s = v) (hown : w.ownsRow base e 1 v n xs)
    (g c : Nat) (te : TypeId) (u : Value) (hx : a.eval x = .slice (some ⟨g, 0, none⟩) 1 c) (hblk : Blk w g te #[u]) (hu : u.oneCell' = true) (hb : (n + 1) * bytes ≤ 140737488355328) (hn : n < 140737488355328) (hbase : base ≤ w.heap.size)
    (h : ∀ v' w', AppPost base e v n 1 (xs ++ [u]) v' w w' → K (a.put o.dst v') w') : o.wp Try.prog a w K Q := by
  obtain ⟨i, hi, hz, hsz, hby⟩ := info_some hinfo
  exact wp_app w s x _ ho base e i _ bytes ht hi hz hsz hby hzs v n xs hs hown _ 1 c [u] hx rfl (cells_one hblk) (by simp [hu]) hb (by omega) hbase h
theorem wpList_app1 (w : World) {ops : Array Oper} {rest : List Oper} {o : Oper} {a : Act} {Q : Exit → Act → World → Prop} (hgd : o.guard = none) (s x : Operand) (t e : TypeId) (z : Value) (bytes : Nat) (ht : Try.prog.underlying t = some (.slice e))
    (hinfo : (Try.prog.info? e).map (fun i => (i.zero, i.size, i.bytes)) = some (some z, 1, bytes)) (hzs : z.cells.size = 1)
    (ho : o.op = .call { callee := .builtin .append, args := #[s, x], argTypes := #[t, t] })
    (base : Nat) (v : Value) (n : Nat) (xs : List Value) (hs : a.eval s = v) (hown : w.ownsRow base e 1 v n xs)
    (g c : Nat) (te : TypeId) (u : Value) (hx : a.eval x = .slice (some ⟨g, 0, none⟩) 1 c) (hblk : Blk w g te #[u]) (hu : u.oneCell' = true) (hb : (n + 1) * bytes ≤ 140737488355328) (hn : n < 140737488355328) (hbase : base ≤ w.heap.size)
    (h : ∀ v' w', AppPost base e v n 1 (xs ++ [u]) v' w w' → wpList Try.prog ops Q rest (a.put o.dst v') w') : wpList Try.prog ops Q (o :: rest) a w :=
  wpList_plain hgd fun _ hK => wp_app1 w s x t e z bytes ht hinfo hzs ho base v n xs hs hown g c te u hx hblk hu hb hn hbase fun v' w' hp => hK _ _ (h v' w' hp)

/-- An owned row's block is not one of another element type. -/
theorem own_ne {w : World} {base : Nat} {e t : TypeId} {n g : Nat} {v : Value} {xs : List Value} {cs : Array Value} (h : w.ownsRow base e 1 v n xs) (hg : Blk w g t cs) (hne : e ≠ t) : v.ownBlock ≠ some g := by
  rcases h.2 with ⟨rfl, _⟩ | ⟨g', cap, cur, rfl, _, hh, _⟩
  · simp [Value.ownBlock]
  · intro he
    have : g' = g := by simpa [Value.ownBlock] using he
    subst this
    unfold Blk at hg
    rw [hg] at hh
    injection hh with hh
    injection hh with _ ht
    exact hne ht.symm
theorem own_base {w : World} {base : Nat} {e : TypeId} {n : Nat} {v : Value} {xs : List Value} (h : w.ownsRow base e 1 v n xs) : ∀ k, v.ownBlock = some k → base ≤ k := fun k hk => (h.lt k hk).1
theorem grown_blk {w w' : World} {row : Option Nat} {g : Nat} {t : TypeId} {cs : Array Value} (hg : w.grownBy w' row) (h : Blk w g t cs) (hne : row ≠ some g) : Blk w' g t cs :=
  (hg.block g h.lt (fun e => hne e.symm)).trans h
end Go.Proofs.Ytoeeklkebcgmaaa
/- Contracts of package matrix: clear, the search for a pivot, reduce, eliminate, Inverse. -/
namespace Go.Proofs.Ytoeeklkebcgmaaa
open Go.RowKit Gf

attribute [local go_sem] Gf.xor_bits Gf.and_bits Gf.or_bits Gf.ne_zero_iff Gf.eq_zero_iff Gf.eq_one_iff Gf.beq_bytes Gf.bne_bytes Gf.bv_toNat

/-- The pivot's row, divided by the pivot. -/
def prow (m : List (List UInt8)) (top col : Nat) : List UInt8 := (gR m top).map (mul (inv (gB (gR m top) col)))
/-- Row i after the first k rounds of clear. -/
def clrow (m : List (List UInt8)) (top col k i : Nat) : List UInt8 :=
  if i = top then prow m top col else if i < k ∧ gB (gR m i) col ≠ 0 then muladd (gR m i) (prow m top col) (gB (gR m i) col) else gR m i
def clr (m : List (List UInt8)) (top col k : Nat) : List (List UInt8) := (List.range m.length).map (clrow m top col k)
theorem clr_length (m : List (List UInt8)) (top col k : Nat) : (clr m top col k).length = m.length := by simp [clr]
theorem clr_get (m : List (List UInt8)) (top col k i : Nat) (h : i < m.length) : gR (clr m top col k) i = clrow m top col k i := by
  rw [gR_eq (by rw [clr_length]; exact h)]; simp [clr]
theorem clr_zero (m : List (List UInt8)) (top col : Nat) (_h : top < m.length) : m.set top (prow m top col) = clr m top col 0 := by
  apply List.ext_getElem (by simp [clr])
  intro i h1 h2
  have hi : i < m.length := by simpa using h1
  rw [List.getElem_set]
  simp only [clr, List.getElem_map, List.getElem_range, clrow]
  by_cases e : top = i
  · rw [if_pos e, if_pos e.symm]
  · rw [if_neg e, if_neg (Ne.symm e), if_neg (by omega), gR_eq hi]
theorem clr_skip (m : List (List UInt8)) (top col k : Nat) (h : k = top ∨ gB (gR m k) col = 0) : clr m top col k = clr m top col (k + 1) := by
  apply List.ext_getElem (by simp [clr])
  intro i h1 h2
  simp only [clr, List.getElem_map, List.getElem_range, clrow]
  by_cases e : i = top
  · rw [if_pos e, if_pos e]
  · rw [if_neg e, if_neg e]
    by_cases e2 : i < k
    · by_cases e3 : gB (gR m i) col ≠ 0
      · rw [if_pos ⟨e2, e3⟩, if_pos ⟨by omega, e3⟩]
      · rw [if_neg (fun x => e3 x.2), if_neg (fun x => e3 x.2)]
    · rw [if_neg (fun x => e2 x.1)]
      by_cases e3 : i = k
      · subst e3
        rw [if_neg]
        rintro ⟨_, h3⟩
        rcases h with h | h
        · exact e h
        · exact h3 h
      · rw [if_neg (fun x => e3 (by omega))]
theorem clr_set (m : List (List UInt8)) (top col k : Nat) (h1 : k ≠ top) (h2 : gB (gR m k) col ≠ 0) :
    (clr m top col k).set k (muladd (gR m k) (prow m top col) (gB (gR m k) col)) = clr m top col (k + 1) := by
  apply List.ext_getElem (by simp [clr])
  intro i h3 h4
  rw [List.getElem_set]
  simp only [clr, List.getElem_map, List.getElem_range, clrow]
  by_cases e : k = i
  · subst e
    rw [if_pos rfl, if_neg h1, if_pos ⟨by omega, h2⟩]
  · rw [if_neg e]
    by_cases e1 : i = top
    · rw [if_pos e1, if_pos e1]
    · rw [if_neg e1, if_neg e1]
      by_cases e2 : i < k ∧ gB (gR m i) col ≠ 0
      · rw [if_pos e2, if_pos ⟨by omega, e2.2⟩]
      · rw [if_neg e2, if_neg (fun x => e2 ⟨by omega, x.2⟩)]
theorem prow_length (m : List (List UInt8)) (top col : Nat) : (prow m top col).length = (gR m top).length := by simp [prow]
theorem clrow_length (m : List (List UInt8)) (L top col k i : Nat) (hr : Rect m L) (ht : top < m.length) (hi : i < m.length) : (clrow m top col k i).length = L := by
  unfold clrow
  by_cases e : i = top
  · rw [if_pos e, prow_length, hr top ht]
  · rw [if_neg e]
    by_cases e2 : i < k ∧ gB (gR m i) col ≠ 0
    · rw [if_pos e2, muladd_length _ _ _ (by rw [prow_length, hr i hi, hr top ht]), prow_length, hr top ht]
    · rw [if_neg e2, hr i hi]
theorem clr_rect (m : List (List UInt8)) (L top col k : Nat) (hr : Rect m L) (ht : top < m.length) : Rect (clr m top col k) L := by
  intro i hi
  rw [clr_length] at hi
  rw [clr_get _ _ _ _ _ hi, clrow_length m L top col k i hr ht hi]

theorem cell_set_ne {w : World} {p q : Addr} {v x : Value} (hq : w.cell? q = some x) (hne : p ≠ q) : (w.setCell p v).cell? q = some x :=
  (World.cell?_setCell_other w p q v hne).trans hq
theorem addr_ne_val {w : World} {p q : Addr} {x y : Value} (hp : w.cell? p = some x) (hq : w.cell? q = some y) (hne : x ≠ y) : p ≠ q := by
  rintro rfl; rw [hp] at hq; injection hq with e; exact hne e

/-- Of the first n rows none has its bytes in block b. -/
def FarRows (cs : Array Value) (n b : Nat) : Prop := ∀ (i : Nat) (A : Option Addr) (k c : Nat), i < n → cs[i]? = some (.slice A k c) → ∀ g o, A = some ⟨g, o, none⟩ → g ≠ b
theorem FarRows.set_ {cs : Array Value} {n b : Nat} (h : FarRows cs n b) (i : Nat) {A : Option Addr} {k c : Nat} (hA : ∀ g o, A = some ⟨g, o, none⟩ → g ≠ b) : FarRows (cs.setIfInBounds i (.slice A k c)) n b := by
  intro j A' k' c' hjn hj g o e
  rw [Array.getElem?_setIfInBounds] at hj
  by_cases hij : i = j
  · rw [if_pos hij] at hj
    split at hj
    · injection hj with hj
      injection hj with h1 h2 h3
      subst h1
      exact hA g o e
    · cases hj
  · rw [if_neg hij] at hj
    exact h j A' k' c' hjn hj g o e
/-- The struct elimination in block ge, its rows in block gr. -/
def Elim (w : World) (ge gr n cap : Nat) (pv : Value) (pr : UInt8) (cs : Array Value) (m : List (List UInt8)) (F : List Nat) : Prop :=
  Blk w ge 100 #[.slice (some ⟨gr, 0, none⟩) n cap, pv, B pr] ∧ RowsBlk w gr 22 cs m ∧ m.length = n ∧ ge ≠ gr ∧ ge ∈ F ∧ ∀ b ∈ F, b < w.heap.size ∧ FarRows cs n b

theorem Elim.kept {w w' : World} {ge gr n cap : Nat} {pv : Value} {pr : UInt8} {cs : Array Value} {m : List (List UInt8)} {F : List Nat} (h : Elim w ge gr n cap pv pr cs m F) (hb : Below w.heap.size w w') : Elim w' ge gr n cap pv pr cs m F :=
  ⟨h.1.kept hb, h.2.1.kept hb, h.2.2.1, h.2.2.2.1, h.2.2.2.2.1, fun b hb' => ⟨Nat.lt_of_lt_of_le (h.2.2.2.2.2 b hb').1 hb.size, (h.2.2.2.2.2 b hb').2⟩⟩
theorem Elim.setRow {w : World} {ge gr n cap : Nat} {pv : Value} {pr : UInt8} {cs : Array Value} {m : List (List UInt8)} {F : List Nat} (h : Elim w ge gr n cap pv pr cs m F) {i : Nat} (hi : i < n) {A : Option Addr} {k c : Nat} {l : List UInt8} (hl : BS w A k c l) (hA : ∀ g o, A = some ⟨g, o, none⟩ → g ∉ F) :
    Elim (w.setCell ⟨gr, i, none⟩ (.slice A k c)) ge gr n cap pv pr (cs.setIfInBounds i (.slice A k c)) (m.set i l) F :=
  ⟨h.1.far h.2.2.2.1 _, h.2.1.set_ (by rw [h.2.2.1]; exact hi) hl, by simp [h.2.2.1], h.2.2.2.1, h.2.2.2.2.1, fun b hb => ⟨by rw [World.size_setCell]; exact (h.2.2.2.2.2 b hb).1, (h.2.2.2.2.2 b hb).2.set_ i (fun g o e e' => hA g o e (e' ▸ hb))⟩⟩
theorem Elim.rowsCell {w : World} {ge gr n cap : Nat} {pv : Value} {pr : UInt8} {cs : Array Value} {m : List (List UInt8)} {F : List Nat} (h : Elim w ge gr n cap pv pr cs m F) : w.cell? ⟨ge, 0, none⟩ = some (.slice (some ⟨gr, 0, none⟩) n cap) := by
  rw [h.1.cell]; rfl
theorem Elim.pivCell {w : World} {ge gr n cap : Nat} {pv : Value} {pr : UInt8} {cs : Array Value} {m : List (List UInt8)} {F : List Nat} (h : Elim w ge gr n cap pv pr cs m F) : w.cell? ⟨ge, 1, none⟩ = some pv := by
  rw [h.1.cell]; rfl
theorem Elim.prodCell {w : World} {ge gr n cap : Nat} {pv : Value} {pr : UInt8} {cs : Array Value} {m : List (List UInt8)} {F : List Nat} (h : Elim w ge gr n cap pv pr cs m F) : w.cell? ⟨ge, 2, none⟩ = some (B pr) := by
  rw [h.1.cell]; rfl
theorem Elim.setProd {w : World} {ge gr n cap : Nat} {pv : Value} {pr : UInt8} {cs : Array Value} {m : List (List UInt8)} {F : List Nat} (h : Elim w ge gr n cap pv pr cs m F) (x : UInt8) :
    Elim (w.setCell ⟨ge, 2, none⟩ (B x)) ge gr n cap pv x cs m F := by
  refine ⟨h.1.set_ 2 _, ⟨h.2.1.1.far (Ne.symm h.2.2.2.1) _, h.2.1.2.1, fun i hi => ?_⟩, h.2.2.1, h.2.2.2.1, h.2.2.2.2.1, fun b hb => ⟨by rw [World.size_setCell]; exact (h.2.2.2.2.2 b hb).1, (h.2.2.2.2.2 b hb).2⟩⟩
  obtain ⟨A, k, c, e, hr⟩ := h.2.1.2.2 i hi
  exact ⟨A, k, c, e, hr.far (p := ⟨ge, 2, none⟩) (fun g o e' => (h.2.2.2.2.2 ge h.2.2.2.2.1).2 i A k c (by rw [← h.2.2.1]; exact hi) e g o e') _⟩
theorem Elim.setPiv {w : World} {ge gr n cap : Nat} {A : Option Addr} {np cp : Nat} {pr : UInt8} {cs : Array Value} {m : List (List UInt8)} {F : List Nat} (h : Elim w ge gr n cap (.slice A np cp) pr cs m F) (v : Value) :
    Elim (w.setCell ⟨ge, 1, none⟩ v) ge gr n cap v pr cs m F :=
  ⟨h.1.set_ 1 _, h.2.1.far (p := ⟨ge, 1, none⟩) (Ne.symm h.2.2.2.1) h.pivCell (fun b e => by cases e) _, h.2.2.1, h.2.2.2.1, h.2.2.2.2.1, fun b hb => ⟨by rw [World.size_setCell]; exact (h.2.2.2.2.2 b hb).1, (h.2.2.2.2.2 b hb).2⟩⟩
theorem Elim.row {w : World} {ge gr n cap : Nat} {pv : Value} {pr : UInt8} {cs : Array Value} {m : List (List UInt8)} {F : List Nat} (h : Elim w ge gr n cap pv pr cs m F) {L : Nat} (hL : Rect m L) {i : Nat} (hi : i < n) :
    ∃ A c, w.cell? ⟨gr, i, none⟩ = some (.slice A L c) ∧ BS w A L c (gR m i) := by
  obtain ⟨A, k, c, h1, h2⟩ := h.2.1.cell (i := i) (by rw [h.2.2.1]; exact hi)
  obtain rfl : k = L := by rw [← h2.1, hL i (by rw [h.2.2.1]; exact hi)]
  exact ⟨A, c, h1, h2⟩

def ClearPost (ge gr n cap : Nat) (pv : Value) (pr : UInt8) (m : List (List UInt8)) (F : List Nat) (w w' : World) : Prop :=
  ∃ cs, Elim w' ge gr n cap pv pr cs m F ∧ Kp (· = gr) w w'

set_option maxHeartbeats 1000000 in
theorem clear_any (ge gr n cap : Nat) (pv : Value) (pr : UInt8) (cs : Array Value) (m : List (List UInt8)) (F : List Nat) (L top col : Nat) (w : World) (h : Elim w ge gr n cap pv pr cs m F) (hL : Rect m L) (hLl : L ≤ 140737488355328) (hn : n ≤ 140737488355328)
    (ht : top < n) (hc : col < L) (hnz : gB (gR m top) col ≠ 0) :
    Calls Try.prog 94 #[.pointer (some ⟨ge, 0, none⟩), .int .i64 (top : Int), .int .i64 (col : Int)] w fun e w' => e = .returned (.tuple #[]) ∧ ClearPost ge gr n cap pv pr (clr m top col n) F w w' := by
  obtain ⟨A1, c1, hc1, hr1⟩ := h.row hL ht
  obtain ⟨g1, o1, rfl, hb1⟩ := hr1.at_ (Below.refl _ _) hc
  have ce := h.rowsCell
  have f1 := h.2.1.1.frozen top
  have HR1 := Lib.hid hr1
  have HE := Lib.hid h
  have hz' : (gB (gR m top) col == 0) = false := by simp [hnz]
  clear hr1 h hnz
  go_enter Try.func94, Try.ntmps94
  go_wp2_with (go_at_call 52; refine (inv_any _ hz' _).mono ?_; rintro e w' ⟨rfl, rfl⟩)
  refine Text.wp_region_text (fun w' => w'.cell? ⟨ge, 0, none⟩ = some (.slice (some ⟨gr, 0, none⟩) n cap)) [(0, 4), (1, 4), (2, 4), (4, 4), (5, 4), (6, 4), (7, 4), (9, 4), (12, 4), (3, 0), (8, 1), (10, 4), (11, 1), (13, 2), (14, 4), (15, 2)] (by kernel_rfl) (by kernel_rfl) (fun _ _ _ _ _ h => h) (ce) ?_
  iterate 9 (refine Text.purek rfl rfl (fun K hK => ⟨_, fun w' => by go_simp <;> rfl, ?_⟩); go_simp; refine hK _ ?_; clear hK K)
  (refine Text.heldk rfl rfl (fun K hK => ⟨_, fun w' hw' => by go_simp <;> rfl, ?_⟩); go_simp; refine hK _ ?_; clear hK K)
  (refine Text.readk rfl rfl (fun K hK => ⟨_, by go_simp <;> rfl, ?_⟩); go_simp; refine hK _ ?_; clear hK K)
  (refine Text.purek rfl rfl (fun K hK => ⟨_, fun w' => by go_simp <;> rfl, ?_⟩); go_simp; refine hK _ ?_; clear hK K)
  (refine Text.readk rfl rfl (fun K hK => ⟨_, by go_simp <;> rfl, ?_⟩); go_simp; refine hK _ ?_; clear hK K)
  refine Text.eff rfl rfl (fun K hK => ?_)
  go_simp
  refine (scale_any _ _ _ _ _ _ HR1.out.drew).mono ?_
  rintro e w2 ⟨v, rfl, g2, nn, rfl, hnn, hg2, hblk2, hbe2⟩
  obtain rfl : nn = L := by rw [← hnn, List.length_map, HR1.out.1]
  have hc2 := cell_kept (w := w.drew) hbe2 hc1
  have hf2 := (HE.out.2.1.1.drew.kept hbe2).frozen top
  have hce2 := cell_kept (w := w.drew) hbe2 ce
  have HN := Lib.hid hnn
  have HB2 := Lib.hid hblk2
  refine hK _ _ hce2 ?_
  clear hK K hnn hblk2
  (refine Text.purek rfl rfl (fun K hK => ⟨_, fun w' => by go_simp <;> rfl, ?_⟩); go_simp; refine hK _ ?_; clear hK K)
  refine Text.eff rfl rfl (fun K hK => ?_)
  go_simp
  obtain ⟨w3, hw3⟩ : ∃ w3, w3 = w2.setCell ⟨gr, top, none⟩ (.slice (some ⟨g2, 0, none⟩) nn nn) := ⟨_, rfl⟩
  have hI : ClearPost ge gr n cap pv pr (clr m top col 0) F w w3 := by
    have h3 := (HE.out.kept (w' := w2) (below_ofDrew hbe2)).setRow ht (BS.of_blk (l := prow m top col) HB2.out HN.out hLl) (fun g o e hF => by injection e with e; injection e with e; have := (HE.out.2.2.2.2.2 g hF).1; have : w.heap.size ≤ g2 := hg2; omega)
    rw [clr_zero _ _ _ (by rw [HE.out.2.2.1]; exact ht), ← hw3] at h3
    have h4 : Kp (· = gr) w w3 := by rw [hw3]; exact Kp.set (S := (· = gr)) (p := ⟨gr, top, none⟩) (Kp.of_below (below_ofDrew hbe2)) (.inl rfl) _
    exact ⟨_, h3, h4⟩
  rw [← hw3]
  have hce3 := hI.choose_spec.1.rowsCell
  refine hK _ _ hce3 ?_
  clear hK K hw3 hc2 hf2 hce2 hbe2 hb1 hc1 ce f1
  refine Text.done ?_
  go_wp2
  go_loopw [44] (fun i wr => ∃ k : Nat, k ≤ n ∧ i = .int .i64 (k : Int) ∧ ClearPost ge gr n cap pv pr (clr m top col k) F w wr) (fun i _ => n - (intOf i).toNat)
  case atStart => exact ⟨0, by omega, rfl, hI⟩
  case round =>
    obtain ⟨k, hk, rfl, cs', h1, hkp⟩ := hrel
    have hm0 := HE.out.2.2.1
    have hRk : Rect (clr m top col k) nn := clr_rect m nn top col k hL (by rw [hm0]; exact ht)
    have HM := Lib.hid hm0
    clear hm0 hce3 hI
    by_cases hlt : k < n
    · obtain ⟨A2, c2, hcr, hbr⟩ := h1.row hRk hlt
      obtain ⟨g3, o3, rfl, hcb⟩ := hbr.at_ (Below.refl _ _) hc
      rw [clr_get _ _ _ _ _ (by rw [HM.out]; exact hlt)] at hcb hbr
      by_cases hkt : k = top
      · have hd : ((k : Int) != (top : Int)) = false := by simp [hkt]
        have HR : Hid (ClearPost ge gr n cap pv pr (clr m top col (k + 1)) F w wr) := Lib.hid ⟨cs', by rw [← clr_skip m top col k (.inl hkt)]; exact h1, hkp⟩
        have HKT := Lib.hid hkt
        clear h1 hkp hbr hcb hkt
        go_wp2
        go_roundw
        case rel => exact ⟨k + 1, by omega, by go_num, HR.out⟩
        case measure => simp [intOf]; omega
      · have hd : ((k : Int) != (top : Int)) = true := by simp; omega
        have erow : clrow m top col k k = gR m k := by
          unfold clrow; rw [if_neg hkt, if_neg (fun x => absurd x.1 (by omega))]
        rw [erow] at hcb hbr
        clear erow
        by_cases hz : gB (gR m k) col = 0
        · have hz2 : (gB (gR m k) col != 0) = false := by simp [hz]
          have HR : Hid (ClearPost ge gr n cap pv pr (clr m top col (k + 1)) F w wr) := Lib.hid ⟨cs', by rw [← clr_skip m top col k (.inr hz)]; exact h1, hkp⟩
          clear h1 hkp hbr hz
          go_wp2
          go_roundw
          case rel => exact ⟨k + 1, by omega, by go_num, HR.out⟩
          case measure => simp [intOf]; omega
        · have hz2 : (gB (gR m k) col != 0) = true := by simp [hz]
          obtain ⟨A4, c4, hct, hbt⟩ := h1.row hRk ht
          rw [clr_get _ _ _ _ _ (by rw [HM.out]; exact ht)] at hbt
          have erow : clrow m top col k top = prow m top col := by unfold clrow; rw [if_pos rfl]
          rw [erow] at hbt
          have hce := h1.rowsCell
          have HS := Lib.hid (clr_set m top col k hkt hz)
          have H1 := Lib.hid h1
          have HKP := Lib.hid hkp
          have HBR := Lib.hid hbr
          have HBT := Lib.hid hbt
          have HKT := Lib.hid hkt
          clear h1 hkp hbr hbt hz erow hkt
          go_wp2
          refine Text.wp_region_text (fun w' => w'.cell? ⟨ge, 0, none⟩ = some (.slice (some ⟨gr, 0, none⟩) n cap)) [(0, 4), (1, 4), (2, 4), (4, 4), (5, 4), (6, 4), (7, 4), (8, 4), (10, 4), (13, 4), (14, 4), (15, 4), (3, 0), (9, 1), (11, 4), (12, 1), (16, 1), (17, 2), (18, 4), (19, 4), (20, 4), (21, 4), (22, 2)] (by kernel_rfl) (by kernel_rfl) (fun _ _ _ _ _ h => h) (hce) ?_
          iterate 12 (refine Text.purek rfl rfl (fun K hK => ⟨_, fun w' => by go_simp <;> rfl, ?_⟩); go_simp; refine hK _ ?_; clear hK K)
          (refine Text.heldk rfl rfl (fun K hK => ⟨_, fun w' hw' => by go_simp <;> rfl, ?_⟩); go_simp; refine hK _ ?_; clear hK K)
          (refine Text.readk rfl rfl (fun K hK => ⟨_, by go_simp <;> rfl, ?_⟩); go_simp; refine hK _ ?_; clear hK K)
          (refine Text.purek rfl rfl (fun K hK => ⟨_, fun w' => by go_simp <;> rfl, ?_⟩); go_simp; refine hK _ ?_; clear hK K)
          iterate 2 (refine Text.readk rfl rfl (fun K hK => ⟨_, by go_simp <;> rfl, ?_⟩); go_simp; refine hK _ ?_; clear hK K)
          refine Text.eff rfl rfl (fun K hK => ?_)
          go_simp
          refine (muladd_any _ _ _ _ _ _ _ _ _ HBR.out.drew HBT.out.drew).mono ?_
          rintro e w2 ⟨v, rfl, g5, nn5, rfl, hnn5, hg5, hblk5, hbe5⟩
          obtain rfl : nn5 = nn := by rw [← hnn5, muladd_length _ _ _ (by rw [HBR.out.1, HBT.out.1]), HBT.out.1]
          have hc5 := cell_kept (w := wr.drew) hbe5 hcr
          have hf5 := (H1.out.2.1.1.drew.kept hbe5).frozen k
          have hce5 := cell_kept (w := wr.drew) hbe5 hce
          have HN5 := Lib.hid hnn5
          have HB5 := Lib.hid hblk5
          refine hK _ _ hce5 ?_
          clear hK K hnn5 hblk5
          iterate 4 (refine Text.purek rfl rfl (fun K hK => ⟨_, fun w' => by go_simp <;> rfl, ?_⟩); go_simp; refine hK _ ?_; clear hK K)
          refine Text.eff rfl rfl (fun K hK => ?_)
          go_simp
          obtain ⟨w6, hw6⟩ : ∃ w6, w6 = w2.setCell ⟨gr, k, none⟩ (.slice (some ⟨g5, 0, none⟩) nn5 nn5) := ⟨_, rfl⟩
          have HR : Hid (ClearPost ge gr n cap pv pr (clr m top col (k + 1)) F w w6) := by
            have h3 := (H1.out.kept (w' := w2) (below_ofDrew hbe5)).setRow hlt (BS.of_blk HB5.out HN5.out hLl) (fun g o e hF => by injection e with e; injection e with e; have := (H1.out.2.2.2.2.2 g hF).1; have : wr.heap.size ≤ g5 := hg5; omega)
            rw [HS.out, ← hw6] at h3
            have h4 : Kp (· = gr) w w6 := by rw [hw6]; exact Kp.set (S := (· = gr)) (p := ⟨gr, k, none⟩) (HKP.out.then (below_ofDrew hbe5)) (.inl rfl) _
            exact Lib.hid ⟨_, h3, h4⟩
          rw [← hw6]
          have hce6 := HR.out.choose_spec.1.rowsCell
          refine hK _ _ hce6 ?_
          clear hK K hw6 hce6
          refine Text.done ?_
          go_wp2
          go_roundw
          case rel => exact ⟨k + 1, by omega, by go_num, HR.out⟩
          case measure => simp [intOf]; omega
    · obtain rfl : k = n := by omega
      have HR : Hid (ClearPost ge gr k cap pv pr (clr m top col k) F w wr) := Lib.hid ⟨cs', h1, hkp⟩
      clear h1 hkp
      go_wp2
      go_end0
      exact ⟨rfl, HR.out⟩
end Go.Proofs.Ytoeeklkebcgmaaa
/- Contracts of package matrix: the search for a pivot, reduce. -/
namespace Go.Proofs.Ytoeeklkebcgmaaa
open Go.RowKit Gf

attribute [local go_sem] Gf.xor_bits Gf.and_bits Gf.or_bits Gf.ne_zero_iff Gf.eq_zero_iff Gf.eq_one_iff Gf.beq_bytes Gf.bne_bytes Gf.bv_toNat

/-- The first row from top on that is not 0 in column col. -/
def pvF (m : List (List UInt8)) (top col : Nat) : Option Nat := (List.range m.length).find? (fun i => decide (top ≤ i) && (gB (gR m i) col != 0))
def pvI : Option Nat → Int
  | some k => (k : Int)
  | none => -1
theorem pvF_some {m : List (List UInt8)} {top col k : Nat} (h1 : top ≤ k) (h2 : k < m.length) (h3 : gB (gR m k) col ≠ 0) (h4 : ∀ j, top ≤ j → j < k → gB (gR m j) col = 0) : pvF m top col = some k := by
  unfold pvF
  rw [List.find?_range_eq_some]
  refine ⟨by simp [h1, h3], List.mem_range.2 h2, fun j hj => ?_⟩
  by_cases e : top ≤ j
  · simp [h4 j e hj]
  · simp [e]
theorem pvF_none {m : List (List UInt8)} {top col : Nat} (h4 : ∀ j, top ≤ j → j < m.length → gB (gR m j) col = 0) : pvF m top col = none := by
  unfold pvF
  rw [List.find?_eq_none]
  intro j hj
  have hj' := List.mem_range.1 hj
  by_cases e : top ≤ j
  · simp [h4 j e hj']
  · simp [e]
theorem pvF_spec {m : List (List UInt8)} {top col k : Nat} (h : pvF m top col = some k) : top ≤ k ∧ k < m.length ∧ gB (gR m k) col ≠ 0 := by
  unfold pvF at h
  rw [List.find?_range_eq_some] at h
  obtain ⟨h1, h2, _⟩ := h
  simp at h1
  exact ⟨h1.1, List.mem_range.1 h2, h1.2⟩

set_option maxHeartbeats 1000000 in
theorem find_any (gt gx gc ge gr n cap : Nat) (pv : Value) (pr : UInt8) (cs : Array Value) (m : List (List UInt8)) (F : List Nat) (L top col : Nat) (w : World) (h : Elim w ge gr n cap pv pr cs m F) (hL : Rect m L) (hn : n ≤ 140737488355328)
    (ht : top ≤ n) (hc : col < L) (ct : w.cell? ⟨gt, 0, none⟩ = some (.int .i64 (top : Int))) (cx : w.cell? ⟨gx, 0, none⟩ = some (.pointer (some ⟨ge, 0, none⟩))) (cc : w.cell? ⟨gc, 0, none⟩ = some (.int .i64 (col : Int))) :
    Calls Try.prog 93 #[.pointer (some ⟨gt, 0, none⟩), .pointer (some ⟨gx, 0, none⟩), .pointer (some ⟨gc, 0, none⟩)] w fun e w' => e = .returned (.int .i64 (pvI (pvF m top col))) ∧ ∃ q, w' = w.drewN q := by
  have ce := h.rowsCell
  have HE := Lib.hid h
  clear h
  go_enter Try.func93, Try.ntmps93
  go_wp2
  go_loopw [4] (fun i wr => ∃ k q : Nat, top ≤ k ∧ k ≤ n ∧ i = .int .i64 (k : Int) ∧ wr = w.drewN q ∧ Hid (∀ j, top ≤ j → j < k → gB (gR m j) col = 0)) (fun i _ => n - (intOf i).toNat)
  case atStart => exact ⟨top, 0, Nat.le_refl _, ht, rfl, rfl, Lib.hid (fun j h1 h2 => absurd h1 (by omega))⟩
  case round =>
    obtain ⟨k, q, hk1, hk, rfl, rfl, hz⟩ := hrel
    by_cases hlt : k < n
    · obtain ⟨A1, c1, hc1, hr1⟩ := HE.out.row hL hlt
      obtain ⟨g1, o1, rfl, hb1⟩ := hr1.at_ (Below.refl _ _) hc
      clear hr1
      by_cases hnz : gB (gR m k) col = 0
      · have hd : (gB (gR m k) col != 0) = false := by simp [hnz]
        have HR : Hid (∀ j, top ≤ j → j < k + 1 → gB (gR m j) col = 0) := Lib.hid (fun j h1 h2 => by
          by_cases e : j = k
          · rw [e]; exact hnz
          · exact hz.out j h1 (by omega))
        clear hnz
        go_wp2
        refine Text.wp_region_text (fun _ => True) [(4, 4), (0, 1), (1, 4), (2, 4), (3, 1), (5, 4), (6, 1), (7, 1), (8, 4), (9, 1), (10, 4)] (by kernel_rfl) (by kernel_rfl) (fun _ _ _ _ _ h => h) (trivial) ?_
        (refine Text.purek rfl rfl (fun K hK => ⟨_, fun w' => by go_simp <;> rfl, ?_⟩); go_simp; refine hK _ ?_; clear hK K)
        (refine Text.readk rfl rfl (fun K hK => ⟨_, by go_simp <;> rfl, ?_⟩); go_simp; refine hK _ ?_; clear hK K)
        iterate 2 (refine Text.purek rfl rfl (fun K hK => ⟨_, fun w' => by go_simp <;> rfl, ?_⟩); go_simp; refine hK _ ?_; clear hK K)
        (refine Text.readk rfl rfl (fun K hK => ⟨_, by go_simp <;> rfl, ?_⟩); go_simp; refine hK _ ?_; clear hK K)
        (refine Text.purek rfl rfl (fun K hK => ⟨_, fun w' => by go_simp <;> rfl, ?_⟩); go_simp; refine hK _ ?_; clear hK K)
        iterate 2 (refine Text.readk rfl rfl (fun K hK => ⟨_, by go_simp <;> rfl, ?_⟩); go_simp; refine hK _ ?_; clear hK K)
        (refine Text.purek rfl rfl (fun K hK => ⟨_, fun w' => by go_simp <;> rfl, ?_⟩); go_simp; refine hK _ ?_; clear hK K)
        (refine Text.readk rfl rfl (fun K hK => ⟨_, by go_simp <;> rfl, ?_⟩); go_simp; refine hK _ ?_; clear hK K)
        (refine Text.purek rfl rfl (fun K hK => ⟨_, fun w' => by go_simp <;> rfl, ?_⟩); go_simp; refine hK _ ?_; clear hK K)
        refine Text.done ?_
        go_wp2
        go_roundw
        case rel => exact ⟨k + 1, q + 1, by omega, by omega, by go_num, rfl, HR⟩
        case measure => simp [intOf]; omega
      · have hd : (gB (gR m k) col != 0) = true := by simp [hnz]
        have HR : Hid (pvF m top col = some k) := Lib.hid (pvF_some hk1 (by rw [HE.out.2.2.1]; exact hlt) hnz hz.out)
        clear hnz
        go_wp2
        refine Text.wp_region_text (fun _ => True) [(4, 4), (0, 1), (1, 4), (2, 4), (3, 1), (5, 4), (6, 1), (7, 1), (8, 4), (9, 1), (10, 4)] (by kernel_rfl) (by kernel_rfl) (fun _ _ _ _ _ h => h) (trivial) ?_
        (refine Text.purek rfl rfl (fun K hK => ⟨_, fun w' => by go_simp <;> rfl, ?_⟩); go_simp; refine hK _ ?_; clear hK K)
        (refine Text.readk rfl rfl (fun K hK => ⟨_, by go_simp <;> rfl, ?_⟩); go_simp; refine hK _ ?_; clear hK K)
        iterate 2 (refine Text.purek rfl rfl (fun K hK => ⟨_, fun w' => by go_simp <;> rfl, ?_⟩); go_simp; refine hK _ ?_; clear hK K)
        (refine Text.readk rfl rfl (fun K hK => ⟨_, by go_simp <;> rfl, ?_⟩); go_simp; refine hK _ ?_; clear hK K)
        (refine Text.purek rfl rfl (fun K hK => ⟨_, fun w' => by go_simp <;> rfl, ?_⟩); go_simp; refine hK _ ?_; clear hK K)
        iterate 2 (refine Text.readk rfl rfl (fun K hK => ⟨_, by go_simp <;> rfl, ?_⟩); go_simp; refine hK _ ?_; clear hK K)
        (refine Text.purek rfl rfl (fun K hK => ⟨_, fun w' => by go_simp <;> rfl, ?_⟩); go_simp; refine hK _ ?_; clear hK K)
        (refine Text.readk rfl rfl (fun K hK => ⟨_, by go_simp <;> rfl, ?_⟩); go_simp; refine hK _ ?_; clear hK K)
        (refine Text.purek rfl rfl (fun K hK => ⟨_, fun w' => by go_simp <;> rfl, ?_⟩); go_simp; refine hK _ ?_; clear hK K)
        refine Text.done ?_
        go_wp2
        go_ret
        exact ⟨by rw [HR.out]; rfl, q + 1, rfl⟩
    · have HR : Hid (pvF m top col = none) := Lib.hid (pvF_none (fun j h1 h2 => hz.out j h1 (by rw [HE.out.2.2.1] at h2; omega)))
      go_wp2
      go_ret
      exact ⟨by rw [HR.out]; rfl, q, rfl⟩
end Go.Proofs.Ytoeeklkebcgmaaa
/- Contracts of package matrix: reduce. -/
namespace Go.Proofs.Ytoeeklkebcgmaaa
open Go.RowKit Gf

attribute [local go_sem] Gf.xor_bits Gf.and_bits Gf.or_bits Gf.ne_zero_iff Gf.eq_zero_iff Gf.eq_one_iff Gf.beq_bytes Gf.bne_bytes Gf.bv_toNat

/-- Rows i and j exchanged. -/
def swp (m : List (List UInt8)) (i j : Nat) : List (List UInt8) := (m.set i (gR m j)).set j (gR m i)
theorem swp_length (m : List (List UInt8)) (i j : Nat) : (swp m i j).length = m.length := by simp [swp]
theorem swp_get (m : List (List UInt8)) (i j k : Nat) (hi : i < m.length) (hj : j < m.length) (hk : k < m.length) : gR (swp m i j) k = gR m (if k = j then i else if k = i then j else k) := by
  unfold swp
  by_cases e : k = j
  · subst e; rw [gR_set_self (by simpa using hk), if_pos rfl]
  · rw [gR_set_ne (Ne.symm e), if_neg e]
    by_cases e2 : k = i
    · subst e2; rw [gR_set_self hk, if_pos rfl]
    · rw [gR_set_ne (Ne.symm e2), if_neg e2]
theorem swp_rect (m : List (List UInt8)) (L i j : Nat) (hr : Rect m L) (hi : i < m.length) (hj : j < m.length) : Rect (swp m i j) L := by
  intro k hk
  rw [swp_length] at hk
  rw [swp_get m i j k hi hj hk]
  apply hr
  by_cases e : k = j
  · rw [if_pos e]; exact hi
  · rw [if_neg e]; by_cases e2 : k = i
    · rw [if_pos e2]; exact hj
    · rw [if_neg e2]; exact hk

/-- One column of reduce: the rows, and how many pivots there are. -/
def redS (m : List (List UInt8)) (np col : Nat) : List (List UInt8) × Nat :=
  match pvF m np col with
  | some f => (clr (swp m np f) np col m.length, np + 1)
  | none => (m, np)
def red (m : List (List UInt8)) : Nat → List (List UInt8) × Nat
  | 0 => (m, 0)
  | k + 1 => redS (red m k).1 (red m k).2 k

theorem Elim.drew {w : World} {ge gr n cap : Nat} {pv : Value} {pr : UInt8} {cs : Array Value} {m : List (List UInt8)} {F : List Nat} (h : Elim w ge gr n cap pv pr cs m F) : Elim w.drew ge gr n cap pv pr cs m F := h
theorem Kp.ofDrew {S : Nat → Prop} {w w' : World} (h : Kp S w.drew w') : Kp S w w' := ⟨h.os, h.tape, h.output, h.size, h.block⟩
theorem redS_none {m : List (List UInt8)} {np col : Nat} (h : pvF m np col = none) : redS m np col = (m, np) := by unfold redS; rw [h]
theorem redS_some {m : List (List UInt8)} {np col f : Nat} (h : pvF m np col = some f) : redS m np col = (clr (swp m np f) np col m.length, np + 1) := by unfold redS; rw [h]

theorem own_form {w : World} {base : Nat} {e : TypeId} {n : Nat} {v : Value} {xs : List Value} (h : w.ownsRow base e 1 v n xs) (hn : 0 < n) : ∃ g cap, v = .slice (some ⟨g, 0, none⟩) n cap ∧ base ≤ g := by
  rcases h.2 with ⟨_, rfl⟩ | ⟨g, cap, cur, rfl, hb, _⟩
  · omega
  · exact ⟨g, cap, rfl, hb⟩

def RedI (ge gr n cap L : Nat) (m0 : List (List UInt8)) (gx B0 k : Nat) (w wr : World) : Prop :=
  ∃ m np Ap cp pr cs piv, red m0 k = (m, np) ∧ Elim wr ge gr n cap (.slice Ap np cp) pr cs m (ge :: (Value.slice Ap np cp).ownBlock.toList) ∧ Rect m L ∧ np ≤ n ∧ wr.ownsRow B0 3 1 (.slice Ap np cp) np piv ∧
    Blk wr gx 96 #[.pointer (some ⟨ge, 0, none⟩)] ∧ Kp (fun k => k = gr ∨ k = ge) w wr ∧ B0 < wr.heap.size

def RedPost (ge gr n cap L : Nat) (m0 : List (List UInt8)) (k : Nat) (w w' : World) : Prop :=
  ∃ m np Ap cp pr cs F, red m0 k = (m, np) ∧ Elim w' ge gr n cap (.slice Ap np cp) pr cs m F ∧ Rect m L ∧ np ≤ n ∧ Kp (fun k => k = gr ∨ k = ge) w w'

theorem HKP13 {S : Nat → Prop} {w w1 w2 : World} (h : Below w.heap.size w w1) (k : Kp S w1 w2) : Kp S w w2 := (Kp.of_below h).trans k
theorem kp_gr {ge gr : Nat} {w w' : World} (h : Kp (· = gr) w w') : Kp (fun k => k = gr ∨ k = ge) w w' := h.mono (fun _ _ e => .inl e)

set_option maxHeartbeats 4000000 in
theorem reduce_any (ge gr n cap : Nat) (pr : UInt8) (cs : Array Value) (m0 : List (List UInt8)) (L cols : Nat) (w : World) (h : Elim w ge gr n cap (.slice none 0 0) pr cs m0 [ge]) (hL : Rect m0 L) (hLl : L ≤ 140737488355328) (hn : n ≤ 1000) (hcols : cols ≤ L) :
    Calls Try.prog 84 #[.pointer (some ⟨ge, 0, none⟩), .int .i64 (cols : Int)] w fun e w' => e = .returned (.tuple #[]) ∧ RedPost ge gr n cap L m0 cols w w' := by
  have hmf : ∀ (fn : Fn) (first cap : Array Value) (w : World), (Instr.makeFunc fn first cap).run Try.prog w = .ok (.func fn first cap) w := fun _ _ _ _ => rfl
  have hge := h.1.lt
  have hgr := h.2.1.1.lt
  have HE0 := Lib.hid h
  clear h
  go_enter Try.func84, Try.ntmps84
  go_wp2
  go_step3
  go_wp2
  go_step3
  go_wp2
  go_loopw [9] (fun i wr => ∃ k : Nat, k ≤ cols ∧ i = .int .i64 (k : Int) ∧ RedI ge gr n cap L m0 w.heap.size w.heap.size k w wr) (fun i _ => cols - (intOf i).toNat)
  case atStart =>
    refine ⟨0, by omega, rfl, m0, 0, none, 0, pr, cs, [], rfl, HE0.out.kept ((Below.refl _ _).alloc (Nat.le_refl _) _), hL, by omega, World.ownsRow_nil _ _ _ _, Blk.new _ _ _, (Kp.refl _ _).alloc _, by simp⟩
  case round =>
    obtain ⟨k, hk, rfl, m, np, Ap, cp, pr1, cs1, piv, hred, hE, hR, hnp, hown, hbx, hkp, hsz⟩ := hrel
    by_cases hlt : k < cols
    · have cx := hbx.cell 0
      have cp1 := hE.pivCell
      have hge1 := hE.1.lt
      have hbel : Below wr.heap.size wr ((wr.alloc (.cells #[.int .i64 (k : Int)] 3)).alloc (.cells #[.int .i64 (np : Int)] 3)) :=
        ((Below.refl _ _).alloc (Nat.le_refl _) _).alloc (by simp) _
      have HBEL := Lib.hid hbel
      have HE := Lib.hid hE
      have HOWN := Lib.hid hown
      have HBX := Lib.hid hbx
      have HKP := Lib.hid hkp
      have HRED := Lib.hid hred
      have hcx : wr.cell? ⟨w.heap.size, 0, none⟩ = some (.pointer (some ⟨ge, 0, none⟩)) := cx
      clear hE hown hbx hkp hred cx hbel
      go_wp2_with fail
      have ctt : ((wr.alloc (.cells #[.int .i64 (k : Int)] 3)).alloc (.cells #[.int .i64 (np : Int)] 3)).cell? ⟨wr.heap.size + 1, 0, none⟩ = some (.int .i64 (np : Int)) := by
        rw [World.cell?_alloc_at _ _ _ _ (by simp)]; rfl
      have ccc : ((wr.alloc (.cells #[.int .i64 (k : Int)] 3)).alloc (.cells #[.int .i64 (np : Int)] 3)).cell? ⟨wr.heap.size, 0, none⟩ = some (.int .i64 (k : Int)) := by
        rw [World.cell?_alloc_past _ _ _ (by simp), World.cell?_alloc_at _ _ _ _ rfl]; rfl
      refine (find_any (wr.heap.size + 1) w.heap.size wr.heap.size ge gr n cap _ pr1 cs1 m _ L np k _ (HE.out.kept HBEL.out) hR (by omega) hnp (by omega) ctt (cell_kept HBEL.out hcx) ccc).mono ?_
      rintro e w3 ⟨rfl, q, hw3⟩
      have hb3 : Below wr.heap.size wr w3 := by rw [hw3]; exact below_drewN HBEL.out q
      have ct3 : w3.cell? ⟨wr.heap.size + 1, 0, none⟩ = some (.int .i64 (np : Int)) := by rw [hw3]; exact ctt
      have cc3 : w3.cell? ⟨wr.heap.size, 0, none⟩ = some (.int .i64 (k : Int)) := by rw [hw3]; exact ccc
      have hs3 : w3.heap.size = wr.heap.size + 2 := by rw [hw3, size_drewN]; simp
      have HS3 := Lib.hid hs3
      have HB3 := Lib.hid hb3
      clear hw3 ctt ccc hs3 hb3
      cases hpv : pvF m np k with
      | none =>
        have HR2 : Hid (RedI ge gr n cap L m0 w.heap.size w.heap.size (k + 1) w w3) := by
          refine Lib.hid ⟨m, np, Ap, cp, pr1, cs1, piv, ?_, HE.out.kept HB3.out, hR, hnp, ?_, HBX.out.kept HB3.out, HKP.out.then HB3.out, by rw [HS3.out]; omega⟩
          · show redS (red m0 k).1 (red m0 k).2 k = _
            rw [HRED.out]; exact redS_none hpv
          · exact HOWN.out.kept ⟨HB3.out.os, HB3.out.tape, HB3.out.output, HB3.out.size, fun i hi _ => HB3.out.block i hi⟩ (row := none) (by cases Ap <;> simp [Value.ownBlock])
        simp only [pvI]
        clear hpv hcx ct3 cc3 cp1
        go_wp2
        go_roundw
        case rel => exact ⟨k + 1, by omega, by go_num, HR2.out⟩
        case measure => simp [intOf]; omega
      | some f =>
        obtain ⟨hf1, hf2, hf3⟩ := pvF_spec hpv
        rw [HE.out.2.2.1] at hf2
        simp only [pvI]
        have HPV := Lib.hid hpv
        have HF3 := Lib.hid hf3
        have HE3 := Lib.hid (HE.out.kept HB3.out)
        have hnp2 : np < n := by omega
        obtain ⟨AF, cF, hcF, hrF⟩ := HE3.out.row hR hf2
        obtain ⟨AT, cT, hcT, hrT⟩ := HE3.out.row hR hnp2
        have HRF := Lib.hid hrF
        have HRT := Lib.hid hrT
        have ce3 := HE3.out.rowsCell
        have cx3 := cell_kept HB3.out hcx
        have fT := HE3.out.2.1.1.frozen np
        have fF := HE3.out.2.1.1.frozen f
        have q0 : ¬ ((f : Int) < 0) := by omega
        clear hpv hf3 hrF hrT cp1 hcx
        go_wp2
        refine Text.wp_region_text (fun _ => True) [(9, 4), (14, 4), (0, 1), (1, 4), (2, 4), (3, 1), (4, 1), (5, 1), (6, 4), (7, 4), (8, 1), (10, 1), (11, 4), (12, 4), (13, 1), (15, 4), (16, 1), (17, 1), (18, 4), (19, 4), (20, 1), (21, 1), (22, 4), (23, 1), (24, 4), (25, 2), (26, 4), (27, 2)] (by kernel_rfl) (by kernel_rfl) (fun _ _ _ _ _ h => h) (trivial) ?_
        iterate 2 (refine Text.purek rfl rfl (fun K hK => ⟨_, fun w' => by go_simp <;> rfl, ?_⟩); go_simp; refine hK _ ?_; clear hK K)
        (refine Text.readk rfl rfl (fun K hK => ⟨_, by go_simp <;> rfl, ?_⟩); go_simp; refine hK _ ?_; clear hK K)
        iterate 2 (refine Text.purek rfl rfl (fun K hK => ⟨_, fun w' => by go_simp <;> rfl, ?_⟩); go_simp; refine hK _ ?_; clear hK K)
        iterate 3 (refine Text.readk rfl rfl (fun K hK => ⟨_, by go_simp <;> rfl, ?_⟩); go_simp; refine hK _ ?_; clear hK K)
        iterate 2 (refine Text.purek rfl rfl (fun K hK => ⟨_, fun w' => by go_simp <;> rfl, ?_⟩); go_simp; refine hK _ ?_; clear hK K)
        iterate 2 (refine Text.readk rfl rfl (fun K hK => ⟨_, by go_simp <;> rfl, ?_⟩); go_simp; refine hK _ ?_; clear hK K)
        iterate 2 (refine Text.purek rfl rfl (fun K hK => ⟨_, fun w' => by go_simp <;> rfl, ?_⟩); go_simp; refine hK _ ?_; clear hK K)
        (refine Text.readk rfl rfl (fun K hK => ⟨_, by go_simp <;> rfl, ?_⟩); go_simp; refine hK _ ?_; clear hK K)
        (refine Text.purek rfl rfl (fun K hK => ⟨_, fun w' => by go_simp <;> rfl, ?_⟩); go_simp; refine hK _ ?_; clear hK K)
        iterate 2 (refine Text.readk rfl rfl (fun K hK => ⟨_, by go_simp <;> rfl, ?_⟩); go_simp; refine hK _ ?_; clear hK K)
        iterate 2 (refine Text.purek rfl rfl (fun K hK => ⟨_, fun w' => by go_simp <;> rfl, ?_⟩); go_simp; refine hK _ ?_; clear hK K)
        iterate 2 (refine Text.readk rfl rfl (fun K hK => ⟨_, by go_simp <;> rfl, ?_⟩); go_simp; refine hK _ ?_; clear hK K)
        (refine Text.purek rfl rfl (fun K hK => ⟨_, fun w' => by go_simp <;> rfl, ?_⟩); go_simp; refine hK _ ?_; clear hK K)
        (refine Text.readk rfl rfl (fun K hK => ⟨_, by go_simp <;> rfl, ?_⟩); go_simp; refine hK _ ?_; clear hK K)
        (refine Text.purek rfl rfl (fun K hK => ⟨_, fun w' => by go_simp <;> rfl, ?_⟩); go_simp; refine hK _ ?_; clear hK K)
        refine Text.eff rfl rfl (fun K hK => ?_)
        go_simp
        obtain ⟨w9, hw9⟩ : ∃ w9, w9 = w3.setCell ⟨gr, np, none⟩ (.slice AF L cF) := ⟨_, rfl⟩
        have hcsF : cs1[f]? = some (.slice AF L cF) := by rw [← HE3.out.2.1.1.cell]; exact hcF
        have hcsT : cs1[np]? = some (.slice AT L cT) := by rw [← HE3.out.2.1.1.cell]; exact hcT
        have HE9 := Lib.hid (HE3.out.setRow hnp2 HRF.out (fun g o e hF => (HE3.out.2.2.2.2.2 g hF).2 f AF L cF hf2 hcsF g o e rfl))
        have HRT9 := Lib.hid (HRT.out.store hcT (.slice AF L cF))
        have HK9 : Hid (Kp (fun k => k = gr ∨ k = ge) w3 w9) := by rw [hw9]; exact Lib.hid (Kp.set (p := ⟨gr, np, none⟩) (Kp.refl _ _) (.inl (.inl rfl)) _)
        rw [← hw9] at HE9 HRT9 ⊢
        obtain ⟨A8, n8, c8, hc8, _⟩ := HE9.out.2.1.cell (i := f) (by rw [HE9.out.2.2.1]; exact hf2)
        have f8 := HE9.out.2.1.1.frozen f
        refine hK _ _ trivial ?_
        clear hK K hw9 hcF hcT fT fF
        (refine Text.purek rfl rfl (fun K hK => ⟨_, fun w' => by go_simp <;> rfl, ?_⟩); go_simp; refine hK _ ?_; clear hK K)
        refine Text.eff rfl rfl (fun K hK => ?_)
        go_simp
        obtain ⟨w10, hw10⟩ : ∃ w10, w10 = w9.setCell ⟨gr, f, none⟩ (.slice AT L cT) := ⟨_, rfl⟩
        have HE10 := Lib.hid (HE9.out.setRow hf2 HRT9.out (fun g o e hF => (HE3.out.2.2.2.2.2 g hF).2 np AT L cT hnp2 hcsT g o e rfl))
        have HK10 : Hid (Kp (fun k => k = gr ∨ k = ge) w3 w10) := by rw [hw10]; exact Lib.hid (Kp.set (p := ⟨gr, f, none⟩) HK9.out (.inl (.inl rfl)) _)
        rw [← hw10] at HE10 ⊢
        refine hK _ _ trivial ?_
        clear hK K hw10 hc8 f8 HE9 HRT9 HK9 hcsF hcsT ce3
        refine Text.done ?_
        have hml : m.length = n := HE.out.2.2.1
        have HML := Lib.hid hml
        have hR10 : Rect (swp m np f) L := swp_rect m L np f hR (by rw [hml]; exact hnp2) (by rw [hml]; exact hf2)
        have hg10 : gR (swp m np f) np = gR m f := by
          rw [swp_get m np f np (by rw [hml]; exact hnp2) (by rw [hml]; exact hf2) (by rw [hml]; exact hnp2)]
          by_cases e : np = f
          · rw [if_pos e, e]
          · rw [if_neg e, if_pos rfl]
        have HG10 : Hid (gB (gR (swp m np f) np) k ≠ 0) := by rw [hg10]; exact HF3
        have HE10' : Hid (Elim w10 ge gr n cap (.slice Ap np cp) pr1 _ (swp m np f) _) := HE10
        obtain ⟨AP, cP, hcP, hrP⟩ := HE10'.out.row hR10 hnp2
        obtain ⟨gp, op, rfl, hbP⟩ := hrP.at_ (Below.refl _ _) (show k < L by omega)
        have hkL : k < L := by omega
        have hgr1 := HE.out.2.1.1.lt
        have n1 : ¬ (wr.heap.size + 1 = gr ∨ wr.heap.size + 1 = ge) := by omega
        have n2 : ¬ (wr.heap.size = gr ∨ wr.heap.size = ge) := by omega
        have n3 : ¬ (w.heap.size = gr ∨ w.heap.size = ge) := by omega
        have ct10 := HK10.out.cell ct3 n1
        have cc10 := HK10.out.cell cc3 n2
        have cx10 := HK10.out.cell cx3 n3
        have ce10 := HE10'.out.rowsCell
        have cr10 := HE10'.out.prodCell
        have fr10 := HE10'.out.1.frozen 2
        clear hml hg10 hrP ct3 cc3 cx3
        go_wp2
        refine Text.wp_region_text (fun w' => w'.cell? ⟨w.heap.size, 0, none⟩ = some (.pointer (some ⟨ge, 0, none⟩))) [(0, 0), (1, 1), (2, 4), (3, 4), (4, 1), (5, 1), (6, 4), (7, 4), (8, 1), (9, 1), (10, 4), (11, 1), (12, 1), (13, 4), (14, 1), (15, 1), (16, 4), (17, 4), (18, 2)] (by kernel_rfl) (by kernel_rfl) (fun _ _ _ _ _ h => h) (cx10) ?_
        (refine Text.heldk rfl rfl (fun K hK => ⟨_, fun w' hw' => by go_simp <;> rfl, ?_⟩); go_simp; refine hK _ ?_; clear hK K)
        (refine Text.readk rfl rfl (fun K hK => ⟨_, by go_simp <;> rfl, ?_⟩); go_simp; refine hK _ ?_; clear hK K)
        iterate 2 (refine Text.purek rfl rfl (fun K hK => ⟨_, fun w' => by go_simp <;> rfl, ?_⟩); go_simp; refine hK _ ?_; clear hK K)
        iterate 2 (refine Text.readk rfl rfl (fun K hK => ⟨_, by go_simp <;> rfl, ?_⟩); go_simp; refine hK _ ?_; clear hK K)
        iterate 2 (refine Text.purek rfl rfl (fun K hK => ⟨_, fun w' => by go_simp <;> rfl, ?_⟩); go_simp; refine hK _ ?_; clear hK K)
        iterate 2 (refine Text.readk rfl rfl (fun K hK => ⟨_, by go_simp <;> rfl, ?_⟩); go_simp; refine hK _ ?_; clear hK K)
        (refine Text.purek rfl rfl (fun K hK => ⟨_, fun w' => by go_simp <;> rfl, ?_⟩); go_simp; refine hK _ ?_; clear hK K)
        iterate 2 (refine Text.readk rfl rfl (fun K hK => ⟨_, by go_simp <;> rfl, ?_⟩); go_simp; refine hK _ ?_; clear hK K)
        (refine Text.purek rfl rfl (fun K hK => ⟨_, fun w' => by go_simp <;> rfl, ?_⟩); go_simp; refine hK _ ?_; clear hK K)
        (refine Text.readk rfl rfl (fun K hK => ⟨_, by go_simp <;> rfl, ?_⟩); go_simp; refine hK _ ?_; clear hK K)
        refine Text.quietk rfl rfl (fun K hK => ?_)
        refine ⟨_, _, _, by go_simp <;> rfl, mul_any pr1 (gB (gR (swp m np f) np) k) _, ?_⟩
        go_simp
        refine hK _ ?_
        clear hK K
        iterate 2 (refine Text.purek rfl rfl (fun K hK => ⟨_, fun w' => by go_simp <;> rfl, ?_⟩); go_simp; refine hK _ ?_; clear hK K)
        refine Text.eff rfl rfl (fun K hK => ?_)
        go_simp
        obtain ⟨w12, hw12⟩ : ∃ w12, w12 = w10.setCell ⟨ge, 2, none⟩ (B (mul pr1 (gB (gR (swp m np f) np) k))) := ⟨_, rfl⟩
        have HE12 := Lib.hid (HE10'.out.setProd (mul pr1 (gB (gR (swp m np f) np) k)))
        have HK12 : Hid (Kp (fun k => k = gr ∨ k = ge) w3 w12) := by rw [hw12]; exact Lib.hid (Kp.set (p := ⟨ge, 2, none⟩) HK10.out (.inl (.inr rfl)) _)
        have cx12 : w12.cell? ⟨w.heap.size, 0, none⟩ = some (.pointer (some ⟨ge, 0, none⟩)) := by rw [hw12]; exact cell_set_ne cx10 (by simp <;> omega)
        have ct12 : w12.cell? ⟨wr.heap.size + 1, 0, none⟩ = some (.int .i64 (np : Int)) := by rw [hw12]; exact cell_set_ne ct10 (by simp <;> omega)
        have cc12 : w12.cell? ⟨wr.heap.size, 0, none⟩ = some (.int .i64 (k : Int)) := by rw [hw12]; exact cell_set_ne cc10 (by simp <;> omega)
        have hgoalw : w10.setCell ⟨ge, 2, none⟩ (.int .u8 (bv (mul pr1 (gB (gR (swp m np f) np) k)))) = w12 := hw12.symm
        rw [hgoalw]
        rw [← hw12] at HE12
        refine hK _ _ cx12 ?_
        clear hK K hw12 hgoalw ct10 cc10 cx10 ce10 cr10 fr10 hcP hbP HE10 HE10' HK10
        refine Text.done ?_
        have hLk : k < L := by omega
        go_wp2_with (go_at_call 94; refine (clear_any ge gr n cap _ _ _ _ _ L np k _ HE12.out.drew.drew hR10 hLl (by omega) hnp2 hLk HG10.out).mono ?_; rintro e w13 ⟨rfl, cs13, hE13, hK13⟩)
        have HK13 : Hid (Kp (fun k => k = gr ∨ k = ge) w3 w13) := Lib.hid (HK12.out.trans (kp_gr hK13.ofDrew.ofDrew))
        have n4 : ¬ w.heap.size = gr := by omega
        have n5 : ¬ wr.heap.size = gr := by omega
        have cx13 := hK13.ofDrew.ofDrew.cell cx12 n4
        have cc13 := hK13.ofDrew.ofDrew.cell cc12 n5
        have cp13 := hE13.pivCell
        have fp13 := hE13.1.frozen 1
        have hown13 : w13.ownsRow w.heap.size 3 1 (.slice Ap np cp) np piv := by
          refine (HKP13 HB3.out HK13.out).own HOWN.out (fun g hg e => ?_)
          rcases e with rfl | rfl
          · exact own_ne HOWN.out HE.out.2.1.1 (by decide) hg
          · exact own_ne HOWN.out HE.out.1 (by decide) hg
        have HE13 := Lib.hid hE13
        have HOWN13 := Lib.hid hown13
        clear hE13 hK13 hown13 cx12 cc12 ct12
        refine Text.wp_region_text (fun w' => w'.cell? ⟨w.heap.size, 0, none⟩ = some (.pointer (some ⟨ge, 0, none⟩)) ∧ w'.cell? ⟨ge, 1, none⟩ = some (.slice Ap np cp) ∧ w'.cell? ⟨wr.heap.size, 0, none⟩ = some (.int .i64 (k : Int))) [(0, 0), (1, 0), (2, 4), (3, 4), (4, 0), (5, 0), (6, 2), (7, 2), (8, 4), (9, 4), (10, 3)] (by kernel_rfl) (by kernel_rfl) (fun _ _ _ _ _ h => h) (⟨cx13, cp13, cc13⟩) ?_
        iterate 2 (refine Text.heldk rfl rfl (fun K hK => ⟨_, fun w' hw' => by go_simp <;> rfl, ?_⟩); go_simp; refine hK _ ?_; clear hK K)
        iterate 2 (refine Text.purek rfl rfl (fun K hK => ⟨_, fun w' => by go_simp <;> rfl, ?_⟩); go_simp; refine hK _ ?_; clear hK K)
        iterate 2 (refine Text.heldk rfl rfl (fun K hK => ⟨_, fun w' hw' => by go_simp <;> rfl, ?_⟩); go_simp; refine hK _ ?_; clear hK K)
        refine Text.eff rfl rfl (fun K hK => ?_)
        go_simp
        obtain ⟨wA, hwA⟩ : ∃ wA, wA = (w13.alloc (.cells #[.int .i64 (k : Int)] 3)).drew := ⟨_, rfl⟩
        have HBA : Hid (Below w13.heap.size w13 wA) := by rw [hwA]; exact Lib.hid ((Below.refl _ _).alloc (Nat.le_refl _) _).drew
        have HLA : Hid (Blk wA w13.heap.size 3 #[.int .i64 (k : Int)]) := by rw [hwA]; exact Lib.hid (Blk.new w13 _ _)
        have HOWNA := Lib.hid (Kp.own (S := fun _ => False) (Kp.of_below HBA.out) HOWN13.out (fun _ _ => id))
        rw [← hwA]
        refine hK _ _ ⟨cell_kept HBA.out cx13, cell_kept HBA.out cp13, cell_kept HBA.out cc13⟩ ?_
        clear hK K hwA
        refine Text.eff rfl rfl (fun K hK => ?_)
        have hszw : w.heap.size ≤ wA.heap.size := by
          have h1 := HKP.out.size; have h2 := HB3.out.size; have h3 := HK13.out.size; have h4 := HBA.out.size; omega
        refine wp_app1 wA (.tmp 74) (.tmp 76) 37 3 (.int .i64 0) 8 Try.underlying37 infoInt rfl rfl w.heap.size (.slice Ap np cp) np piv rfl HOWNA.out w13.heap.size 1 3 (.int .i64 (k : Int)) rfl HLA.out rfl (by omega) (by omega) hszw ?_
        rintro v' w15 ⟨ho15, hg15, hat15⟩
        obtain ⟨g15, c15, rfl, hgb15⟩ := own_form ho15 (by omega)
        have hEA := HE13.out.kept HBA.out
        have b1 : (Value.slice Ap np cp).ownBlock ≠ some ge := own_ne HOWNA.out hEA.1 (by decide)
        have b2 : (Value.slice Ap np cp).ownBlock ≠ some gr := own_ne HOWNA.out hEA.2.1.1 (by decide)
        have hbxA : Blk wA w.heap.size 96 #[.pointer (some ⟨ge, 0, none⟩)] :=
          ((HKP13 HB3.out HK13.out).blk HBX.out n3).kept HBA.out
        have b3 : (Value.slice Ap np cp).ownBlock ≠ some w.heap.size := own_ne HOWNA.out hbxA (by decide)
        have hK15 : Kp (fun b => (Value.slice Ap np cp).ownBlock = some b) wA w15 := (Kp.refl _ _).grown hg15 (fun k e => .inl e)
        have hrows15 : RowsBlk w15 gr 22 cs13 (clr (swp m np f) np k n) := by
          refine ⟨hK15.blk hEA.2.1.1 b2, hEA.2.1.2.1, fun i hi => ?_⟩
          obtain ⟨A, k', c, e, hr⟩ := hEA.2.1.2.2 i hi
          refine ⟨A, k', c, e, hr.1, hr.2.1, hr.2.2.1, fun k2 hk2 => ?_⟩
          obtain ⟨g, o, e', hc⟩ := hr.2.2.2 k2 hk2
          refine ⟨g, o, e', hK15.cell hc (fun hS => ?_)⟩
          exact (hEA.2.2.2.2.2 g (by rw [hS]; simp)).2 i A k' c (by rw [← hEA.2.2.1]; exact hi) e g o e' rfl
        have hgF : FarRows cs13 n g15 := by
          rcases hat15 with e | e
          · exact (hEA.2.2.2.2.2 g15 (by rw [← e]; simp [Value.ownBlock])).2
          · intro i A k' c hi hci g o e' hgg
            have e1 : g15 = wA.heap.size := by simpa [Value.ownBlock] using e
            have hil : i < (clr (swp m np f) np k n).length := by rw [hEA.2.2.1]; exact hi
            obtain ⟨A2, k2, c2, hci2, hr2⟩ := hEA.2.1.2.2 i hil
            rw [hci2] at hci
            injection hci with hci
            injection hci with a1 a2 a3
            subst a1
            have hk2 : k2 = L := by rw [← hr2.1]; exact clr_rect (swp m np f) L np k n hR10 (by rw [swp_length, HML.out]; exact hnp2) i hil
            obtain ⟨g', o', e2, hc2⟩ := hr2.2.2.2 0 (by omega)
            rw [e'] at e2
            injection e2 with e2
            injection e2 with e2
            have := cell_lt hc2
            simp only at this
            omega
        have hsz15 : wA.heap.size ≤ w15.heap.size := hg15.size
        have hg15lt : g15 < w15.heap.size := (ho15.lt g15 rfl).2
        have hE15 : Elim w15 ge gr n cap (.slice Ap np cp) (mul pr1 (gB (gR (swp m np f) np) k)) cs13 (clr (swp m np f) np k n) [ge, g15] := by
          refine ⟨hK15.blk hEA.1 b1, hrows15, hEA.2.2.1, hEA.2.2.2.1, by simp, fun b hb => ?_⟩
          simp only [List.mem_cons, List.not_mem_nil, or_false] at hb
          rcases hb with rfl | rfl
          · exact ⟨Nat.lt_of_lt_of_le (hEA.2.2.2.2.2 b (by simp)).1 hsz15, (hEA.2.2.2.2.2 b (by simp)).2⟩
          · exact ⟨hg15lt, hgF⟩
        have cx15 := hK15.cell (cell_kept HBA.out cx13) b3
        have n6 : (Value.slice Ap np cp).ownBlock ≠ some wr.heap.size := by
          intro e
          have hb := HOWN.out.lt _ e
          omega
        have cc15 := hK15.cell (cell_kept HBA.out cc13) n6
        have cp15 := hE15.pivCell
        have fp15 := hE15.1.frozen 1
        have HE16 := Lib.hid (hE15.setPiv (.slice (some ⟨g15, 0, none⟩) (np + 1) c15))
        have HR2 : Hid (RedI ge gr n cap L m0 w.heap.size w.heap.size (k + 1) w (w15.setCell ⟨ge, 1, none⟩ (.slice (some ⟨g15, 0, none⟩) (np + 1) c15))) := by
          refine Lib.hid ⟨clr (swp m np f) np k n, np + 1, some ⟨g15, 0, none⟩, c15, _, cs13, piv ++ [.int .i64 (k : Int)], ?_, HE16.out, clr_rect (swp m np f) L np k n hR10 (by rw [swp_length, HML.out]; exact hnp2), by omega, ?_, ?_, ?_, ?_⟩
          · show redS (red m0 k).1 (red m0 k).2 k = _
            rw [HRED.out, redS_some HPV.out, HML.out]
          · refine Kp.own (S := fun b => b = ge) (Kp.set (S := fun b => b = ge) (p := ⟨ge, 1, none⟩) (Kp.refl _ _) (.inl rfl) _) ho15 (fun g hg e => ?_)
            subst e
            exact own_ne ho15 hE15.1 (by decide) hg
          · exact (hK15.blk hbxA b3).far (by simp; omega) _
          · refine Kp.set (p := ⟨ge, 1, none⟩) ?_ (.inl (.inr rfl)) _
            refine (HKP.out.trans (((HKP13 HB3.out HK13.out).then HBA.out))).grown hg15 (fun b hb => .inr ?_)
            exact own_base HOWNA.out b hb
          · rw [World.size_setCell]; omega
        clear hrows15 hgF hEA hbxA hK15 ho15 hg15 hat15 b1 b2 b3 hE15 n6
        go_simp
        refine hK _ _ ⟨cx15, cp15, cc15⟩ ?_
        clear hK K
        iterate 2 (refine Text.purek rfl rfl (fun K hK => ⟨_, fun w' => by go_simp <;> rfl, ?_⟩); go_simp; refine hK _ ?_; clear hK K)
        refine Text.last rfl rfl (fun K hK => ?_)
        go_simp
        refine hK _ _ ?_
        clear hK K
        refine Text.done ?_
        go_wp2
        go_roundw
        case rel => exact ⟨k + 1, by omega, by go_num, HR2.out⟩
        case measure => simp [intOf]; omega
    · obtain rfl : k = cols := by omega
      have HR : Hid (RedPost ge gr n cap L m0 k w wr) := Lib.hid ⟨m, np, Ap, cp, pr1, cs1, _, hred, hE, hR, hnp, hkp⟩
      clear hE hown hbx hkp hred
      go_wp2
      rw [Exit.noGoto_normal]
      go_end0
      exact ⟨rfl, HR.out⟩
end Go.Proofs.Ytoeeklkebcgmaaa
/- Contracts of package matrix: eliminate, Inverse. -/
namespace Go.Proofs.Ytoeeklkebcgmaaa
open Go.RowKit Gf

attribute [local go_sem] Gf.xor_bits Gf.and_bits Gf.or_bits Gf.ne_zero_iff Gf.eq_zero_iff Gf.eq_one_iff Gf.beq_bytes Gf.bne_bytes Gf.bv_toNat

/-- The rows of m, each followed by that of right. -/
def jrow (m right : List (List UInt8)) (j : Nat) : List UInt8 := gR m j ++ gR right j
def jmat (m right : List (List UInt8)) (k : Nat) : List (List UInt8) := (List.range k).map (jrow m right)
theorem jmat_length (m right : List (List UInt8)) (k : Nat) : (jmat m right k).length = k := by simp [jmat]
theorem jmat_get (m right : List (List UInt8)) (k j : Nat) (h : j < k) : gR (jmat m right k) j = jrow m right j := by
  rw [gR_eq (by rw [jmat_length]; exact h)]; simp [jmat]
theorem jmat_succ (m right : List (List UInt8)) (k : Nat) : jmat m right (k + 1) = jmat m right k ++ [jrow m right k] := by simp [jmat, List.range_succ]

/-- The rows that eliminate has joined. -/
def Joined (w : World) (ps : List Value) (ge : Nat) (own : Option Nat) (L : Nat) (m right : List (List UInt8)) (k : Nat) : Prop :=
  ps.length = k ∧ ∀ j, j < k → ∃ A c, ps[j]? = some (.slice A L c) ∧ BS w A L c (jrow m right j) ∧ ∀ g o, A = some ⟨g, o, none⟩ → g ≠ ge ∧ own ≠ some g

def ElI (m right : List (List UInt8)) (ge L k : Nat) (w wr : World) : Prop :=
  ∃ AR cR ps, Blk wr ge 100 #[.slice AR k cR, .slice none 0 0, B 1] ∧ wr.ownsRow w.heap.size 22 1 (.slice AR k cR) k ps ∧
    Joined wr ps ge (Value.slice AR k cR).ownBlock L m right k ∧ Below w.heap.size w wr ∧ ge < wr.heap.size

/-- What eliminate returns: the pointer to an elimination whose rows are those of j, reduced in the first n columns. -/
def ElimRet (j : List (List UInt8)) (n : Nat) (w : World) (e : Ending) (w' : World) : Prop :=
  ∃ ge gr cap m np Ap cp pr cs F, e = .returned (.pointer (some ⟨ge, 0, none⟩)) ∧ red j n = (m, np) ∧ Elim w' ge gr n cap (.slice Ap np cp) pr cs m F ∧ Rect m (n + n) ∧ np ≤ n ∧ Below w.heap.size w w'

theorem jrow_length (m right : List (List UInt8)) (n k : Nat) (hm : Rect m n) (hr : Rect right n) (h1 : k < m.length) (h2 : k < right.length) : (jrow m right k).length = n + n := by
  unfold jrow; rw [List.length_append, hm k h1, hr k h2]

theorem ElI_elim {m right : List (List UInt8)} {ge L n : Nat} {w wr : World} (h : ElI m right ge L n w wr) (hn : 0 < n) (_hL : 0 < L) : ∃ gr cap cs, Elim wr ge gr n cap (.slice none 0 0) 1 cs (jmat m right n) [ge] ∧ wr.cell? ⟨ge, 0, none⟩ = some (.slice (some ⟨gr, 0, none⟩) n cap) ∧ w.heap.size ≤ gr := by
  obtain ⟨AR, cR, ps, hblk, hown, hj, hb, hge⟩ := h
  rcases hown.2 with ⟨_, h0⟩ | ⟨gr, cap, cur, e, hbase, hh, hnc, _, hsz, htk⟩
  · omega
  · injection e with e1 _ e3
    subst e1 e3
    have hne : ge ≠ gr := by
      intro e
      subst e
      exact own_ne hown hblk (by decide) rfl
    have hget : ∀ i, i < n → cur[i]? = ps[i]? := fun i hi => by
      rw [← htk, List.getElem?_take]
      rw [if_pos (by omega)]
      simp
    refine ⟨gr, cR, cur, ⟨hblk, ⟨hh, by rw [jmat_length]; omega, fun i hi => ?_⟩, jmat_length _ _ _, hne, by simp, fun b hb' => ?_⟩, by rw [hblk.cell]; rfl, hbase⟩
    · rw [jmat_length] at hi
      obtain ⟨A, c, h1, h2, _⟩ := hj.2 i hi
      exact ⟨A, L, c, (hget i hi).trans h1, by rw [jmat_get _ _ _ _ hi]; exact h2⟩
    · simp only [List.mem_cons, List.not_mem_nil, or_false] at hb'
      subst hb'
      refine ⟨hge, fun i A k c hi hc g o e => ?_⟩
      obtain ⟨A', c', h1, _, h3⟩ := hj.2 i hi
      rw [hget i hi, h1] at hc
      injection hc with hc
      injection hc with a1 _ _
      subst a1
      exact (h3 g o e).1

set_option maxHeartbeats 4000000 in
theorem eliminate_any (A A' : Option Addr) (n c c' : Nat) (m right : List (List UInt8)) (w : World) (h : MS w A n c m) (h' : MS w A' n c' right) (hm : Rect m n) (hr : Rect right n) (hn : 0 < n) (hn64 : n ≤ 64) :
    Calls Try.prog 70 #[.slice A n c, .slice A' n c'] w (ElimRet (jmat m right n) n w) := by
  have HLm := Lib.hid h.1
  have HLr := Lib.hid h'.1
  have hneq := fun (W : World) (a : Option Addr) (n c n' c' : Nat) => run_neq_slice_nil_any (P := Try.prog) W 30 22 a n c n' c' Try.underlying30
  go_enter Try.func70, Try.ntmps70
  go_wp2
  go_loopw [13] (fun i wr => ∃ k : Nat, k ≤ n ∧ i = .int .i64 (k : Int) ∧ ElI m right w.heap.size (n + n) k w wr) (fun i _ => n - (intOf i).toNat)
  case atStart =>
    refine ⟨0, by omega, rfl, none, 0, [], Blk.new _ _ _, World.ownsRow_nil _ _ _ _, ⟨rfl, fun j hj => absurd hj (by omega)⟩, (Below.refl _ _).alloc (Nat.le_refl _) _, by simp⟩
  case round =>
    obtain ⟨k, hk, rfl, AR, cR, ps, hblk, hown, hjn, hb, hge⟩ := hrel
    by_cases hlt : k < n
    · obtain ⟨ga, oa, A1, n1, c1, rfl, hca0, hra⟩ := h.at_ (Below.refl _ _) hlt
      obtain ⟨gb, ob, A2, n2, c2, rfl, hcb0, hrb⟩ := h'.at_ (Below.refl _ _) hlt
      obtain rfl : n1 = n := by rw [← hra.1, hm k (by rw [HLm.out]; exact hlt)]
      obtain rfl : n2 = n1 := by rw [← hrb.1, hr k (by rw [HLr.out]; exact hlt)]
      have hca := cell_kept hb hca0
      have hcb := cell_kept hb hcb0
      have hra1 := hra.kept hb
      have hrb1 := hrb.kept hb
      have HB := Lib.hid hb
      have HOWN := Lib.hid hown
      have HJ := Lib.hid hjn
      have HBLK := Lib.hid hblk
      have HRA := Lib.hid hra1
      have HRB := Lib.hid hrb1
      clear hb hown hjn hblk hra hrb hra1 hrb1 hca0 hcb0
      have HO0 : Hid ((wr.alloc (.cells #[] 5)).ownsRow wr.heap.size 5 1 (.slice (some ⟨wr.heap.size, 0, none⟩) 0 0) 0 (([] : List UInt8).map B)) :=
        Lib.hid (World.ownsRow_lit wr #[] 0 (Nat.le_refl _) (by simp [maxLen]) rfl)
      have HRA0 := Lib.hid (HRA.out.kept (w' := wr.alloc (.cells #[] 5)) ((Below.refl _ _).alloc (Nat.le_refl _) _))
      have ceR : wr.cell? ⟨w.heap.size, 0, none⟩ = some (.slice AR k cR) := by rw [HBLK.out.cell]; rfl
      have feR := HBLK.out.frozen 0
      have hb1' : ∀ (v1 : Value) (w1 : World), AppPost wr.heap.size 5 (.slice (some ⟨wr.heap.size, 0, none⟩) 0 0) 0 n2 (([] ++ gR m k).map B) v1 (wr.alloc (.cells #[] 5)) w1 → Below wr.heap.size wr w1 :=
        fun v1 w1 hp => ((Below.refl _ _).alloc (Nat.le_refl _) _).grown hp.2.1 (by simp) (by simp [Value.ownBlock])
      have HB1' := Lib.hid hb1'
      clear hb1'
      go_wp2_with (first
        | (at_builtin; refine wpList_appB _ rfl (.tmp 18) (.tmp 19) rfl wr.heap.size (.slice (some ⟨wr.heap.size, 0, none⟩) 0 0) 0 [] rfl HO0.out A1 n2 c1 (gR m k) rfl HRA0.out (by omega) (by simp) ?_; intro v1 w1 hp1; have hb1 := HB1'.out v1 w1 hp1; have hcb1 := cell_kept hb1 hcb; have HRB1 := Lib.hid (HRB.out.kept hb1); have HP1 := Lib.hid hp1; clear hp1)
        | (at_builtin; refine wpList_appB _ rfl (.tmp 23) (.tmp 27) rfl wr.heap.size v1 (0 + n2) ([] ++ gR m k) rfl HP1.out.1 A2 n2 c2 (gR right k) rfl HRB1.out (by omega) hb1.size ?_; intro v2 w2 hp2; have hb2 : Below wr.heap.size wr w2 := hb1.grown hp2.2.1 hb1.size (fun q hq => own_base HP1.out.1 q hq); have ceR2 := cell_kept hb2 ceR; have feR2 := (HBLK.out.kept hb2).frozen 0; obtain ⟨A3, c3, rfl, hbs2⟩ := BS.of_own hp2.1 (by unfold lim; omega); rw [Nat.zero_add] at hbs2; have HP2 := Lib.hid hp2; have HBS2 := Lib.hid hbs2; have hbz : Below w2.heap.size w2 (w2.alloc (.cells #[.slice A3 (n2 + n2) c3] 22)) := (Below.refl _ _).alloc (Nat.le_refl _) _; have HBZ := Lib.hid hbz; have HOW2 := Lib.hid (Kp.own (S := fun _ => False) ((Kp.of_below hb2).then hbz) HOWN.out (fun _ _ => id)); clear hp2 hbs2 hbz)
        | (at_builtin; refine wpList_app1 _ rfl (.tmp 33) (.tmp 35) 30 22 (.slice none 0 0) 24 Try.underlying30 infoBytes rfl rfl w.heap.size (.slice AR k cR) k ps rfl HOW2.out w2.heap.size 1 22 (.slice A3 (n2 + n2) c3) rfl (Blk.new w2 _ _) rfl (by omega) (by omega) (Nat.le_trans HB.out.size (Nat.le_trans hb2.size HBZ.out.size)) ?_; intro v4 w4 hp4; obtain ⟨g4, c4, rfl, hgb4⟩ := own_form hp4.1 (by omega); have hK4 : Kp (fun b => (Value.slice AR k cR).ownBlock = some b) (w2.alloc (.cells #[.slice A3 (n2 + n2) c3] 22)) w4 := (Kp.refl _ _).grown hp4.2.1 (fun _ e => .inl e); have bge : (Value.slice AR k cR).ownBlock ≠ some w.heap.size := own_ne HOWN.out HBLK.out (by decide); have HL4 := Lib.hid (hK4.blk ((HBLK.out.kept hb2).kept HBZ.out) bge); have ce4 : w4.cell? ⟨w.heap.size, 0, none⟩ = some (.slice AR k cR) := (HL4.out.cell 0).trans rfl; have fe4 := HL4.out.frozen 0; have HP4 := Lib.hid hp4; have HK4 := Lib.hid hK4; clear hp4 hK4 bge))
      have HR : Hid (ElI m right w.heap.size (n2 + n2) (k + 1) w (w4.setCell ⟨w.heap.size, 0, none⟩ (.slice (some ⟨g4, 0, none⟩) (k + 1) c4))) := by
        refine Lib.hid ⟨some ⟨g4, 0, none⟩, c4, ps ++ [.slice A3 (n2 + n2) c3], HL4.out.set_ 0 _, ?_, ⟨by rw [List.length_append, HJ.out.1]; rfl, fun j hj => ?_⟩, ?_, ?_⟩
        · refine Kp.own (S := fun b => b = w.heap.size) (Kp.set (S := fun b => b = w.heap.size) (p := ⟨w.heap.size, 0, none⟩) (Kp.refl _ _) (.inl rfl) _) HP4.out.1 (fun g hg e => ?_)
          subst e
          exact own_ne HP4.out.1 HL4.out (by decide) hg
        · by_cases hjk : j < k
          · obtain ⟨A, c, h1, h2, h3⟩ := HJ.out.2 j hjk
            have h2' := (h2.kept hb2).kept HBZ.out
            have h4 : BS w4 A (n2 + n2) c (jrow m right j) := ⟨h2.1, h2.2.1, h2.2.2.1, fun i hi => by
              obtain ⟨g, o, e, hc⟩ := h2'.2.2.2 i hi
              exact ⟨g, o, e, HK4.out.cell hc (fun hS => (h3 g o e).2 hS)⟩⟩
            refine ⟨A, c, ?_, h4.store ce4 _, fun g o e => ⟨(h3 g o e).1, fun e4 => ?_⟩⟩
            · rw [List.getElem?_append_left (by rw [HJ.out.1]; exact hjk)]; exact h1
            · have e5 : g4 = g := by simpa [Value.ownBlock] using e4
              subst e5
              rcases HP4.out.2.2 with e6 | e6
              · exact (h3 g4 o e).2 (e6.symm.trans rfl)
              · obtain ⟨g', o', e7, hc⟩ := h2.2.2.2 0 (by omega)
                rw [e] at e7
                injection e7 with e7
                injection e7 with e7
                have hlt2 := cell_lt hc
                have hs := hb2.size
                simp only [Value.ownBlock] at e6
                injection e6 with e6
                simp at e6 hlt2
                omega
          · obtain rfl : j = k := by omega
            have e0 : jrow m right j = [] ++ gR m j ++ gR right j := by simp [jrow]
            have hA3 : ∀ g o, A3 = some ⟨g, o, none⟩ → wr.heap.size ≤ g ∧ g < w2.heap.size := by
              intro g o e
              have := HP2.out.1.lt g (by rw [e]; rfl)
              exact this
            have h4 : BS w4 A3 (n2 + n2) c3 (jrow m right j) := by
              rw [e0]
              have h2' := HBS2.out.kept HBZ.out
              refine ⟨h2'.1, h2'.2.1, h2'.2.2.1, fun i hi => ?_⟩
              obtain ⟨g, o, e, hc⟩ := h2'.2.2.2 i hi
              refine ⟨g, o, e, HK4.out.cell hc (fun hS => ?_)⟩
              have h5 := HOWN.out.lt g hS
              have h6 := hA3 g o e
              omega
            refine ⟨A3, c3, by rw [List.getElem?_append_right (by rw [HJ.out.1]; exact Nat.le_refl _), HJ.out.1, Nat.sub_self]; rfl, h4.store ce4 _, fun g o e => ?_⟩
            have h6 := hA3 g o e
            refine ⟨by omega, fun e4 => ?_⟩
            have e5 : g4 = g := by simpa [Value.ownBlock] using e4
            subst e5
            rcases HP4.out.2.2 with e6 | e6
            · have h5 := HOWN.out.lt g4 (e6.symm.trans rfl)
              omega
            · simp only [Value.ownBlock] at e6
              injection e6 with e6
              simp at e6
              omega
        · refine Below.setCell (B := w.heap.size) (p := ⟨w.heap.size, 0, none⟩) ?_ (Nat.le_refl _) _
          exact (below_thenB (below_thenB HB.out HB.out.size hb2) (Nat.le_trans HB.out.size hb2.size) HBZ.out).grown HP4.out.2.1 (Nat.le_trans HB.out.size (Nat.le_trans hb2.size HBZ.out.size)) (fun b hb' => own_base HOWN.out b hb')
        · rw [World.size_setCell]
          have := HK4.out.size; have := HBZ.out.size; have := hb2.size; omega
      go_roundw
      case rel => exact ⟨k + 1, by omega, by go_num, HR.out⟩
      case measure => simp [intOf]; omega
    · obtain rfl : k = n := by omega
      have hI : ElI m right w.heap.size (k + k) k w wr := ⟨AR, cR, ps, hblk, hown, hjn, hb, hge⟩
      obtain ⟨gr, cap, cs, hE, _, hgr⟩ := ElI_elim hI hn (by omega)
      have hR : Rect (jmat m right k) (k + k) := fun i hi => by
        rw [jmat_length] at hi
        rw [jmat_get _ _ _ _ hi]
        exact jrow_length m right k i hm hr (by rw [HLm.out]; exact hi) (by rw [HLr.out]; exact hi)
      have HC := Lib.hid (ncols_eq hm (by rw [HLm.out]; exact hn))
      have hw := h.kept hb
      have HB := Lib.hid hb
      have HE := Lib.hid hE
      clear hblk hown hjn hb hI hE
      go_wp2_with fail
      refine (columns_any A k c m _ hw).mono ?_
      rintro e w' ⟨rfl, rfl⟩
      rw [HC.out]
      go_wp2_with fail
      refine (reduce_any w.heap.size gr k cap 1 cs (jmat m right k) (k + k) k _ HE.out hR (by omega) (by omega) (by omega)).mono ?_
      rintro e w5 ⟨rfl, m5, np, Ap, cp, pr, cs5, F, hred, hE5, hR5, hnp, hK5⟩
      have HR5 : Hid (ElimRet (jmat m right k) k w (.returned (.pointer (some ⟨w.heap.size, 0, none⟩))) w5) :=
        Lib.hid ⟨w.heap.size, gr, cap, m5, np, Ap, cp, pr, cs5, F, rfl, hred, hE5, hR5, hnp, HB.out.trans (hK5.below HB.out.size (fun b hb' => by rcases hb' with rfl | rfl <;> omega))⟩
      clear hred hE5 hR5 hK5
      go_wp2
      go_ret
      exact HR5.out
end Go.Proofs.Ytoeeklkebcgmaaa
/- Contracts of package matrix: Inverse of a matrix that has one. -/
namespace Go.Proofs.Ytoeeklkebcgmaaa
open Go.RowKit Gf

attribute [local go_sem] Gf.xor_bits Gf.and_bits Gf.or_bits Gf.ne_zero_iff Gf.eq_zero_iff Gf.eq_one_iff Gf.beq_bytes Gf.bne_bytes Gf.bv_toNat

theorem BS.drop {w : World} {g o N c : Nat} {l : List UInt8} (h : BS w (some ⟨g, o, none⟩) N c l) {k : Nat} (hk : k ≤ N) : BS w (some ⟨g, o + k, none⟩) (N - k) (c - k) (l.drop k) := by
  refine ⟨by rw [List.length_drop, h.1], by have := h.2.1; omega, by have := h.2.2.1; omega, fun i hi => ?_⟩
  obtain ⟨g', o', e, hc⟩ := h.2.2.2 (k + i) (by omega)
  injection e with e
  injection e with e1 e2
  subst e1 e2
  refine ⟨g, o + k, rfl, ?_⟩
  rw [Nat.add_assoc, hc]
  show some (B (gB l (k + i))) = some (B (gB (l.drop k) i))
  rw [gB, gB, List.getD_eq_getElem?_getD, List.getD_eq_getElem?_getD, List.getElem?_drop]

/-- The identity, and the inverse that elimination finds. -/
def idm (n : Nat) : List (List UInt8) := (List.range n).map (unit n)
theorem idm_length (n : Nat) : (idm n).length = n := by simp [idm]
theorem idm_get (n i : Nat) (h : i < n) : gR (idm n) i = unit n i := by
  rw [gR_eq (by rw [idm_length]; exact h)]; simp [idm]
theorem idm_rect (n : Nat) : Rect (idm n) n := fun i hi => by
  rw [idm_length] at hi
  rw [idm_get n i hi, unit_length]
def elimI (m : List (List UInt8)) (n : Nat) : List (List UInt8) × Nat := red (jmat m (idm n) n) n
def invrow (m : List (List UInt8)) (n i : Nat) : List UInt8 := (gR (elimI m n).1 i).drop n
def invpart (m : List (List UInt8)) (n k : Nat) : List (List UInt8) := (List.range n).map fun i => if i < k then invrow m n i else []
def invM (m : List (List UInt8)) (n : Nat) : List (List UInt8) := (List.range n).map (invrow m n)
theorem invpart_length (m : List (List UInt8)) (n k : Nat) : (invpart m n k).length = n := by simp [invpart]
theorem invpart_get (m : List (List UInt8)) (n k i : Nat) (h : i < n) : gR (invpart m n k) i = if i < k then invrow m n i else [] := by
  rw [gR_eq (by rw [invpart_length]; exact h)]; simp [invpart]
theorem invpart_all (m : List (List UInt8)) (n : Nat) : invpart m n n = invM m n := by
  apply List.ext_getElem (by simp [invpart, invM])
  intro i h1 h2
  have : i < n := by simpa [invpart] using h1
  simp [invpart, invM, this]
theorem invpart_set (m : List (List UInt8)) (n k : Nat) (_h : k < n) : (invpart m n k).set k (invrow m n k) = invpart m n (k + 1) := by
  apply List.ext_getElem (by simp [invpart])
  intro i h1 h2
  rw [List.getElem_set]
  simp only [invpart, List.getElem_map, List.getElem_range]
  by_cases e : k = i
  · subst e; simp
  · rw [if_neg e]
    by_cases e2 : i < k
    · rw [if_pos e2, if_pos (by omega)]
    · rw [if_neg e2, if_neg (by omega)]

def InvI (m : List (List UInt8)) (n k : Nat) (w2 wr : World) : Prop :=
  ∃ cs, RowsBlk wr w2.heap.size 22 cs (invpart m n k) ∧ Below w2.heap.size w2 wr

set_option maxHeartbeats 4000000 in
theorem inverse_any (A : Option Addr) (n c : Nat) (m : List (List UInt8)) (w : World) (h : MS w A n c m) (hm : Rect m n) (hn : 0 < n) (hn64 : n ≤ 64) (hreg : (elimI m n).2 = n) :
    Calls Try.prog 63 #[.slice A n c] w (Rets0 (NewM 22 (invM m n)) w) := by
  have HC := Lib.hid (ncols_eq hm (by rw [h.1]; exact hn))
  have HREG := Lib.hid hreg
  clear hreg
  have hmk := make_rows n (by omega)
  go_enter Try.func63, Try.ntmps63
  go_wp2_with fail
  refine (valid_any A n c m n _ h hm hn64 hn64).mono ?_
  rintro e w' ⟨rfl, rfl⟩
  go_wp2_with fail
  refine (columns_any A n c m _ h).mono ?_
  rintro e w' ⟨rfl, rfl⟩
  rw [HC.out]
  go_wp2_with fail
  refine (identity_any n _ hn64).mono ?_
  rintro e w1 ⟨rfl, hgrid⟩
  have hid : MS w1 (some ⟨w.heap.size, 0, none⟩) n n (idm n) :=
    (hgrid.rowsBlk (fun i _ => unit_length n i) (by unfold lim; omega)).toMS (idm_length n) (Nat.le_refl _) (by unfold lim; omega)
  have hb1 : Below w.heap.size w w1 := hgrid.2.2.1
  have hw1 := h.kept hb1
  clear hgrid
  go_wp2_with fail
  refine (eliminate_any A (some ⟨w.heap.size, 0, none⟩) n c n m (idm n) w1 hw1 hid hm (idm_rect n) hn hn64).mono ?_
  rintro e w2 ⟨ge, gr, cap, m2, np, Ap, cp, pr, cs, F, rfl, hred, hE, hR, hnp, hb2⟩
  obtain rfl : np = n := by
    have := HREG.out
    unfold elimI at this
    rw [hred] at this
    exact this
  have HM2 : Hid (m2 = (elimI m np).1) := Lib.hid (by unfold elimI; rw [hred])
  have ce := hE.rowsCell
  have cp2 := hE.pivCell
  have HE := Lib.hid hE
  have HB2 := Lib.hid (below_then hb1 hb2)
  have hgel := hE.1.lt
  clear hred hE hid hw1 hb1 hb2 hnp
  go_wp2_with fail
  clear hmk
  go_loopw [39] (fun i wr => ∃ k : Nat, k ≤ np ∧ i = .int .i64 (k : Int) ∧ InvI m np k w2 wr) (fun i _ => np - (intOf i).toNat)
  case atStart =>
    refine ⟨0, by omega, rfl, _, ⟨Blk.new _ _ _, by rw [invpart_length]; simp, fun i hi => ?_⟩, (Below.refl _ _).alloc (Nat.le_refl _) _⟩
    rw [invpart_length] at hi
    refine ⟨none, 0, 0, by simp [hi], ?_⟩
    rw [invpart_get _ _ _ _ hi, if_neg (by omega)]
    exact BS.nil
  case round =>
    obtain ⟨k, hk, rfl, cs', h1, hb⟩ := hrel
    by_cases hlt : k < np
    · have hE2 := HE.out.kept hb
      obtain ⟨A1, c1, hc1, hr1⟩ := hE2.row hR hlt
      obtain ⟨g1, o1, rfl, _⟩ := hr1.at_ (Below.refl _ _) (show 0 < np + np by omega)
      have hc2 := hr1.2.1
      have ec1 : ¬ c1 = np := by omega
      have HD : Hid (BS wr (some ⟨g1, o1 + np, none⟩) np (c1 - np) (invrow m np k)) := by
        have := hr1.drop (k := np) (by omega)
        rw [show np + np - np = np by omega, HM2.out] at this
        exact Lib.hid this
      have HO0 : Hid ((wr.alloc (.cells #[] 5)).ownsRow wr.heap.size 5 1 (.slice (some ⟨wr.heap.size, 0, none⟩) 0 0) 0 (([] : List UInt8).map B)) :=
        Lib.hid (World.ownsRow_lit wr #[] 0 (Nat.le_refl _) (by simp [maxLen]) rfl)
      have HD0 := Lib.hid (HD.out.kept (w' := wr.alloc (.cells #[] 5)) ((Below.refl _ _).alloc (Nat.le_refl _) _))
      obtain ⟨A0, n0, c0, hc0, _⟩ := h1.cell (i := k) (by rw [invpart_length]; exact hlt)
      have HB := Lib.hid hb
      have H1 := Lib.hid h1
      clear hb h1 hE2 hr1
      go_wp2_with (first
        | (at_builtin; refine wpList_appB _ rfl (.tmp 46) (.tmp 50) rfl wr.heap.size (.slice (some ⟨wr.heap.size, 0, none⟩) 0 0) 0 [] rfl HO0.out (some ⟨g1, o1 + np, none⟩) np (c1 - np) (invrow m np k) rfl HD0.out (by omega) (by simp) ?_; intro v1 w3 hp1; have hb3 : Below wr.heap.size wr w3 := ((Below.refl _ _).alloc (Nat.le_refl _) _).grown hp1.2.1 (by simp) (by simp [Value.ownBlock]); obtain ⟨A3, c3, rfl, hbs3⟩ := BS.of_own hp1.1 (by unfold lim; omega); rw [Nat.zero_add] at hbs3; have hc3 := cell_kept hb3 hc0; have hf3 := (H1.out.1.kept hb3).frozen k; have HB3 := Lib.hid hb3; have HBS3 := Lib.hid hbs3; clear hp1 hb3 hbs3))
      have HR : Hid (InvI m np (k + 1) w2 (w3.setCell ⟨w2.heap.size, k, none⟩ (.slice A3 np c3))) := by
        have h4 := (H1.out.kept HB3.out).set_ (i := k) (by rw [invpart_length]; exact hlt) HBS3.out
        rw [List.nil_append, invpart_set _ _ _ hlt] at h4
        exact Lib.hid ⟨_, h4, (below_thenB HB.out HB.out.size HB3.out).setCell (Nat.le_refl _) _⟩
      go_roundw
      case rel => exact ⟨k + 1, by omega, by go_num, HR.out⟩
      case measure => simp [intOf]; omega
    · obtain rfl : k = np := by omega
      have HR : Hid (NewM 22 (invM m k) w (.slice (some ⟨w2.heap.size, 0, none⟩) k k) wr) := by
        rw [invpart_all] at h1
        exact Lib.hid ⟨w2.heap.size, cs', k, rfl, by simp [invM], HB2.out.size, h1, below_then HB2.out hb⟩
      clear h1 hb
      go_wp2
      go_ret2
      exact ⟨_, rfl, HR.out⟩
end Go.Proofs.Ytoeeklkebcgmaaa
