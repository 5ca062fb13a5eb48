/- Several texts in one: Gf, GfW, Mem, Mk, GfM, Po0, App, Po1, Text, Po3, Po5. -/
import Derived.Laws.BitsAllLaws
import Derived.Laws.BitsLemmas
import Derived.KernelRfl
import Derived.Test.YtakedococfklgaaChecked
import Derived.WalkKit
import Derived.WalkLawsBesides
import Derived.WalkSpells
import Derived.Deep.QuietTactic
import Derived.BigQuiet
import Derived.Lib.Hide
import Derived.Below
import Derived.Laws.OwnMore
import Derived.Deep.Draws
import Derived.Laws.Rows
import Derived.Maps.AppendAt
import Derived.RegionTactic
import Derived.OwnWalk
import Derived.Laws.CopyOwn
import Derived.OrdersHeld
import Derived.StillTail
/- Plain arithmetic of the field of 256 elements on UInt8: definitions that follow the program's own steps, and bridges from the walk's spelling of byte operations. No program in sight. -/
namespace Go.Proofs.Ytakedococfklgaa
open Go

namespace Gf
/-- A byte as an integer: a plain def, so that the walk's simp does not look behind it. -/
def bv (x : UInt8) : Int := (x.toNat : Int)
/-- The value of a byte. -/
abbrev B (x : UInt8) : Value := .int .u8 (bv x)
theorem bv_lo (x : UInt8) : 0 ≤ bv x := by unfold bv; omega
theorem bv_hi (x : UInt8) : bv x < 256 := by unfold bv; have := x.toNat_lt; omega
theorem bv_toNat (x : UInt8) : (bv x).toNat = x.toNat := by unfold bv; omega
theorem bv_inj {a b : UInt8} (h : bv a = bv b) : a = b := UInt8.toNat_inj.1 (by unfold bv at h; omega)
theorem bv_ofNat (x : Int) (h : 0 ≤ x) (h' : x < 256) : bv (UInt8.ofNat x.toNat) = x := by
  unfold bv; rw [UInt8.toNat_ofNat_of_lt' (by show x.toNat < 256; omega)]; omega
theorem ofNat_bv (x : UInt8) : UInt8.ofNat (bv x).toNat = x := by rw [bv_toNat]; simp
theorem bv_wrap (x : UInt8) : IntKind.u8.wrap (bv x) = bv x := by
  have h1 := bv_lo x
  have h2 := bv_hi x
  show bv x % 256 = bv x
  omega

def dbl (a : UInt8) : UInt8 := if (a &&& 128 != 0) = true then (a <<< 1) ^^^ 29 else a <<< 1

def mulAux : Nat → UInt8 → UInt8 → UInt8 → UInt8
  | 0, _, _, p => p
  | n + 1, a, b, p => if b = 0 then p else mulAux n (dbl a) (b >>> 1) (if b &&& 1 = 1 then p ^^^ a else p)

def mul (a b : UInt8) : UInt8 := mulAux 8 a b 0

def invAux : Nat → UInt8 → UInt8 → UInt8
  | 0, _, i => i
  | n + 1, a, i => invAux n (mul a a) (mul i (mul a a))

def inv (a : UInt8) : UInt8 := invAux 7 a 1

/-! ### all bytes, one after another -/
theorem all_u8 {p : UInt8 → Prop} (h : ∀ n : Fin 256, p (UInt8.ofNat n.val)) : ∀ a, p a := by
  intro a
  have := h ⟨a.toNat, a.toNat_lt⟩
  simpa using this

theorem toNat_lt' (a : UInt8) : a.toNat < 256 := a.toNat_lt

theorem B_inj {a b : UInt8} (h : B a = B b) : a = b := by
  have : bv a = bv b := by injection h
  exact bv_inj this

theorem xor_bits (a b : UInt8) : bits .xor .u8 (bv a) (bv b) = bv (a ^^^ b) := by
  unfold bv; rw [u8_xor_nat _ _ a.toNat_lt b.toNat_lt, UInt8.toNat_xor]
theorem and_bits (a b : UInt8) : bits .and .u8 (bv a) (bv b) = bv (a &&& b) := by
  unfold bv; rw [u8_and_nat _ _ a.toNat_lt b.toNat_lt, UInt8.toNat_and]
theorem or_bits (a b : UInt8) : bits .or .u8 (bv a) (bv b) = bv (a ||| b) := by
  unfold bv; rw [u8_or_nat _ _ a.toNat_lt b.toNat_lt, UInt8.toNat_or]

theorem beq_bytes (a b : UInt8) : (bv a == bv b) = (a == b) := by
  by_cases h : a = b
  · subst h; simp
  · have h3 : (bv a == bv b) = false := by
      rw [beq_eq_false_iff_ne]; exact fun e => h (bv_inj e)
    rw [h3]; simp [h]
theorem bne_bytes (a b : UInt8) : (bv a != bv b) = (a != b) := by
  simp only [bne, beq_bytes]
theorem eq_zero_iff (a : UInt8) : (bv a == 0) = (a == 0) := beq_bytes a 0
theorem ne_zero_iff (a : UInt8) : (bv a != 0) = (a != 0) := bne_bytes a 0
theorem eq_one_iff (a : UInt8) : (bv a == 1) = (a == 1) := beq_bytes a 1

theorem shl1 (a : UInt8) : bv a * (2 : Int) % (256 : Int) = bv (a <<< 1) := by
  revert a; exact all_u8 (by decide +kernel)
theorem shr1 (a : UInt8) : bv a / (2 : Int) = bv (a >>> 1) := by
  revert a; exact all_u8 (by decide +kernel)
theorem and128 (a : UInt8) : bits .and .u8 (bv a) 128 = bv (a &&& 128) := and_bits a 128
theorem and1 (a : UInt8) : bits .and .u8 (bv a) 1 = bv (a &&& 1) := and_bits a 1
theorem xor29 (a : UInt8) : bits .xor .u8 (bv a) 29 = bv (a ^^^ 29) := xor_bits a 29

theorem shr1_lt (b : UInt8) (h : b ≠ 0) : (b >>> 1).toNat < b.toNat := by
  revert b; exact all_u8 (by decide +kernel)
theorem shr1_half (b : UInt8) : (b >>> 1).toNat = b.toNat / 2 := by
  have := shr1 b; unfold bv at this; omega

theorem bv_zero : bv 0 = 0 := rfl
theorem bv_one : bv 1 = 1 := rfl

theorem mulAux_zero (n : Nat) (a p : UInt8) : mulAux n a 0 p = p := by cases n <;> simp [mulAux]
theorem mulAux_more (n : Nat) : ∀ (a b p : UInt8), b.toNat < 2 ^ n → mulAux (n + 1) a b p = mulAux n a b p := by
  induction n with
  | zero =>
    intro a b p hb
    have : b = 0 := UInt8.toNat_inj.1 (by show b.toNat = 0; omega)
    subst this; rw [mulAux_zero, mulAux_zero]
  | succ n ih =>
    intro a b p hb
    by_cases h : b = 0
    · subst h; rw [mulAux_zero, mulAux_zero]
    · have e1 : mulAux (n + 1 + 1) a b p = mulAux (n + 1) (dbl a) (b >>> 1) (if b &&& 1 = 1 then p ^^^ a else p) := by
        conv => lhs; unfold mulAux
        rw [if_neg h]
      have e2 : mulAux (n + 1) a b p = mulAux n (dbl a) (b >>> 1) (if b &&& 1 = 1 then p ^^^ a else p) := by
        conv => lhs; unfold mulAux
        rw [if_neg h]
      rw [e1, e2]
      exact ih _ _ _ (by rw [shr1_half]; omega)
/-- One step of the loop, whatever the byte. -/
theorem mulAux_step (a b p : UInt8) (h : b ≠ 0) : mulAux 8 a b p = mulAux 8 (dbl a) (b >>> 1) (if b &&& 1 = 1 then p ^^^ a else p) := by
  have e1 : mulAux 8 a b p = mulAux 7 (dbl a) (b >>> 1) (if b &&& 1 = 1 then p ^^^ a else p) := by
    show mulAux (7 + 1) a b p = _
    conv => lhs; unfold mulAux
    rw [if_neg h]
  rw [e1]
  exact (mulAux_more 7 _ _ _ (by rw [shr1_half]; have := b.toNat_lt; omega)).symm

/-! ### the field's laws -/
theorem all_u8b {p : UInt8 → Bool} (h : (List.range 256).all (fun n => p (UInt8.ofNat n)) = true) : ∀ a, p a = true := by
  intro a
  have := List.all_eq_true.1 h a.toNat (by simp only [List.mem_range]; exact a.toNat_lt)
  simpa using this
theorem xor_cancel (a : UInt8) : a ^^^ a = 0 := by simp
theorem xor_assoc (a b c : UInt8) : a ^^^ b ^^^ c = a ^^^ (b ^^^ c) := UInt8.xor_assoc a b c
theorem xor_comm (a b : UInt8) : a ^^^ b = b ^^^ a := UInt8.xor_comm a b
theorem mulAux_acc (n : Nat) : ∀ (a b p : UInt8), mulAux n a b p = p ^^^ mulAux n a b 0 := by
  induction n with
  | zero => intro a b p; simp [mulAux]
  | succ n ih =>
    intro a b p
    unfold mulAux
    by_cases h : b = 0
    · simp [h]
    · rw [if_neg h, if_neg h, ih, ih (p := if b &&& 1 = 1 then 0 ^^^ a else 0)]
      by_cases h1 : b &&& 1 = 1
      · rw [if_pos h1, if_pos h1]; simp [xor_assoc]
      · rw [if_neg h1, if_neg h1]; simp
theorem bit0 (a : UInt8) : a &&& 1 = 0 ∨ a &&& 1 = 1 := by
  revert a; exact all_u8 (by decide +kernel)
theorem bit7 (a : UInt8) : a &&& 128 = 0 ∨ a &&& 128 = 128 := by
  revert a; exact all_u8 (by decide +kernel)
theorem and_xor' (a b c : UInt8) : (a ^^^ b) &&& c = (a &&& c) ^^^ (b &&& c) := by
  apply UInt8.toBitVec_inj.1
  ext i
  simp [Bool.and_xor_distrib_right]
theorem dbl_eq (a : UInt8) : dbl a = (a <<< 1) ^^^ (if a &&& 128 = 128 then 29 else 0) := by
  unfold dbl
  rcases bit7 a with h | h <;> simp [h]
theorem bit_xor (x a b m : UInt8) (ha : a = 0 ∨ a = m) (hb : b = 0 ∨ b = m) (hm : m ≠ 0) : (if a ^^^ b = m then x else 0) = (if a = m then x else 0) ^^^ (if b = m then x else 0) := by
  have h0 : ¬ (0 : UInt8) = m := fun e => hm e.symm
  rcases ha with rfl | rfl <;> rcases hb with rfl | rfl <;> simp [h0]
theorem xor4 (a b c d : UInt8) : a ^^^ b ^^^ (c ^^^ d) = a ^^^ c ^^^ (b ^^^ d) := by
  rw [xor_assoc, xor_assoc, ← xor_assoc b, xor_comm b c, xor_assoc c]
theorem dbl_xor (a b : UInt8) : dbl (a ^^^ b) = dbl a ^^^ dbl b := by
  rw [dbl_eq, dbl_eq, dbl_eq, UInt8.shiftLeft_xor, and_xor', bit_xor 29 _ _ 128 (bit7 a) (bit7 b) (by decide), xor4]
theorem shr_xor (a b : UInt8) : (a ^^^ b) >>> 1 = (a >>> 1) ^^^ (b >>> 1) := UInt8.shiftRight_xor
theorem odd_xor (x a b : UInt8) : (if (a ^^^ b) &&& 1 = 1 then x else 0) = (if a &&& 1 = 1 then x else 0) ^^^ (if b &&& 1 = 1 then x else 0) := by
  rw [and_xor', bit_xor x _ _ 1 (bit0 a) (bit0 b) (by decide)]

/-- The product without the early end. -/
def mulBits : Nat → UInt8 → UInt8 → UInt8
  | 0, _, _ => 0
  | n + 1, a, b => (if b &&& 1 = 1 then a else 0) ^^^ mulBits n (dbl a) (b >>> 1)
theorem mulBits_zero (n : Nat) : ∀ a, mulBits n a 0 = 0 := by
  induction n with
  | zero => intro a; rfl
  | succ n ih => intro a; simp [mulBits]; exact ih _
theorem mulAux_bits (n : Nat) : ∀ a b, mulAux n a b 0 = mulBits n a b := by
  induction n with
  | zero => intro a b; rfl
  | succ n ih =>
    intro a b
    unfold mulAux mulBits
    by_cases h : b = 0
    · subst h; simp; exact (mulBits_zero n _).symm
    · rw [if_neg h, mulAux_acc, ih]
      by_cases h1 : b &&& 1 = 1
      · rw [if_pos h1, if_pos h1]; simp
      · rw [if_neg h1, if_neg h1]
theorem mul_bits (a b : UInt8) : mul a b = mulBits 8 a b := mulAux_bits 8 a b
theorem mulBits_xor (n : Nat) : ∀ (c a b : UInt8), mulBits n c (a ^^^ b) = mulBits n c a ^^^ mulBits n c b := by
  induction n with
  | zero => intro c a b; simp [mulBits]
  | succ n ih => intro c a b; simp only [mulBits]; rw [odd_xor, shr_xor, ih, xor4]
theorem ite_xor (p : Prop) [Decidable p] (a b : UInt8) : (if p then a ^^^ b else 0) = (if p then a else 0) ^^^ (if p then b else 0) := by
  by_cases h : p <;> simp [h]
theorem mulBits_xor' (n : Nat) : ∀ (a b c : UInt8), mulBits n (a ^^^ b) c = mulBits n a c ^^^ mulBits n b c := by
  induction n with
  | zero => intro a b c; simp [mulBits]
  | succ n ih => intro a b c; simp only [mulBits]; rw [dbl_xor, ih, ite_xor, xor4]
theorem mul_xor (c a b : UInt8) : mul c (a ^^^ b) = mul c a ^^^ mul c b := by
  rw [mul_bits, mul_bits, mul_bits, mulBits_xor]
theorem xor_mul (a b c : UInt8) : mul (a ^^^ b) c = mul a c ^^^ mul b c := by
  rw [mul_bits, mul_bits, mul_bits, mulBits_xor']
/-- Two additive functions that agree at the bits agree. -/
theorem lin_ext {f g : UInt8 → UInt8} (hf : ∀ a b, f (a ^^^ b) = f a ^^^ f b) (hg : ∀ a b, g (a ^^^ b) = g a ^^^ g b)
    (h : ∀ i : Fin 8, f (UInt8.ofNat (2 ^ i.val)) = g (UInt8.ofNat (2 ^ i.val))) (a : UInt8) : f a = g a := by
  have f0 : f 0 = 0 := by have := hf 0 0; simpa using this
  have g0 : g 0 = 0 := by have := hg 0 0; simpa using this
  have hb : ∀ (i : Fin 8) (x : UInt8), (x = 0 ∨ x = UInt8.ofNat (2 ^ i.val)) → f x = g x := by
    intro i x hx
    rcases hx with rfl | rfl
    · rw [f0, g0]
    · exact h i
  have hs : ∀ x : UInt8, x = (x &&& 1) ^^^ ((x &&& 2) ^^^ ((x &&& 4) ^^^ ((x &&& 8) ^^^ ((x &&& 16) ^^^ ((x &&& 32) ^^^ ((x &&& 64) ^^^ (x &&& 128))))))) := by
    exact all_u8 (by decide +kernel)
  have h0 : ∀ x : UInt8, x &&& 1 = 0 ∨ x &&& 1 = UInt8.ofNat (2 ^ (0 : Fin 8).val) := all_u8 (by decide +kernel)
  have h1 : ∀ x : UInt8, x &&& 2 = 0 ∨ x &&& 2 = UInt8.ofNat (2 ^ (1 : Fin 8).val) := all_u8 (by decide +kernel)
  have h2 : ∀ x : UInt8, x &&& 4 = 0 ∨ x &&& 4 = UInt8.ofNat (2 ^ (2 : Fin 8).val) := all_u8 (by decide +kernel)
  have h3 : ∀ x : UInt8, x &&& 8 = 0 ∨ x &&& 8 = UInt8.ofNat (2 ^ (3 : Fin 8).val) := all_u8 (by decide +kernel)
  have h4 : ∀ x : UInt8, x &&& 16 = 0 ∨ x &&& 16 = UInt8.ofNat (2 ^ (4 : Fin 8).val) := all_u8 (by decide +kernel)
  have h5 : ∀ x : UInt8, x &&& 32 = 0 ∨ x &&& 32 = UInt8.ofNat (2 ^ (5 : Fin 8).val) := all_u8 (by decide +kernel)
  have h6 : ∀ x : UInt8, x &&& 64 = 0 ∨ x &&& 64 = UInt8.ofNat (2 ^ (6 : Fin 8).val) := all_u8 (by decide +kernel)
  have h7 : ∀ x : UInt8, x &&& 128 = 0 ∨ x &&& 128 = UInt8.ofNat (2 ^ (7 : Fin 8).val) := all_u8 (by decide +kernel)
  rw [hs a]
  simp only [hf, hg]
  rw [hb 0 _ (h0 a), hb 1 _ (h1 a), hb 2 _ (h2 a), hb 3 _ (h3 a), hb 4 _ (h4 a), hb 5 _ (h5 a), hb 6 _ (h6 a), hb 7 _ (h7 a)]
theorem mul_comm (a b : UInt8) : mul a b = mul b a := by
  refine lin_ext (f := fun a => mul a b) (g := fun a => mul b a) (fun x y => xor_mul x y b) (fun x y => mul_xor b x y) (fun i => ?_) a
  refine lin_ext (f := fun b => mul (UInt8.ofNat (2 ^ i.val)) b) (g := fun b => mul b (UInt8.ofNat (2 ^ i.val))) (fun x y => mul_xor _ x y) (fun x y => xor_mul x y _) (fun j => ?_) b
  revert i j; decide +kernel
theorem mul_assoc (a b c : UInt8) : mul (mul a b) c = mul a (mul b c) := by
  refine lin_ext (f := fun a => mul (mul a b) c) (g := fun a => mul a (mul b c)) (fun x y => by simp only [xor_mul]) (fun x y => by simp only [xor_mul]) (fun i => ?_) a
  refine lin_ext (f := fun b => mul (mul (UInt8.ofNat (2 ^ i.val)) b) c) (g := fun b => mul (UInt8.ofNat (2 ^ i.val)) (mul b c)) (fun x y => by simp only [xor_mul, mul_xor]) (fun x y => by simp only [xor_mul, mul_xor]) (fun j => ?_) b
  refine lin_ext (f := fun c => mul (mul (UInt8.ofNat (2 ^ i.val)) (UInt8.ofNat (2 ^ j.val))) c) (g := fun c => mul (UInt8.ofNat (2 ^ i.val)) (mul (UInt8.ofNat (2 ^ j.val)) c)) (fun x y => by simp only [mul_xor]) (fun x y => by simp only [mul_xor]) (fun k => ?_) c
  revert i j k; decide +kernel
theorem mul_zero (a : UInt8) : mul a 0 = 0 := by rw [mul]; exact mulAux_zero _ _ _
theorem zero_mul (a : UInt8) : mul 0 a = 0 := by rw [mul_comm]; exact mul_zero a
theorem one_mul (a : UInt8) : mul 1 a = a := lin_ext (f := fun a => mul 1 a) (g := fun a => a) (fun x y => mul_xor 1 x y) (fun _ _ => rfl) (by decide +kernel) a
theorem mul_one (a : UInt8) : mul a 1 = a := by rw [mul_comm]; exact one_mul a
theorem mul_inv (a : UInt8) (h : a ≠ 0) : mul a (inv a) = 1 := by
  revert a; exact all_u8 (by decide +kernel)
theorem nibbles (a : UInt8) : UInt8.ofNat (bv a % 16).toNat ^^^ UInt8.ofNat (bv a / 16).toNat * 16 = a := by
  revert a; exact all_u8 (by decide +kernel)
end Gf
end Go.Proofs.Ytakedococfklgaa
/- Contracts of package gf256: double, Mul, Inv: the walks. -/
namespace Go.Proofs.Ytakedococfklgaa
open Go.RowKit Gf

attribute [local go_sem] Gf.xor_bits Gf.and_bits Gf.or_bits Gf.and128 Gf.and1 Gf.xor29 Gf.shl1 Gf.shr1 Gf.ne_zero_iff Gf.eq_zero_iff Gf.eq_one_iff Gf.beq_bytes Gf.bne_bytes Gf.bv_toNat

theorem ret_u8 {a b : UInt8} (h : a = b) : Ending.returned (B a) = .returned (B b) := by rw [h]

set_option maxHeartbeats 400000 in
theorem double_any (a : UInt8) (w : World) :
    Calls Try.prog 102 #[B a] w fun e w' => e = .returned (B (dbl a)) ∧ w = w' := by
  by_cases h : (a &&& 128 != 0) = true
  · go_enter Try.func102, Try.ntmps102
    go_wp2
    go_ret
    refine ⟨?_, rfl⟩
    show Ending.returned (B (a <<< 1 ^^^ 29)) = _
    rw [dbl, if_pos h]
  · have h' : (a &&& 128 != 0) = false := by simpa using h
    go_enter Try.func102, Try.ntmps102
    go_wp2
    go_ret
    refine ⟨?_, rfl⟩
    show Ending.returned (.int .u8 (bv a * (2 : Int) % (256 : Int))) = _
    rw [shl1, dbl, if_neg h]

set_option maxHeartbeats 400000 in
theorem mul_any (a b : UInt8) (w : World) :
    Calls Try.prog 76 #[B a, B b] w fun e w' => e = .returned (B (mul a b)) ∧ w = w' := by
  go_enter Try.func76, Try.ntmps76
  go_wp2
  go_loop [0, 1, 5] (fun x y p => ∃ a' b' p' : UInt8, x = B a' ∧ y = B b' ∧ p = B p' ∧ Hid (mulAux 8 a' b' p' = mul a b)) (fun _ y _ => (intOf y).toNat)
  case atStart => exact ⟨a, b, 0, rfl, rfl, rfl, Lib.hid rfl⟩
  case round =>
    obtain ⟨a', b', p', rfl, rfl, rfl, hm⟩ := hrel
    by_cases hb : b' = 0
    · have H : Hid (p' = mul a b) := by
        have := hm.out; subst hb; rw [mulAux_zero] at this; exact this
      clear hm
      have hb' : (b' != 0) = false := by simp [hb]
      have HB := Lib.hid hb
      clear hb
      go_wp2
      go_ret
      exact ⟨ret_u8 H.out, rfl⟩
    · have hb' : (b' != 0) = true := by simp [hb]
      have hlt := shr1_lt b' hb
      have hs := mulAux_step a' b' p' hb
      have HB := Lib.hid hb
      clear hb
      by_cases h1 : b' &&& 1 = 1
      · rw [if_pos h1] at hs
        have HS := Lib.hid (hs.symm.trans hm.out)
        have h1' : (b' &&& 1 == 1) = true := by simp [h1]
        clear hs h1 hm
        go_wp2_with (go_at_call 102; refine (double_any _ _).mono ?_; rintro e w' ⟨rfl, rfl⟩)
        go_round
        case rel => exact ⟨_, b' >>> 1, _, rfl, rfl, rfl, HS⟩
        case measure => simp only [intOf, Gf.bv_toNat]; omega
      · rw [if_neg h1] at hs
        have HS := Lib.hid (hs.symm.trans hm.out)
        have h1' : (b' &&& 1 == 1) = false := by simp [h1]
        clear hs h1 hm
        go_wp2_with (go_at_call 102; refine (double_any _ _).mono ?_; rintro e w' ⟨rfl, rfl⟩)
        go_round
        case rel => exact ⟨_, b' >>> 1, _, rfl, rfl, rfl, HS⟩
        case measure => simp only [intOf, Gf.bv_toNat]; omega

set_option maxHeartbeats 400000 in
theorem inv_any (a : UInt8) (h : (a == 0) = false) (w : World) :
    Calls Try.prog 101 #[B a] w fun e w' => e = .returned (.tuple #[B (inv a), .int .i64 0]) ∧ w = w' := by
  go_enter Try.func101, Try.ntmps101
  go_wp2
  go_loop [0, 4, 7] (fun x i k => ∃ (a' i' : UInt8) (n : Nat), x = B a' ∧ i = B i' ∧ k = .int .i64 (n : Int) ∧ n ≤ 7 ∧ Hid (invAux (7 - n) a' i' = inv a)) (fun _ _ k => 7 - (intOf k).toNat)
  case atStart => exact ⟨a, 1, 0, rfl, rfl, rfl, by omega, Lib.hid rfl⟩
  case round =>
    obtain ⟨a', i', n, rfl, rfl, rfl, hn, hm⟩ := hrel
    by_cases hlt : n < 7
    · have HS : Hid (invAux (7 - (n + 1)) (mul a' a') (mul i' (mul a' a')) = inv a) := by
        have e : 7 - n = (7 - (n + 1)) + 1 := by omega
        have := hm.out; rw [e, invAux] at this; exact this
      clear hm
      go_wp2_with (go_at_call 76; refine (mul_any _ _ _).mono ?_; rintro e w' ⟨rfl, rfl⟩)
      go_round
      case rel => exact ⟨_, _, n + 1, rfl, rfl, by go_num, by omega, HS⟩
      case measure => simp [intOf]; omega
    · have HS : Hid (i' = inv a) := by
        have e : 7 - n = 0 := by omega
        have := hm.out; rw [e, invAux] at this; exact this
      clear hm
      go_wp2
      go_ret2
      exact ⟨by rw [← HS.out]; rfl, rfl⟩

set_option maxHeartbeats 400000 in
theorem inv_zero (w : World) :
    Calls Try.prog 101 #[B 0] w fun e w' => e = .returned (.tuple #[B 0, .int .i64 1]) ∧ w = w' := by
  have h : ((0 : UInt8) == 0) = true := rfl
  go_enter Try.func101, Try.ntmps101
  go_wp2
  go_ret2
  exact ⟨rfl, rfl⟩
end Go.Proofs.Ytakedococfklgaa
/- Words for memory: a block known whole, slices of bytes, of ints and of byte slices that read as lists. No program in sight. -/
namespace Go.Proofs.Ytakedococfklgaa
open Go Go.RowKit Gf

/-- Block g is just the cells cs of element type t, none frozen. -/
def Blk (w : World) (g : Nat) (t : TypeId) (cs : Array Value) : Prop := w.heap[g]? = some (.cells cs t (0, 0))

section
variable {w w' : World} {g : Nat} {t : TypeId} {cs : Array Value}
theorem Blk.lt (h : Blk w g t cs) : g < w.heap.size := by
  rcases Nat.lt_or_ge g w.heap.size with hlt | hge
  · exact hlt
  · unfold Blk at h; rw [Array.getElem?_eq_none hge] at h; cases h
theorem Blk.cell (h : Blk w g t cs) (i : Nat) : w.cell? ⟨g, i, none⟩ = cs[i]? := cell_of_row w g i cs t (0, 0) h
theorem Blk.frozen (h : Blk w g t cs) (i : Nat) : w.frozen? ⟨g, i, none⟩ = false := by
  unfold Blk at h
  simp [World.frozen?, h]
theorem Blk.new (w : World) (t : TypeId) (cs : Array Value) : Blk (w.alloc (.cells cs t)) w.heap.size t cs := heap_alloc_new w _
theorem Blk.drew (h : Blk w g t cs) : Blk w.drew g t cs := h
theorem Blk.drewN (h : Blk w g t cs) (n : Nat) : Blk (w.drewN n) g t cs := h
theorem Blk.alloc (h : Blk w g t cs) (o : Obj) : Blk (w.alloc o) g t cs := (Below.heap_alloc w o g h.lt).trans h
theorem Blk.set_ (h : Blk w g t cs) (i : Nat) (u : Value) : Blk (w.setCell ⟨g, i, none⟩ u) g t (cs.setIfInBounds i u) := by
  unfold Blk at h ⊢
  simp [World.setCell, Array.getElem?_modify, h]
theorem Blk.far (h : Blk w g t cs) {p : Addr} (hp : g ≠ p.block) (u : Value) : Blk (w.setCell p u) g t cs := (Below.heap_setCell w p u g hp).trans h
theorem Blk.below {B : Nat} (h : Blk w g t cs) (hb : Below B w w') (hg : g < B) : Blk w' g t cs := (hb.block g hg).trans h
theorem Blk.kept (h : Blk w g t cs) (hb : Below w.heap.size w w') : Blk w' g t cs := (hb.block g h.lt).trans h
theorem Blk.inj {t' : TypeId} {cs' : Array Value} (h : Blk w g t cs) (h' : Blk w g t' cs') : cs = cs' := by
  unfold Blk at h h'
  rw [h] at h'
  injection h' with h'
  injection h' with h1
end

theorem below_drewN {B : Nat} {a w : World} (h : Below B a w) (n : Nat) : Below B a (w.drewN n) := ⟨h.os, h.tape, h.output, h.size, h.block⟩
theorem below_ofDrew {w w' : World} (h : Below w.drew.heap.size w.drew w') : Below w.heap.size w w' := ⟨h.os, h.tape, h.output, h.size, h.block⟩
theorem size_drewN (w : World) (n : Nat) : (w.drewN n).heap.size = w.heap.size := rfl

/-- A cell that is there lies below the heap's size. -/
theorem cell_lt {w : World} {p : Addr} {v : Value} (h : w.cell? p = some v) : p.block < w.heap.size := by
  rcases Nat.lt_or_ge p.block w.heap.size with hlt | hge
  · exact hlt
  · unfold World.cell? at h; rw [Array.getElem?_eq_none hge] at h; cases h

/-- What was there is there. -/
theorem cell_kept {w w' : World} {p : Addr} {v : Value} (hb : Below w.heap.size w w') (h : w.cell? p = some v) : w'.cell? p = some v :=
  (hb.cell (cell_lt h)).trans h

/-- A call's own frame, twice. -/
theorem below_then {w w1 w2 : World} (h : Below w.heap.size w w1) (k : Below w1.heap.size w1 w2) : Below w.heap.size w w2 :=
  h.trans (k.mono h.size)
theorem below_thenB {B : Nat} {w w1 w2 : World} (h : Below B w w1) (hB : B ≤ w1.heap.size) (k : Below w1.heap.size w1 w2) : Below B w w2 :=
  h.trans (k.mono hB)

/-- Element k of a list of bytes, of rows, of ints: plain defs, so that the walk's simp does not respell them. -/
def gB (l : List UInt8) (k : Nat) : UInt8 := l.getD k 0
def gR (m : List (List UInt8)) (k : Nat) : List UInt8 := m.getD k []
def gI (z : List Int) (k : Nat) : Int := z.getD k 0
theorem gB_eq {l : List UInt8} {k : Nat} (h : k < l.length) : gB l k = l[k] := by simp [gB, List.getD, List.getElem?_eq_getElem h]
theorem gR_eq {m : List (List UInt8)} {k : Nat} (h : k < m.length) : gR m k = m[k] := by simp [gR, List.getD, List.getElem?_eq_getElem h]
theorem gI_eq {z : List Int} {k : Nat} (h : k < z.length) : gI z k = z[k] := by simp [gI, List.getD, List.getElem?_eq_getElem h]
theorem gR_set_self {m : List (List UInt8)} {k : Nat} (h : k < m.length) (l : List UInt8) : gR (m.set k l) k = l := by
  rw [gR, List.getD_eq_getElem?_getD, List.getElem?_set_self h, Option.getD_some]
theorem gR_set_ne {m : List (List UInt8)} {k j : Nat} (h : k ≠ j) (l : List UInt8) : gR (m.set k l) j = gR m j := by
  rw [gR, gR, List.getD_eq_getElem?_getD, List.getElem?_set_ne h, ← List.getD_eq_getElem?_getD]

/-- Of what was there, only blocks in S may have turned. -/
structure Kp (S : Nat → Prop) (w w' : World) : Prop where
  os : w'.os = w.os
  tape : w'.tape = w.tape
  output : w'.output = w.output
  size : w.heap.size ≤ w'.heap.size
  block : ∀ k, k < w.heap.size → ¬ S k → w'.heap[k]? = w.heap[k]?

section
variable {S S' : Nat → Prop} {w w1 w2 : World}
theorem Kp.refl (S : Nat → Prop) (w : World) : Kp S w w := ⟨rfl, rfl, rfl, Nat.le_refl _, fun _ _ _ => rfl⟩
theorem Kp.mono (h : Kp S w w1) (hs : ∀ k, k < w.heap.size → S k → S' k) : Kp S' w w1 := ⟨h.os, h.tape, h.output, h.size, fun k hk hn => h.block k hk (fun hS => hn (hs k hk hS))⟩
theorem Kp.trans (h : Kp S w w1) (k : Kp S w1 w2) : Kp S w w2 :=
  ⟨k.os.trans h.os, k.tape.trans h.tape, k.output.trans h.output, Nat.le_trans h.size k.size, fun i hi hn => (k.block i (Nat.lt_of_lt_of_le hi h.size) hn).trans (h.block i hi hn)⟩
theorem Kp.of_below (h : Below w.heap.size w w1) : Kp S w w1 := ⟨h.os, h.tape, h.output, h.size, fun i hi _ => h.block i hi⟩
theorem Kp.below (h : Kp S w w1) {b : Nat} (hb : b ≤ w.heap.size) (hs : ∀ k, S k → b ≤ k) : Below b w w1 :=
  ⟨h.os, h.tape, h.output, h.size, fun i hi => h.block i (Nat.lt_of_lt_of_le hi hb) (fun hS => by have := hs i hS; omega)⟩
theorem Kp.then (h : Kp S w w1) (k : Below w1.heap.size w1 w2) : Kp S w w2 := h.trans (Kp.of_below k)
theorem Kp.drew (h : Kp S w w1) : Kp S w w1.drew := ⟨h.os, h.tape, h.output, h.size, h.block⟩
theorem Kp.drewN (h : Kp S w w1) (n : Nat) : Kp S w (w1.drewN n) := ⟨h.os, h.tape, h.output, h.size, h.block⟩
theorem Kp.alloc (h : Kp S w w1) (o : Obj) : Kp S w (w1.alloc o) :=
  h.trans ⟨rfl, rfl, rfl, by simp, fun i hi _ => Below.heap_alloc w1 o i hi⟩
theorem Kp.set (h : Kp S w w1) {p : Addr} (hp : S p.block ∨ w.heap.size ≤ p.block) (v : Value) : Kp S w (w1.setCell p v) :=
  ⟨h.os, h.tape, h.output, by rw [World.size_setCell]; exact h.size, fun i hi hn => (Below.heap_setCell w1 p v i (fun e => by
    subst e
    rcases hp with hp | hp
    · exact hn hp
    · omega)).trans (h.block i hi hn)⟩
theorem Kp.blk {g : Nat} {t : TypeId} {cs : Array Value} (h : Kp S w w1) (hb : Blk w g t cs) (hn : ¬ S g) : Blk w1 g t cs := (h.block g hb.lt hn).trans hb
theorem Kp.cell (h : Kp S w w1) {p : Addr} {v : Value} (hc : w.cell? p = some v) (hn : ¬ S p.block) : w1.cell? p = some v :=
  (World.cell?_of_block (h.block p.block (cell_lt hc) hn)).trans hc
theorem Kp.own (h : Kp S w w1) {base : Nat} {e : TypeId} {v : Value} {n : Nat} {xs : List Value} (ho : w.ownsRow base e 1 v n xs) (hn : ∀ g, v.ownBlock = some g → ¬ S g) : w1.ownsRow base e 1 v n xs := by
  refine ⟨ho.1, ?_⟩
  rcases ho.2 with h0 | ⟨g, cap, cur, rfl, hb, hh, hr⟩
  · exact .inl h0
  · refine .inr ⟨g, cap, cur, rfl, hb, ?_, hr⟩
    have hlt : g < w.heap.size := by
      rcases Nat.lt_or_ge g w.heap.size with h1 | h1
      · exact h1
      · rw [Array.getElem?_eq_none h1] at hh; cases hh
    exact (h.block g hlt (hn g rfl)).trans hh
theorem Kp.grown (h : Kp S w w1) {row : Option Nat} (hg : w1.grownBy w2 row) (hr : ∀ k, row = some k → S k ∨ w.heap.size ≤ k) : Kp S w w2 :=
  ⟨hg.os.trans h.os, hg.tape.trans h.tape, hg.output.trans h.output, Nat.le_trans h.size hg.size, fun i hi hn =>
    (hg.block i (Nat.lt_of_lt_of_le hi h.size) (fun e => by
      rcases hr i e.symm with h1 | h1
      · exact hn h1
      · omega)).trans (h.block i hi hn)⟩
end

/-- The greatest capacity in bytes that a slice is let to have. -/
def lim : Nat := 140737488355328

/-- The slice value '.slice A n c' has the cells f 0, f 1, .. f (n - 1). -/
def Cells (w : World) (A : Option Addr) (n : Nat) (f : Nat → Value) : Prop :=
  ∀ k, k < n → ∃ g o, A = some ⟨g, o, none⟩ ∧ w.cell? ⟨g, o + k, none⟩ = some (f k)

theorem Cells.kept {w w' : World} {A : Option Addr} {n : Nat} {f : Nat → Value} (h : Cells w A n f) (hb : Below w.heap.size w w') : Cells w' A n f :=
  fun k hk => let ⟨g, o, e, hc⟩ := h k hk; ⟨g, o, e, cell_kept hb hc⟩
theorem Cells.drewN {w : World} {A : Option Addr} {n : Nat} {f : Nat → Value} (h : Cells w A n f) (k : Nat) : Cells (w.drewN k) A n f := h
/-- A store at a cell that holds another kind of value turns none of them. -/
theorem Cells.store {w : World} {A : Option Addr} {n : Nat} {f : Nat → Value} (h : Cells w A n f) {p : Addr} {u : Value} (hp : w.cell? p = some u) (hne : ∀ k, k < n → u ≠ f k) (v : Value) : Cells (w.setCell p v) A n f :=
  fun k hk => let ⟨g, o, e, hc⟩ := h k hk
    ⟨g, o, e, (World.cell?_setCell_other w p _ v (fun e' => by rw [← e', hp] at hc; injection hc with hc; exact hne k hk hc)).trans hc⟩

/-- Bytes. -/
def BS (w : World) (A : Option Addr) (n c : Nat) (l : List UInt8) : Prop :=
  l.length = n ∧ n ≤ c ∧ n ≤ lim ∧ Cells w A n (fun k => B (gB l k))
/-- Ints. -/
def IS (w : World) (A : Option Addr) (n c : Nat) (l : List Int) : Prop :=
  l.length = n ∧ n ≤ c ∧ n * 8 ≤ lim ∧ Cells w A n (fun k => .int .i64 (gI l k))
/-- Slices of bytes. -/
def MS (w : World) (A : Option Addr) (n c : Nat) (m : List (List UInt8)) : Prop :=
  m.length = n ∧ n ≤ c ∧ n * 24 ≤ lim ∧ ∀ k, k < n → ∃ g o A' n' c', A = some ⟨g, o, none⟩ ∧ w.cell? ⟨g, o + k, none⟩ = some (.slice A' n' c') ∧ BS w A' n' c' (gR m k)

section
variable {w w' : World} {A : Option Addr} {n c : Nat} {l : List UInt8} {m : List (List UInt8)} {z : List Int}
theorem BS.kept (h : BS w A n c l) (hb : Below w.heap.size w w') : BS w' A n c l := ⟨h.1, h.2.1, h.2.2.1, h.2.2.2.kept hb⟩
theorem BS.drew (h : BS w A n c l) : BS w.drew A n c l := h
theorem IS.drew (h : IS w A n c z) : IS w.drew A n c z := h
theorem MS.drew (h : MS w A n c m) : MS w.drew A n c m := h
theorem BS.drewN (h : BS w A n c l) (k : Nat) : BS (w.drewN k) A n c l := h
theorem IS.kept (h : IS w A n c z) (hb : Below w.heap.size w w') : IS w' A n c z := ⟨h.1, h.2.1, h.2.2.1, h.2.2.2.kept hb⟩
theorem MS.kept (h : MS w A n c m) (hb : Below w.heap.size w w') : MS w' A n c m :=
  ⟨h.1, h.2.1, h.2.2.1, fun k hk => let ⟨g, o, A', n', c', e, hc, hr⟩ := h.2.2.2 k hk; ⟨g, o, A', n', c', e, cell_kept hb hc, hr.kept hb⟩⟩
theorem BS.at_ (h : BS w A n c l) (hb : Below w.heap.size w w') {k : Nat} (hk : k < n) : ∃ g o, A = some ⟨g, o, none⟩ ∧ w'.cell? ⟨g, o + k, none⟩ = some (B (gB l k)) :=
  (h.kept hb).2.2.2 k hk
theorem IS.at_ (h : IS w A n c z) (hb : Below w.heap.size w w') {k : Nat} (hk : k < n) : ∃ g o, A = some ⟨g, o, none⟩ ∧ w'.cell? ⟨g, o + k, none⟩ = some (.int .i64 (gI z k)) :=
  (h.kept hb).2.2.2 k hk
theorem MS.at_ (h : MS w A n c m) (hb : Below w.heap.size w w') {k : Nat} (hk : k < n) :
    ∃ g o A' n' c', A = some ⟨g, o, none⟩ ∧ w'.cell? ⟨g, o + k, none⟩ = some (.slice A' n' c') ∧ BS w' A' n' c' (gR m k) :=
  (h.kept hb).2.2.2 k hk
theorem BS.len_le (h : BS w A n c l) : n ≤ 140737488355328 := by have := h.2.2.1; unfold lim at this; omega
theorem IS.len_le (h : IS w A n c z) : n * 8 ≤ 140737488355328 := by have := h.2.2.1; unfold lim at this; omega
theorem MS.len_le (h : MS w A n c m) : n * 24 ≤ 140737488355328 := by have := h.2.2.1; unfold lim at this; omega
theorem BS.nil : BS w none 0 0 [] := ⟨rfl, Nat.le_refl _, by decide, fun k hk => absurd hk (by omega)⟩
theorem IS.nil : IS w none 0 0 [] := ⟨rfl, Nat.le_refl _, by decide, fun k hk => absurd hk (by omega)⟩
theorem MS.nil : MS w none 0 0 [] := ⟨rfl, Nat.le_refl _, by decide, fun k hk => absurd hk (by omega)⟩
end

/-- A list of bytes as the cells of a block. -/
def row (l : List UInt8) : Array Value := (l.map B).toArray
theorem row_size (l : List UInt8) : (row l).size = l.length := by simp [row]
theorem row_get (l : List UInt8) (k : Nat) (h : k < l.length) : (row l)[k]? = some (B (gB l k)) := by
  rw [gB_eq h]; simp [row, List.getElem?_eq_getElem h]
theorem row_set (l : List UInt8) (k : Nat) (b : UInt8) : (row l).setIfInBounds k (B b) = row (l.set k b) := by
  simp [row, List.map_set]

theorem BS.of_own {w : World} {base : Nat} {t : TypeId} {v : Value} {n : Nat} {l : List UInt8} (h : w.ownsRow base t 1 v n (l.map B)) (hn : n ≤ lim) : ∃ A c, v = .slice A n c ∧ BS w A n c l := by
  have hl : l.length = n := by have := h.1; simpa using this
  rcases h.2 with ⟨rfl, rfl⟩ | ⟨g, cap, cur, rfl, _, hh, hnc, _, hsz, htk⟩
  · exact ⟨none, 0, rfl, hl, Nat.le_refl _, hn, fun k hk => absurd hk (by omega)⟩
  · refine ⟨some ⟨g, 0, none⟩, cap, rfl, hl, hnc, hn, fun k hk => ⟨g, 0, rfl, ?_⟩⟩
    have hkl : k < l.length := by omega
    show _ = some (B (gB l k))
    rw [Nat.zero_add, h.cellAt k (by omega), gB_eq hkl]
    simp [List.getElem?_eq_getElem hkl]
def zeros (n : Nat) : List UInt8 := List.replicate n 0
theorem zeros_length (n : Nat) : (zeros n).length = n := by simp [zeros]
/-- The first k elements mapped, the others 0. -/
def part (f : UInt8 → UInt8) (l : List UInt8) (k : Nat) : List UInt8 := (l.take k).map f ++ List.replicate (l.length - k) 0
theorem part_zero (f : UInt8 → UInt8) (l : List UInt8) : part f l 0 = zeros l.length := by simp [part, zeros]
theorem part_all (f : UInt8 → UInt8) (l : List UInt8) (k : Nat) (h : l.length ≤ k) : part f l k = l.map f := by
  simp [part, List.take_of_length_le h, Nat.sub_eq_zero_of_le h]
theorem part_length (f : UInt8 → UInt8) (l : List UInt8) (k : Nat) (h : k ≤ l.length) : (part f l k).length = l.length := by
  simp [part]; omega
theorem part_set (f : UInt8 → UInt8) (l : List UInt8) (k : Nat) (h : k < l.length) : (part f l k).set k (f (gB l k)) = part f l (k + 1) := by
  have e : l.length - k = (l.length - (k + 1)) + 1 := by omega
  have hl : ((l.take k).map f).length = k := by simp; omega
  unfold part
  rw [List.set_append, if_neg (by omega), hl, Nat.sub_self, e, List.replicate_succ, List.set_cons_zero, List.take_succ_eq_append_getElem h, List.map_append, List.append_assoc]
  simp only [List.map_cons, List.map_nil, List.cons_append, List.nil_append, gB_eq h]

/-- A block that is known whole, as a slice from its head. -/
theorem BS.of_blk {w : World} {g n : Nat} {t : TypeId} {l : List UInt8} (h : Blk w g t (row l)) (hn : l.length = n) (hl : n ≤ lim) : BS w (some ⟨g, 0, none⟩) n n l :=
  ⟨hn, Nat.le_refl _, hl, fun k hk => ⟨g, 0, rfl, by rw [Nat.zero_add, h.cell]; exact row_get l k (by omega)⟩⟩

/-- Block g holds slices that read as the rows of m. -/
def RowsBlk (w : World) (g : Nat) (t : TypeId) (cs : Array Value) (m : List (List UInt8)) : Prop :=
  Blk w g t cs ∧ m.length ≤ cs.size ∧ ∀ i, i < m.length → ∃ A n c, cs[i]? = some (.slice A n c) ∧ BS w A n c (gR m i)

section
variable {w w' : World} {g : Nat} {t : TypeId} {cs : Array Value} {m : List (List UInt8)}
theorem RowsBlk.kept (h : RowsBlk w g t cs m) (hb : Below w.heap.size w w') : RowsBlk w' g t cs m :=
  ⟨h.1.kept hb, h.2.1, fun i hi => let ⟨A, n, c, e, hr⟩ := h.2.2 i hi; ⟨A, n, c, e, hr.kept hb⟩⟩
theorem RowsBlk.drew (h : RowsBlk w g t cs m) : RowsBlk w.drew g t cs m := h
theorem RowsBlk.drewN (h : RowsBlk w g t cs m) (k : Nat) : RowsBlk (w.drewN k) g t cs m := h
theorem BS.store {A : Option Addr} {n c : Nat} {l : List UInt8} (h : BS w A n c l) {p : Addr} {B' : Option Addr} {n' c' : Nat} (hp : w.cell? p = some (.slice B' n' c')) (v : Value) : BS (w.setCell p v) A n c l :=
  ⟨h.1, h.2.1, h.2.2.1, h.2.2.2.store hp (fun k _ e => by cases e) v⟩
theorem BS.far {A : Option Addr} {n c : Nat} {l : List UInt8} (h : BS w A n c l) {p : Addr} (hp : ∀ g o, A = some ⟨g, o, none⟩ → g ≠ p.block) (v : Value) : BS (w.setCell p v) A n c l :=
  ⟨h.1, h.2.1, h.2.2.1, fun k hk => by
    obtain ⟨g, o, e, hc⟩ := h.2.2.2 k hk
    exact ⟨g, o, e, (World.cell?_setCell_other w p _ v (fun e' => hp g o e (by rw [e']))).trans hc⟩⟩
theorem RowsBlk.cell (h : RowsBlk w g t cs m) {i : Nat} (hi : i < m.length) : ∃ A n c, w.cell? ⟨g, i, none⟩ = some (.slice A n c) ∧ BS w A n c (gR m i) := by
  obtain ⟨A, n, c, e, hr⟩ := h.2.2 i hi
  exact ⟨A, n, c, by rw [h.1.cell]; exact e, hr⟩
theorem RowsBlk.set_ (h : RowsBlk w g t cs m) {i : Nat} (hi : i < m.length) {A : Option Addr} {n c : Nat} {l : List UInt8} (hl : BS w A n c l) :
    RowsBlk (w.setCell ⟨g, i, none⟩ (.slice A n c)) g t (cs.setIfInBounds i (.slice A n c)) (m.set i l) := by
  obtain ⟨A0, n0, c0, hc0, _⟩ := h.cell hi
  refine ⟨h.1.set_ i _, by simp [h.2.1], fun j hj => ?_⟩
  rw [List.length_set] at hj
  by_cases e : i = j
  · subst e
    refine ⟨A, n, c, by rw [Array.getElem?_setIfInBounds_self_of_lt (by have := h.2.1; omega)], ?_⟩
    rw [gR_set_self hi]
    exact hl.store hc0 _
  · obtain ⟨A1, n1, c1, e1, hr⟩ := h.2.2 j hj
    refine ⟨A1, n1, c1, by rw [Array.getElem?_setIfInBounds_ne e]; exact e1, ?_⟩
    rw [gR_set_ne e]
    exact hr.store hc0 _
theorem RowsBlk.far (h : RowsBlk w g t cs m) {p : Addr} (hp : g ≠ p.block) {u : Value} (hu : w.cell? p = some u) (hne : ∀ b, u ≠ B b) (v : Value) : RowsBlk (w.setCell p v) g t cs m :=
  ⟨h.1.far hp v, h.2.1, fun i hi => let ⟨A, n, c, e, hr⟩ := h.2.2 i hi; ⟨A, n, c, e, hr.1, hr.2.1, hr.2.2.1, hr.2.2.2.store hu (fun _ _ => hne _) v⟩⟩
theorem RowsBlk.toMS (h : RowsBlk w g t cs m) {n c : Nat} (hn : m.length = n) (hc : n ≤ c) (hl : n * 24 ≤ lim) : MS w (some ⟨g, 0, none⟩) n c m :=
  ⟨hn, hc, hl, fun k hk => by
    subst hn
    obtain ⟨A, n, c, e, hr⟩ := h.cell hk
    exact ⟨g, 0, A, n, c, rfl, by rw [Nat.zero_add]; exact e, hr⟩⟩
end

/-- v is a new slice of byte slices over a block of its own; nothing old has turned. -/
def NewM (t : TypeId) (m : List (List UInt8)) (w : World) (v : Value) (w' : World) : Prop :=
  ∃ g cs n, v = .slice (some ⟨g, 0, none⟩) n n ∧ m.length = n ∧ w.heap.size ≤ g ∧ RowsBlk w' g t cs m ∧ Below w.heap.size w w'

/-- v is a new byte slice over a block of its own that holds l; nothing old has turned. -/
def NewB (t : TypeId) (l : List UInt8) (w : World) (v : Value) (w' : World) : Prop :=
  ∃ g n, v = .slice (some ⟨g, 0, none⟩) n n ∧ l.length = n ∧ w.heap.size ≤ g ∧ Blk w' g t (row l) ∧ Below w.heap.size w w'
/-- dst plus src times c, byte by byte. -/
def muladd (dst src : List UInt8) (c : UInt8) : List UInt8 := List.zipWith (fun s d => mul c s ^^^ d) src dst
/-- After k rounds of MulAdd. -/
def mpart (dst src : List UInt8) (c : UInt8) (k : Nat) : List UInt8 := (muladd dst src c).take k ++ (src.map (mul c)).drop k
theorem muladd_length (dst src : List UInt8) (c : UInt8) (h : dst.length = src.length) : (muladd dst src c).length = src.length := by
  simp [muladd]; omega
theorem mpart_zero (dst src : List UInt8) (c : UInt8) : mpart dst src c 0 = src.map (mul c) := by simp [mpart]
theorem mpart_all (dst src : List UInt8) (c : UInt8) (h : dst.length = src.length) (k : Nat) (hk : src.length ≤ k) : mpart dst src c k = muladd dst src c := by
  simp [mpart, List.take_of_length_le (show (muladd dst src c).length ≤ k by rw [muladd_length _ _ _ h]; exact hk), hk]
theorem mpart_length (dst src : List UInt8) (c : UInt8) (h : dst.length = src.length) (k : Nat) (hk : k ≤ src.length) : (mpart dst src c k).length = src.length := by
  simp [mpart, muladd_length _ _ _ h]; omega
theorem mpart_get (dst src : List UInt8) (c : UInt8) (h : dst.length = src.length) (k : Nat) (hk : k < src.length) : gB (mpart dst src c k) k = mul c (gB src k) := by
  have hl : ((muladd dst src c).take k).length = k := by simp [muladd_length _ _ _ h]; omega
  simp only [mpart, gB, List.getD_eq_getElem?_getD]
  rw [List.getElem?_append_right (by omega), hl, Nat.sub_self, List.getElem?_drop]
  simp [List.getElem?_eq_getElem hk]
theorem mpart_set (dst src : List UInt8) (c : UInt8) (h : dst.length = src.length) (k : Nat) (hk : k < src.length) :
    (mpart dst src c k).set k (mul c (gB src k) ^^^ gB dst k) = mpart dst src c (k + 1) := by
  have hm : k < (muladd dst src c).length := by rw [muladd_length _ _ _ h]; exact hk
  have hl : ((muladd dst src c).take k).length = k := by simp; omega
  have hd : k < (src.map (mul c)).length := by simpa using hk
  have e : (muladd dst src c)[k] = mul c (gB src k) ^^^ gB dst k := by
    rw [gB_eq hk, gB_eq (show k < dst.length by omega)]; simp [muladd]
  unfold mpart
  rw [List.set_append, if_neg (by omega), hl, Nat.sub_self, List.drop_eq_getElem_cons hd, List.set_cons_zero, List.take_succ_eq_append_getElem hm, e, List.append_assoc]
  rfl
end Go.Proofs.Ytakedococfklgaa
/- Closed facts about the program's tables, and 'make' of the element types that the chapter uses. -/
namespace Go.Proofs.Ytakedococfklgaa
open Go Go.RowKit Gf

theorem infoU8 : (Try.prog.info? 5).map (fun i => (i.zero, i.size, i.bytes)) = some (some (.int .u8 0), 1, 1) := by kernel_rfl
theorem infoBytes : (Try.prog.info? 22).map (fun i => (i.zero, i.size, i.bytes)) = some (some (.slice none 0 0), 1, 24) := by kernel_rfl
theorem infoInt : (Try.prog.info? 3).map (fun i => (i.zero, i.size, i.bytes)) = some (some (.int .i64 0), 1, 8) := by kernel_rfl

theorem made_one (z : Value) (n : Nat) : madeCells #[z] n = (List.replicate n z).toArray := by
  rw [← toList_madeCells_one]

theorem make_bytes (n : Nat) (h : n ≤ 140737488355328) (w : World) :
    (Instr.makeSlice 22 (.int .i64 (n : Int)) (.int .i64 (n : Int))).run Try.prog w = .ok (.slice (some ⟨w.heap.size, 0, none⟩) n n) (w.alloc (.cells (row (zeros n)) 5)) := by
  obtain ⟨i, hi, hz, hs, hb⟩ := info_parts infoU8
  have hr := run_make (P := Try.prog) w 22 5 i _ Try.underlying22 hi hz .i64 .i64 n n (by omega) (by omega) (by rw [hb]; omega) (by omega)
  rw [hr, hs]
  simp only [Int.toNat_natCast, Value.cells, Nat.mul_one]
  rw [made_one]
  simp [row, zeros]; rfl

theorem make_rows (n : Nat) (h : n * 24 ≤ 140737488355328) (w : World) :
    (Instr.makeSlice 23 (.int .i64 (n : Int)) (.int .i64 (n : Int))).run Try.prog w = .ok (.slice (some ⟨w.heap.size, 0, none⟩) n n) (w.alloc (.cells (Array.replicate n (.slice none 0 0)) 22)) := by
  obtain ⟨i, hi, hz, hs, hb⟩ := info_parts infoBytes
  have hr := run_make (P := Try.prog) w 23 22 i _ Try.underlying23 hi hz .i64 .i64 n n (by omega) (by omega) (by rw [hb]; omega) (by omega)
  rw [hr, hs]
  simp only [Int.toNat_natCast, Value.cells, Nat.mul_one]
  rw [made_one]
  simp
end Go.Proofs.Ytakedococfklgaa
/- Contracts of package gf256 that touch memory: multiplier and its closure, Scale, MulAdd. -/
namespace Go.Proofs.Ytakedococfklgaa
open Go.RowKit Gf

attribute [local go_sem] Gf.xor_bits Gf.and_bits Gf.or_bits Gf.and128 Gf.and1 Gf.xor29 Gf.shl1 Gf.shr1 Gf.ne_zero_iff Gf.eq_zero_iff Gf.eq_one_iff Gf.beq_bytes Gf.bne_bytes Gf.bv_toNat

theorem mul_int (x y : Int) (w : World) (hx : 0 ≤ x) (hx' : x < 256) (hy : 0 ≤ y) (hy' : y < 256) :
    Calls Try.prog 76 #[.int .u8 x, .int .u8 y] w fun e w' => e = .returned (B (mul (UInt8.ofNat x.toNat) (UInt8.ofNat y.toNat))) ∧ w = w' := by
  have h := mul_any (UInt8.ofNat x.toNat) (UInt8.ofNat y.toNat) w
  rw [B, B, bv_ofNat x hx hx', bv_ofNat y hy hy'] at h
  exact h

/-- The lower table of multiplier after k rounds. -/
def low (c : UInt8) (k : Nat) : List UInt8 := (List.range 16).map fun i => if i < k then mul c (UInt8.ofNat i) else 0
def high (c : UInt8) (k : Nat) : List UInt8 := (List.range 16).map fun i => if i < k then mul c (UInt8.ofNat i * 16) else 0
theorem low_length (c : UInt8) (k : Nat) : (low c k).length = 16 := by simp [low]
theorem high_length (c : UInt8) (k : Nat) : (high c k).length = 16 := by simp [high]
theorem set_range (f : Nat → UInt8) (k : Nat) (_hk : k < 16) : ((List.range 16).map fun i => if i < k then f i else 0).set k (f k) = (List.range 16).map fun i => if i < k + 1 then f i else 0 := by
  apply List.ext_getElem (by simp)
  intro i h1 h2
  rw [List.getElem_set]
  simp only [List.getElem_map, List.getElem_range]
  by_cases h : k = i
  · subst h; simp
  · rw [if_neg h]
    by_cases h3 : i < k
    · rw [if_pos h3, if_pos (by omega)]
    · rw [if_neg h3, if_neg (by omega)]
theorem low_set (c : UInt8) (k : Nat) (hk : k < 16) : (low c k).set k (mul c (UInt8.ofNat k)) = low c (k + 1) := set_range (fun i => mul c (UInt8.ofNat i)) k hk
theorem high_set (c : UInt8) (k : Nat) (hk : k < 16) : (high c k).set k (mul c (UInt8.ofNat k * 16)) = high c (k + 1) := set_range (fun i => mul c (UInt8.ofNat i * 16)) k hk

def Tabs (c : UInt8) (g k : Nat) (w w' : World) : Prop :=
  Blk w' g 131 (row (low c k)) ∧ Blk w' (g + 1) 131 (row (high c k)) ∧ Below g w w' ∧ w'.heap.size = g + 2

set_option maxHeartbeats 400000 in
theorem multiplier_any (c : UInt8) (w : World) :
    Calls Try.prog 83 #[B c] w fun e w' => e = .returned (.func (.func 103) #[] #[.pointer (some ⟨w.heap.size, 0, none⟩), .pointer (some ⟨w.heap.size + 1, 0, none⟩)]) ∧ Tabs c w.heap.size 16 w w' := by
  have hmf : ∀ (fn : Fn) (first cap : Array Value) (w : World), (Instr.makeFunc fn first cap).run Try.prog w = .ok (.func fn first cap) w := fun _ _ _ _ => rfl
  go_enter Try.func83, Try.ntmps83
  go_wp2
  go_loopw [6] (fun i wr => ∃ k : Nat, k ≤ 16 ∧ i = .int .i64 (k : Int) ∧ Tabs c w.heap.size k w wr) (fun i _ => 16 - (intOf i).toNat)
  case atStart =>
    refine ⟨0, by omega, rfl, ?_, ?_, ?_, ?_⟩
    · exact (Blk.new w _ _).alloc _
    · have h := Blk.new (w.alloc (.cells (row (low c 0)) 131)) 131 (row (high c 0))
      rw [World.size_alloc] at h
      exact h
    · exact ((Below.refl _ _).alloc (Nat.le_refl _) _).alloc (by simp) _
    · simp
  case round =>
    obtain ⟨k, hk, rfl, h1, h2, hb, hz⟩ := hrel
    by_cases hlt : k < 16
    · have c1 : wr.cell? ⟨w.heap.size, k, none⟩ = some (B (gB (low c k) k)) := by rw [h1.cell]; exact row_get _ _ (by rw [low_length]; exact hlt)
      have f1 := h1.frozen k
      have h1' := h1.set_ k (B (mul c (UInt8.ofNat k)))
      rw [row_set, low_set c k hlt] at h1'
      have h2' := h2.far (p := ⟨w.heap.size, k, none⟩) (by simp) (B (mul c (UInt8.ofNat k)))
      have c2 : (wr.setCell ⟨w.heap.size, k, none⟩ (B (mul c (UInt8.ofNat k)))).cell? ⟨w.heap.size + 1, k, none⟩ = some (B (gB (high c k) k)) := by rw [h2'.cell]; exact row_get _ _ (by rw [high_length]; exact hlt)
      have f2 := h2'.frozen k
      have h2'' := h2'.set_ k (B (mul c (UInt8.ofNat k * 16)))
      rw [row_set, high_set c k hlt] at h2''
      have h1'' := h1'.far (p := ⟨w.heap.size + 1, k, none⟩) (by simp) (B (mul c (UInt8.ofNat k * 16)))
      have HR : Hid (Tabs c w.heap.size (k + 1) w ((wr.setCell ⟨w.heap.size, k, none⟩ (B (mul c (UInt8.ofNat k)))).setCell ⟨w.heap.size + 1, k, none⟩ (B (mul c (UInt8.ofNat k * 16))))) :=
        Lib.hid ⟨h1'', h2'', (hb.setCell (by simp) _).setCell (by simp) _, by simp [World.setCell, hz]⟩
      clear h1 h2 h1' h2' h1'' h2'' hb hz
      go_wp2_with (go_at_call 76; refine (mul_int _ _ _ (bv_lo _) (bv_hi _) (by omega) (by omega)).mono ?_; rintro e w' ⟨rfl, rfl⟩)
      go_roundw
      case rel => exact ⟨k + 1, by omega, by go_num, HR.out⟩
      case measure => simp [intOf]; omega
    · obtain rfl : k = 16 := by omega
      have HR : Hid (Tabs c w.heap.size 16 w wr) := Lib.hid ⟨h1, h2, hb, hz⟩
      clear h1 h2 hb hz
      go_wp2
      go_ret
      exact ⟨rfl, HR.out⟩

theorem low_get (c : UInt8) (i : Nat) (h : i < 16) : gB (low c 16) i = mul c (UInt8.ofNat i) := by
  simp [gB, low, List.getD, h]
theorem high_get (c : UInt8) (i : Nat) (h : i < 16) : gB (high c 16) i = mul c (UInt8.ofNat i * 16) := by
  simp [gB, high, List.getD, h]
theorem and15 (a : UInt8) : bits .and .u8 (bv a) 15 = bv a % 16 := u8_and15 _ (bv_lo a) (bv_hi a)

set_option maxHeartbeats 400000 in
theorem times_any (c a : UInt8) (g : Nat) (w : World) (h1 : Blk w g 131 (row (low c 16))) (h2 : Blk w (g + 1) 131 (row (high c 16))) :
    Calls Try.prog 103 #[B a, .pointer (some ⟨g, 0, none⟩), .pointer (some ⟨g + 1, 0, none⟩)] w fun e w' => e = .returned (B (mul c a)) ∧ ∃ n, w' = w.drewN n := by
  have hl := bv_lo a
  have hh := bv_hi a
  have c1 : w.cell? ⟨g, (bv a % 16).toNat, none⟩ = some (B (mul c (UInt8.ofNat (bv a % 16).toNat))) := by
    rw [h1.cell, row_get _ _ (by rw [low_length]; omega), low_get _ _ (by omega)]
  have c2 : w.cell? ⟨g + 1, (bv a / 16).toNat, none⟩ = some (B (mul c (UInt8.ofNat (bv a / 16).toNat * 16))) := by
    rw [h2.cell, row_get _ _ (by rw [high_length]; omega), high_get _ _ (by omega)]
  have HF : Hid (mul c (UInt8.ofNat (bv a % 16).toNat) ^^^ mul c (UInt8.ofNat (bv a / 16).toNat * 16) = mul c a) := by
    rw [← mul_xor, nibbles]; exact Lib.hid rfl
  have q1 : 0 ≤ bv a % 16 := by omega
  have q2 : bv a % 16 < 16 := by omega
  have q3 : 0 ≤ bv a / 16 := by omega
  have q4 : bv a / 16 < 16 := by omega
  have e15 := and15 a
  clear h1 h2
  go_enter Try.func103, Try.ntmps103
  go_wp2
  go_quiet (fail)
  go_wp2
  go_ret
  exact ⟨ret_u8 HF.out, _, rfl⟩

/-- What the rounds of Scale keep. -/
def ScaleI (c : UInt8) (l : List UInt8) (g gm k : Nat) (w wr : World) : Prop :=
  Blk wr g 5 (row (part (mul c) l k)) ∧ Blk wr gm 131 (row (low c 16)) ∧ Blk wr (gm + 1) 131 (row (high c 16)) ∧ Below w.heap.size w wr ∧ w.heap.size ≤ g ∧ g ≠ gm ∧ g ≠ gm + 1

def Rets (R : World → Value → World → Prop) (w : World) (e : Ending) (w' : World) : Prop := ∃ v, e = .returned v ∧ R w v w'

set_option maxHeartbeats 400000 in
theorem scale_any (A : Option Addr) (n cp : Nat) (l : List UInt8) (c : UInt8) (w : World) (h : BS w A n cp l) :
    Calls Try.prog 60 #[.slice A n cp, B c] w (Rets (NewB 5 (l.map (mul c))) w) := by
  have hn := h.len_le
  have hmk := make_bytes n hn
  have hln := h.1
  have HL := Lib.hid hln
  clear hln
  go_enter Try.func60, Try.ntmps60
  go_wp2_with (go_at_call 83; refine (multiplier_any _ _).mono ?_; rintro e w1 ⟨rfl, htabs⟩)
  go_loopw [16] (fun i wr => ∃ k : Nat, k ≤ n ∧ i = .int .i64 (k : Int) ∧ ScaleI c l w1.heap.size w.heap.size k w wr) (fun i _ => n - (intOf i).toNat)
  case atStart =>
    obtain ⟨t1, t2, t3, t4⟩ := htabs
    refine ⟨0, by omega, rfl, ?_, t1.alloc _, t2.alloc _, t3.alloc t3.size _, t3.size, by omega, by omega⟩
    rw [part_zero, HL.out]
    exact Blk.new w1 _ _
  case round =>
    obtain ⟨k, hk, rfl, h1, h2, h3, hb, hg, hne1, hne2⟩ := hrel
    by_cases hlt : k < n
    · obtain ⟨g, o, rfl, hc⟩ := h.at_ hb hlt
      have c1 : wr.cell? ⟨w1.heap.size, k, none⟩ = some (B (gB (part (mul c) l k) k)) := by
        rw [h1.cell]; exact row_get _ _ (by rw [part_length _ _ _ (by rw [HL.out]; exact hk), HL.out]; exact hlt)
      have f1 := h1.frozen k
      have H1 := Lib.hid h1
      have H2 := Lib.hid h2
      have H3 := Lib.hid h3
      have HB := Lib.hid hb
      clear h1 h2 h3 hb hmk
      go_wp2_with (go_at_call 103; refine (times_any c _ w.heap.size _ H2.out H3.out).mono ?_; rintro e w' ⟨rfl, nq, rfl⟩)
      go_roundw
      case rel =>
        refine ⟨k + 1, by omega, by go_num, ?_, (H2.out.drewN nq).far hne1.symm _, (H3.out.drewN nq).far hne2.symm _, (below_drewN HB.out nq).setCell hg _, hg, hne1, hne2⟩
        have := (H1.out.drewN nq).set_ k (B (mul c (gB l k)))
        rw [row_set, part_set _ _ _ (by rw [HL.out]; exact hlt)] at this
        exact this
      case measure => simp [intOf]; omega
    · have hl : part (mul c) l k = l.map (mul c) := part_all _ _ _ (by rw [HL.out]; omega)
      have HR : Hid (NewB 5 (l.map (mul c)) w (.slice (some ⟨w1.heap.size, 0, none⟩) n n) wr) := by
        refine Lib.hid ⟨w1.heap.size, n, rfl, by rw [List.length_map, HL.out], hg, by rw [← hl]; exact h1, hb⟩
      clear h1 h2 h3 hb hl hmk
      go_wp2
      go_ret
      exact ⟨_, rfl, HR.out⟩

def MulAddI (dst src : List UInt8) (c : UInt8) (g k : Nat) (w wr : World) : Prop :=
  Blk wr g 5 (row (mpart dst src c k)) ∧ Below w.heap.size w wr ∧ w.heap.size ≤ g

def Rets0 (R : World → Value → World → Prop) (w : World) (e : Ending) (w' : World) : Prop := ∃ v, e = .returned (.tuple #[v, .int .i64 0]) ∧ R w v w'

set_option maxHeartbeats 400000 in
theorem muladd_any (A A' : Option Addr) (n cp cp' : Nat) (dst src : List UInt8) (c : UInt8) (w : World) (h : BS w A n cp dst) (h' : BS w A' n cp' src) :
    Calls Try.prog 38 #[.slice A n cp, .slice A' n cp', B c] w (Rets0 (NewB 5 (muladd dst src c)) w) := by
  have hn := h.len_le
  have HL := Lib.hid h.1
  have HL' := Lib.hid h'.1
  have HE : Hid (dst.length = src.length) := Lib.hid (by rw [HL.out, HL'.out])
  go_enter Try.func38, Try.ntmps38
  go_wp2_with fail
  refine (scale_any A' n cp' src c w h').mono ?_
  rintro e w1 ⟨v, rfl, g, n1, rfl, hn1, hg, hblk, hb⟩
  obtain rfl : n = n1 := by rw [← hn1, List.length_map, HL'.out]
  clear hn1
  have H0 := Lib.hid hblk
  have HB0 := Lib.hid hb
  clear hblk hb
  go_wp2_with fail
  go_loopw [21] (fun i wr => ∃ k : Nat, k ≤ n ∧ i = .int .i64 (k : Int) ∧ MulAddI dst src c g k w wr) (fun i _ => n - (intOf i).toNat)
  case atStart => exact ⟨0, by omega, rfl, by rw [mpart_zero]; exact H0.out, HB0.out, hg⟩
  case round =>
    obtain ⟨k, hk, rfl, h1, hb, _⟩ := hrel
    by_cases hlt : k < n
    · obtain ⟨ga, o, rfl, hc⟩ := h.at_ hb hlt
      have c1 : wr.cell? ⟨g, k, none⟩ = some (B (mul c (gB src k))) := by
        rw [h1.cell, row_get _ _ (by rw [mpart_length _ _ _ HE.out _ (by rw [HL'.out]; exact hk), HL'.out]; exact hlt), mpart_get _ _ _ HE.out _ (by rw [HL'.out]; exact hlt)]
      have f1 := h1.frozen k
      have H1 := Lib.hid h1
      have HB := Lib.hid hb
      clear h1 hb
      go_wp2
      go_roundw
      case rel =>
        refine ⟨k + 1, by omega, by go_num, ?_, HB.out.setCell hg _, hg⟩
        have := H1.out.set_ k (B (mul c (gB src k) ^^^ gB dst k))
        rw [row_set, mpart_set _ _ _ HE.out _ (by rw [HL'.out]; exact hlt)] at this
        exact this
      case measure => simp [intOf]; omega
    · have HR : Hid (NewB 5 (muladd dst src c) w (.slice (some ⟨g, 0, none⟩) n n) wr) := by
        exact Lib.hid ⟨g, n, rfl, by rw [muladd_length _ _ _ HE.out, HL'.out], hg, by rw [← mpart_all _ _ _ HE.out k (by rw [HL'.out]; omega)]; exact h1, hb⟩
      clear h1 hb
      go_wp2
      go_ret2
      exact ⟨_, rfl, HR.out⟩
end Go.Proofs.Ytakedococfklgaa
/- Polynomials over the field of 256 elements as lists of coefficients: what package polynomial computes, step by step. No program in sight. -/
namespace Go.Proofs.Ytakedococfklgaa
open Go Gf

theorem gB_ge {l : List UInt8} {k : Nat} (h : l.length ≤ k) : gB l k = 0 := by
  simp [gB, List.getD, List.getElem?_eq_none h]
theorem gB_ext {a b : List UInt8} (hl : a.length = b.length) (h : ∀ k, k < a.length → gB a k = gB b k) : a = b := by
  apply List.ext_getElem hl
  intro i h1 h2
  have := h i h1
  rwa [gB_eq h1, gB_eq h2] at this
/-- The list f 0, .., f (n - 1). -/
def tab (n : Nat) (f : Nat → UInt8) : List UInt8 := (List.range n).map f
theorem tab_length (n : Nat) (f : Nat → UInt8) : (tab n f).length = n := by simp [tab]
theorem gB_tab {n : Nat} (f : Nat → UInt8) {k : Nat} (h : k < n) : gB (tab n f) k = f k := by
  rw [gB_eq (by rw [tab_length]; exact h)]; simp [tab]
theorem tab_self (l : List UInt8) : tab l.length (gB l) = l :=
  gB_ext (tab_length _ _) (fun k hk => gB_tab _ (by rwa [tab_length] at hk))
theorem tab_congr {n : Nat} {f g : Nat → UInt8} (h : ∀ k, k < n → f k = g k) : tab n f = tab n g :=
  gB_ext (by rw [tab_length, tab_length]) (fun k hk => by rw [tab_length] at hk; rw [gB_tab _ hk, gB_tab _ hk, h k hk])
theorem tab_set {n : Nat} (f g : Nat → UInt8) (k : Nat) : (tab n (fun i => if i < k then f i else g i)).set k (f k) = tab n (fun i => if i < k + 1 then f i else g i) := by
  apply List.ext_getElem (by simp [tab])
  intro i h1 h2
  rw [List.getElem_set]
  simp only [tab, List.getElem_map, List.getElem_range]
  by_cases h : k = i
  · subst h; simp
  · rw [if_neg h]
    by_cases h3 : i < k
    · rw [if_pos h3, if_pos (by omega)]
    · rw [if_neg h3, if_neg (by omega)]
theorem gB_take {l : List UInt8} {n k : Nat} (h : k < n) : gB (l.take n) k = gB l k := by
  simp [gB, List.getD, h]
theorem gB_drop {l : List UInt8} {n k : Nat} : gB (l.drop n) k = gB l (n + k) := by
  simp [gB, List.getD, List.getElem?_drop]
theorem gB_set {l : List UInt8} {k j : Nat} (x : UInt8) (h : k < l.length) : gB (l.set k x) j = if j = k then x else gB l j := by
  by_cases e : j = k
  · subst e; simp [gB, List.getD, List.getElem?_set_self h]
  · rw [if_neg e]; simp [gB, List.getD, List.getElem?_set_ne (fun e' => e e'.symm)]
theorem gB_zeros (n k : Nat) : gB (zeros n) k = 0 := by
  by_cases h : k < n
  · rw [gB_eq (by simpa [zeros] using h)]; simp [zeros]
  · exact gB_ge (by simp [zeros]; omega)
theorem gB_cons_zero (x : UInt8) (l : List UInt8) : gB (x :: l) 0 = x := rfl
theorem gB_cons_succ (x : UInt8) (l : List UInt8) (k : Nat) : gB (x :: l) (k + 1) = gB l k := by simp [gB, List.getD]
theorem gB_append {a b : List UInt8} (k : Nat) : gB (a ++ b) k = if k < a.length then gB a k else gB b (k - a.length) := by
  by_cases h : k < a.length
  · rw [if_pos h]; simp [gB, List.getD, List.getElem?_append_left h]
  · rw [if_neg h]; simp [gB, List.getD, List.getElem?_append_right (Nat.le_of_not_lt h)]

namespace Py
/-- The number of the first n coefficients without zeros at their end. -/
def tlen (p : List UInt8) : Nat → Nat
  | 0 => 0
  | n + 1 => if gB p n = 0 then tlen p n else n + 1
theorem tlen_le (p : List UInt8) : ∀ n, tlen p n ≤ n
  | 0 => Nat.le_refl _
  | n + 1 => by unfold tlen; split; exact Nat.le_succ_of_le (tlen_le p n); exact Nat.le_refl _
theorem tlen_zero (p : List UInt8) : ∀ n k, tlen p n ≤ k → k < n → gB p k = 0
  | 0, _, _, h => absurd h (by omega)
  | n + 1, k, h1, h2 => by
    unfold tlen at h1
    split at h1
    · rename_i h0
      by_cases e : k = n
      · rw [e]; exact h0
      · exact tlen_zero p n k h1 (by omega)
    · omega
theorem tlen_top (p : List UInt8) : ∀ n, 0 < tlen p n → gB p (tlen p n - 1) ≠ 0
  | 0, h => absurd h (by simp [tlen])
  | n + 1, h => by
    unfold tlen at h ⊢
    split
    · rename_i h0
      rw [if_pos h0] at h
      exact tlen_top p n h
    · rename_i h0; simpa using h0
/-- The length without zeros at the end: the degree plus one. -/
def tl (p : List UInt8) : Nat := tlen p p.length
theorem tl_le (p : List UInt8) : tl p ≤ p.length := tlen_le _ _
theorem tl_zero (p : List UInt8) {k : Nat} (h : tl p ≤ k) : gB p k = 0 := by
  by_cases hk : k < p.length
  · exact tlen_zero p _ k h hk
  · exact gB_ge (by omega)
theorem tl_top (p : List UInt8) (h : 0 < tl p) : gB p (tl p - 1) ≠ 0 := tlen_top p _ h
theorem tl_of (p : List UInt8) (n : Nat) (h0 : ∀ k, n ≤ k → gB p k = 0) (h1 : 0 < n → gB p (n - 1) ≠ 0) : tl p = n := by
  rcases Nat.lt_trichotomy (tl p) n with h | h | h
  · exact absurd (tl_zero p (k := n - 1) (by omega)) (h1 (by omega))
  · exact h
  · exact absurd (h0 (tl p - 1) (by omega)) (tl_top p (by omega))
def trim (p : List UInt8) : List UInt8 := p.take (tl p)
theorem trim_length (p : List UInt8) : (trim p).length = tl p := by unfold trim; rw [List.length_take]; have := tl_le p; omega
theorem gB_trim (p : List UInt8) (k : Nat) : gB (trim p) k = gB p k := by
  by_cases h : k < tl p
  · exact gB_take h
  · rw [gB_ge (by rw [trim_length]; omega), tl_zero p (by omega)]
theorem tl_congr {p q : List UInt8} (h : ∀ k, gB p k = gB q k) : tl p = tl q :=
  tl_of p (tl q) (fun k hk => by rw [h]; exact tl_zero q hk) (fun h0 => by rw [h]; exact tl_top q h0)
theorem trim_congr {p q : List UInt8} (h : ∀ k, gB p k = gB q k) : trim p = trim q :=
  gB_ext (by rw [trim_length, trim_length]; exact tl_congr h) (fun k _ => by rw [gB_trim, gB_trim]; exact h k)
theorem tl_trim (p : List UInt8) : tl (trim p) = tl p := tl_congr (gB_trim p)
theorem trim_trim (p : List UInt8) : trim (trim p) = trim p := trim_congr (gB_trim p)

/-- The longer one's length, the sums. -/
def xorL (p q : List UInt8) : List UInt8 := tab (max p.length q.length) (fun i => gB p i ^^^ gB q i)
theorem gB_xorL (p q : List UInt8) (k : Nat) : gB (xorL p q) k = gB p k ^^^ gB q k := by
  by_cases h : k < max p.length q.length
  · exact gB_tab _ h
  · rw [gB_ge (by rw [xorL, tab_length]; omega), gB_ge (by omega), gB_ge (by omega)]; rfl
def addP (p q : List UInt8) : List UInt8 := trim (xorL p q)
theorem gB_addP (p q : List UInt8) (k : Nat) : gB (addP p q) k = gB p k ^^^ gB q k := by rw [addP, gB_trim, gB_xorL]

/-- l with a times q added from place o on. -/
def addAt (l : List UInt8) (o : Nat) (q : List UInt8) (a : UInt8) : List UInt8 := tab l.length (fun j => if o ≤ j then gB l j ^^^ mul a (gB q (j - o)) else gB l j)
theorem addAt_length (l : List UInt8) (o : Nat) (q : List UInt8) (a : UInt8) : (addAt l o q a).length = l.length := tab_length _ _
theorem gB_addAt (l : List UInt8) (o : Nat) (q : List UInt8) (a : UInt8) {j : Nat} (h : j < l.length) : gB (addAt l o q a) j = if o ≤ j then gB l j ^^^ mul a (gB q (j - o)) else gB l j := gB_tab _ h
theorem addAt_zero (l : List UInt8) (o : Nat) (q : List UInt8) : addAt l o q 0 = l :=
  gB_ext (addAt_length _ _ _ _) (fun k hk => by
    rw [addAt_length] at hk
    rw [gB_addAt _ _ _ _ hk, zero_mul]
    split <;> simp)
/-- After k rounds. -/
def addK (l : List UInt8) (o : Nat) (q : List UInt8) (a : UInt8) (k : Nat) : List UInt8 := tab l.length (fun j => if o ≤ j ∧ j < o + k then gB l j ^^^ mul a (gB q (j - o)) else gB l j)
theorem addK_length (l : List UInt8) (o : Nat) (q : List UInt8) (a : UInt8) (k : Nat) : (addK l o q a k).length = l.length := tab_length _ _
theorem addK_zero (l : List UInt8) (o : Nat) (q : List UInt8) (a : UInt8) : addK l o q a 0 = l := by
  refine (tab_congr fun k _ => ?_).trans (tab_self l)
  rw [if_neg (by omega)]
theorem addK_all (l : List UInt8) (o : Nat) (q : List UInt8) (a : UInt8) (k : Nat) (h : q.length ≤ k) : addK l o q a k = addAt l o q a := by
  refine tab_congr fun j _ => ?_
  by_cases h1 : o ≤ j
  · by_cases h2 : j < o + k
    · rw [if_pos ⟨h1, h2⟩, if_pos h1]
    · rw [if_neg (by omega), if_pos h1, gB_ge (l := q) (by omega), mul_zero]; simp
  · rw [if_neg (by omega), if_neg h1]
theorem addK_get (l : List UInt8) (o : Nat) (q : List UInt8) (a : UInt8) (k : Nat) (h : o + k < l.length) : gB (addK l o q a k) (o + k) = gB l (o + k) := by
  rw [addK, gB_tab _ h, if_neg (by omega)]
theorem addK_set (l : List UInt8) (o : Nat) (q : List UInt8) (a : UInt8) (k : Nat) (h : o + k < l.length) :
    (addK l o q a k).set (o + k) (gB l (o + k) ^^^ mul a (gB q k)) = addK l o q a (k + 1) := by
  refine gB_ext (by rw [List.length_set, addK_length, addK_length]) fun j hj => ?_
  rw [List.length_set, addK_length] at hj
  rw [gB_set _ (by rw [addK_length]; exact h), addK, addK, gB_tab _ hj, gB_tab _ hj]
  by_cases e : j = o + k
  · subst e; rw [if_pos rfl, if_pos (by omega), Nat.add_sub_cancel_left]
  · rw [if_neg e]
    by_cases h1 : o ≤ j ∧ j < o + k
    · rw [if_pos h1, if_pos (by omega)]
    · rw [if_neg h1, if_neg (by omega)]

/-- The product of the first k coefficients of p with q. -/
def convK (p q : List UInt8) : Nat → List UInt8
  | 0 => zeros (p.length + q.length - 1)
  | k + 1 => addAt (convK p q k) k q (gB p k)
theorem convK_length (p q : List UInt8) : ∀ k, (convK p q k).length = p.length + q.length - 1
  | 0 => zeros_length _
  | k + 1 => by rw [convK, addAt_length, convK_length p q k]
def mulP (p q : List UInt8) : List UInt8 :=
  if (trim p).length = 0 ∨ (trim q).length = 0 then [] else if 1023 < (trim p).length - 1 + (trim q).length - 1 then [] else convK (trim p) (trim q) (trim p).length

/-- Division: (quotient, rest) when the coefficients from i on of the quotient are done. -/
def divK (d : List UInt8) (iv : UInt8) (last : Nat) : Nat → List UInt8 × List UInt8 → List UInt8 × List UInt8
  | 0, s => s
  | i + 1, s => divK d iv last i (s.1.set i (mul (gB s.2 (i + last)) iv), addAt s.2 i d (mul (gB s.2 (i + last)) iv))
def divP (p q : List UInt8) : List UInt8 × List UInt8 :=
  if (trim q).length = 0 then ([], []) else
    let s := divK (trim q) (inv (gB (trim q) ((trim q).length - 1))) ((trim q).length - 1) ((trim p).length - ((trim q).length - 1)) (zeros ((trim p).length - ((trim q).length - 1)), trim p)
    (s.1, trim s.2)

/-- The value at x, from the coefficient of number k on. -/
def ev (l : List UInt8) (x : UInt8) : UInt8 := l.foldr (fun a v => mul v x ^^^ a) 0
theorem ev_nil (x : UInt8) : ev [] x = 0 := rfl
theorem ev_cons (a : UInt8) (l : List UInt8) (x : UInt8) : ev (a :: l) x = mul (ev l x) x ^^^ a := rfl
theorem ev_drop (l : List UInt8) (x : UInt8) (k : Nat) (h : k < l.length) : ev (l.drop k) x = mul (ev (l.drop (k + 1)) x) x ^^^ gB l k := by
  rw [List.drop_eq_getElem_cons h, ev_cons, gB_eq h]

/-- No byte twice. -/
def Dst (xs : List UInt8) : Prop := ∀ i j, i < j → j < xs.length → gB xs i ≠ gB xs j
/-- a through b; 0 for b = 0. -/
def dv (a b : UInt8) : UInt8 := if b = 0 then 0 else mul a (inv b)
/-- The error of a division. -/
def dvE (b : UInt8) : Int := if b = 0 then 1 else 0
/-- p times x + r. -/
def tr (p : List UInt8) (r : UInt8) : List UInt8 := addAt (0 :: p) 0 p r
theorem tr_length (p : List UInt8) (r : UInt8) : (tr p r).length = p.length + 1 := by rw [tr, addAt_length]; rfl
/-- Newton's interpolation: (result, basis) after k rounds. -/
def itK (xs ys : List UInt8) : Nat → List UInt8 × List UInt8
  | 0 => (zeros xs.length, [1])
  | k + 1 => (addAt (itK xs ys k).1 0 (itK xs ys k).2 (dv (gB ys k ^^^ ev (itK xs ys k).1 (gB xs k)) (ev (itK xs ys k).2 (gB xs k))), tr (itK xs ys k).2 (gB xs k))
theorem itK_length1 (xs ys : List UInt8) : ∀ k, (itK xs ys k).1.length = xs.length
  | 0 => zeros_length _
  | k + 1 => by rw [itK]; simp only [addAt_length, itK_length1 xs ys k]
theorem itK_length2 (xs ys : List UInt8) : ∀ k, (itK xs ys k).2.length = k + 1
  | 0 => rfl
  | k + 1 => by rw [itK]; simp only [tr_length, itK_length2 xs ys k]
def itP (xs ys : List UInt8) : List UInt8 := trim (itK xs ys xs.length).1
/-- The product of x + r. -/
def frP (rs : List UInt8) : List UInt8 := rs.foldl tr [1]
end Py
end Go.Proofs.Ytakedococfklgaa
/- append onto a slice of the call's own, in the words of Mem: the source may be nil, empty or not. -/
namespace Go.Proofs.Ytakedococfklgaa
open Go Go.RowKit Gf

section
variable {P : Program} (w : World)

theorem run_app_nil (base : Nat) (t ty e : TypeId) (i : TypeInfo) (ht : P.underlying t = some (.slice e)) (hi : P.info? e = some i)
    (v : Value) (n : Nat) (xs : List Value) (hown : w.ownsRow base e 1 v n xs) (c : Nat) : (Builtin.append_ #[t, t] ty #[v, .slice none 0 c]).run P w = .ok v w := by
  rcases hown.2 with ⟨rfl, rfl⟩ | ⟨g, cap, cur, rfl, _, _, hnc, _⟩
  · simp [Builtin.append_, run_underlying ht, sizeOf, typeInfo, hi, Builtin.lenOf, Builtin.firstCells]
  · simp [Builtin.append_, run_underlying ht, sizeOf, typeInfo, hi, Builtin.lenOf, Builtin.firstCells, hnc, storeCells]

theorem run_app (base : Nat) (t ty e : TypeId) (i : TypeInfo) (z : Value) (bytes : Nat) (ht : P.underlying t = some (.slice e)) (hi : P.info? e = some i) (hz : i.zero = some z)
    (hsize : i.size = 1) (hby : i.bytes = bytes) (hzs : z.cells.size = 1)
    (v : Value) (n : Nat) (xs : List Value) (hown : w.ownsRow base e 1 v n xs)
    (A : Option Addr) (m c : Nat) (news : List Value) (hl : news.length = m) (hr : Cells w A m (fun k => news.getD k undef)) (h1 : ∀ u ∈ news, u.oneCell' = true)
    (hbytes : (n + m) * bytes ≤ 140737488355328) (h63 : n + m ≤ 140737488355328) (hbase : base ≤ w.heap.size) :
    ∃ v' w', (Builtin.append_ #[t, t] ty #[v, .slice A m c]).run P w = .ok v' w' ∧ w'.ownsRow base e 1 v' (n + m) (xs ++ news) ∧ w.grownBy w' v.ownBlock ∧
      (v'.ownBlock = v.ownBlock ∨ v'.ownBlock = some w.heap.size) := by
  have hmx : n + m ≤ maxLen := by simp only [maxLen]; omega
  rcases Nat.eq_zero_or_pos m with h0 | h0
  · subst h0
    have hn : news = [] := List.eq_nil_of_length_eq_zero hl
    subst hn
    rcases A with _ | ad
    · exact ⟨v, w, run_app_nil w base t ty e i ht hi v n xs hown c, by simpa using hown, World.grownBy.refl w _, .inl rfl⟩
    · obtain ⟨v', w', hrun, h2, h3, _, h5⟩ := run_append_own_at (P := P) w base t ty e i z 1 bytes ht hi hz hsize hby hzs (by omega) v n xs hown ad 0 c [] (by simp) (fun j u hu => by simp at hu) h1 hmx hbytes hbase
      exact ⟨v', w', hrun, h2, h3, h5⟩
  · obtain ⟨g, o, rfl, _⟩ := hr 0 h0
    have hcells : ∀ j u, news[j]? = some u → w.cell? ((⟨g, o, none⟩ : Addr).add j) = some u := by
      intro j u hu
      have hj : j < m := by rw [← hl]; exact (List.getElem?_eq_some_iff.1 hu).1
      obtain ⟨g', o', e', hc⟩ := hr j hj
      injection e' with e'
      injection e' with e1 e2
      subst e1 e2
      have ea : (⟨g, o, none⟩ : Addr).add j = ⟨g, o + j, none⟩ := by
        unfold Addr.add; split
        · rename_i hj0; subst hj0; simp
        · rfl
      rw [ea, hc]
      simp [List.getD, hu]
    obtain ⟨v', w', hrun, h2, h3, _, h5⟩ := run_append_own_at (P := P) w base t ty e i z 1 bytes ht hi hz hsize hby hzs (by omega) v n xs hown ⟨g, o, none⟩ m c news (by omega) hcells h1 hmx hbytes hbase
    exact ⟨v', w', hrun, h2, h3, h5⟩

/-- What an append leaves. -/
def AppPost (base : Nat) (e : TypeId) (v : Value) (n m : Nat) (xs : List Value) (v' : Value) (w w' : World) : Prop :=
  w'.ownsRow base e 1 v' (n + m) xs ∧ w.grownBy w' v.ownBlock ∧ (v'.ownBlock = v.ownBlock ∨ v'.ownBlock = some w.heap.size)

theorem wp_app {o : Oper} {a : Act} {K : Act → World → Prop} {Q : Exit → Act → World → Prop} (s x : Operand) (t : TypeId)
    (ho : o.op = .call { callee := .builtin .append, args := #[s, x], argTypes := #[t, t] })
    (base : Nat) (e : TypeId) (i : TypeInfo) (z : Value) (bytes : Nat) (ht : P.underlying t = some (.slice e)) (hi : P.info? e = some i) (hz : i.zero = some z)
    (hsize : i.size = 1) (hby : i.bytes = bytes) (hzs : z.cells.size = 1)
    (v : Value) (n : Nat) (xs : List Value) (hs : a.eval s = v) (hown : w.ownsRow base e 1 v n xs)
    (A : Option Addr) (m c : Nat) (news : List Value) (hx : a.eval x = .slice A m c) (hl : news.length = m) (hr : Cells w A m (fun k => news.getD k undef)) (h1 : ∀ u ∈ news, u.oneCell' = true)
    (hbytes : (n + m) * bytes ≤ 140737488355328) (h63 : n + m ≤ 140737488355328) (hbase : base ≤ w.heap.size)
    (h : ∀ v' w', AppPost base e v n m (xs ++ news) v' w w' → K (a.put o.dst v') w') : o.wp P a w K Q := by
  obtain ⟨v', w', hrun, h2, h3, h4⟩ := run_app (P := P) w base t o.type e i z bytes ht hi hz hsize hby hzs v n xs hown A m c news hl hr h1 hbytes h63 hbase
  unfold Oper.wp execOp
  simp only [ho, resolve, invoke, builtin, Sem.run_bind, Sem.run_pure, Result.andThen_ok, List.map_toArray, List.map_cons, List.map_nil, hs, hx, hrun]
  exact h v' w' ⟨h2, h3, h4⟩
end

theorem wpList_app {P : Program} (w : World) {ops : Array Oper} {rest : List Oper} {o : Oper} {a : Act} {Q : Exit → Act → World → Prop} (hgd : o.guard = none) (s x : Operand) (t : TypeId)
    (ho : o.op = .call { callee := .builtin .append, args := #[s, x], argTypes := #[t, t] })
    (base : Nat) (e : TypeId) (z : Value) (bytes : Nat) (ht : P.underlying t = some (.slice e)) (hinfo : (P.info? e).map (fun i => (i.zero, i.size, i.bytes)) = some (some z, 1, bytes)) (hzs : z.cells.size = 1)
    (v : Value) (n : Nat) (xs : List Value) (hs : a.eval s = v) (hown : w.ownsRow base e 1 v n xs)
    (A : Option Addr) (m c : Nat) (news : List Value) (hx : a.eval x = .slice A m c) (hl : news.length = m) (hr : Cells w A m (fun k => news.getD k undef)) (h1 : ∀ u ∈ news, u.oneCell' = true)
    (hbytes : (n + m) * bytes ≤ 140737488355328) (h63 : n + m ≤ 140737488355328) (hbase : base ≤ w.heap.size)
    (h : ∀ v' w', AppPost base e v n m (xs ++ news) v' w w' → wpList P ops Q rest (a.put o.dst v') w') : wpList P ops Q (o :: rest) a w := by
  obtain ⟨i, hi, hz, hsz, hby⟩ := info_parts hinfo
  exact wpList_plain hgd fun _ hK => wp_app w s x t ho base e i z bytes ht hi hz hsz hby hzs v n xs hs hown A m c news hx hl hr h1 hbytes h63 hbase fun v' w' hp => hK _ _ (h v' w' hp)

theorem info_some {P : Program} {e : TypeId} {z : Value} {size bytes : Nat} (h : (P.info? e).map (fun i => (i.zero, i.size, i.bytes)) = some (some z, size, bytes)) : ∃ i, P.info? e = some i ∧ i.zero = some z ∧ i.size = size ∧ i.bytes = bytes := info_parts h

theorem cells_of_BS {w : World} {A : Option Addr} {m c : Nat} {l : List UInt8} (h : BS w A m c l) : Cells w A m (fun k => (l.map B).getD k undef) := fun k hk => by
  obtain ⟨g, o, e, hc⟩ := h.2.2.2 k hk
  have hkl : k < l.length := by rw [h.1]; exact hk
  refine ⟨g, o, e, ?_⟩
  show _ = some ((l.map B).getD k undef)
  rw [hc]
  show some (B (gB l k)) = _
  rw [gB_eq hkl]
  simp [List.getD, List.getElem?_eq_getElem hkl]

/-- append of bytes, at an operation of a region that draws. -/
theorem wp_appB (w : World) {o : Oper} {a : Act} {K : Act → World → Prop} {Q : Exit → Act → World → Prop} (s x : Operand)
    (ho : o.op = .call { callee := .builtin .append, args := #[s, x], argTypes := #[22, 22] })
    (base : Nat) (v : Value) (n : Nat) (l : List UInt8) (hs : a.eval s = v) (hown : w.ownsRow base 5 1 v n (l.map B))
    (A : Option Addr) (m c : Nat) (l' : List UInt8) (hx : a.eval x = .slice A m c) (hr : BS w A m c l') (hb : n + m ≤ 140737488355328) (hbase : base ≤ w.heap.size)
    (h : ∀ v' w', AppPost base 5 v n m ((l ++ l').map B) v' w w' → K (a.put o.dst v') w') : o.wp Try.prog a w K Q := by
  obtain ⟨i, hi, hz, hsz, hby⟩ := info_some infoU8
  exact wp_app w s x _ ho base 5 i _ 1 Try.underlying22 hi hz hsz hby rfl v n (l.map B) hs hown A m c (l'.map B) hx (by simp [hr.1]) (cells_of_BS hr) (by simp [Value.oneCell']) (by omega) hb hbase
    (fun v' w' hp => h v' w' (by rw [List.map_append]; exact hp))
theorem wpList_appB (w : World) {ops : Array Oper} {rest : List Oper} {o : Oper} {a : Act} {Q : Exit → Act → World → Prop} (hgd : o.guard = none) (s x : Operand)
    (ho : o.op = .call { callee := .builtin .append, args := #[s, x], argTypes := #[22, 22] })
    (base : Nat) (v : Value) (n : Nat) (l : List UInt8) (hs : a.eval s = v) (hown : w.ownsRow base 5 1 v n (l.map B))
    (A : Option Addr) (m c : Nat) (l' : List UInt8) (hx : a.eval x = .slice A m c) (hr : BS w A m c l') (hb : n + m ≤ 140737488355328) (hbase : base ≤ w.heap.size)
    (h : ∀ v' w', AppPost base 5 v n m ((l ++ l').map B) v' w w' → wpList Try.prog ops Q rest (a.put o.dst v') w') : wpList Try.prog ops Q (o :: rest) a w :=
  wpList_plain hgd fun _ hK => wp_appB w s x ho base v n l hs hown A m c l' hx hr hb hbase fun v' w' hp => hK _ _ (h v' w' hp)

/-- One value appended: it lies in a new block of its own. -/
theorem cells_one {w : World} {g : Nat} {t : TypeId} {u : Value} (h : Blk w g t #[u]) : Cells w (some ⟨g, 0, none⟩) 1 (fun k => [u].getD k undef) := fun k hk => by
  obtain rfl : k = 0 := by omega
  exact ⟨g, 0, rfl, by rw [h.cell]; rfl⟩
theorem wp_app1 (w : World) {o : Oper} {a : Act} {K : Act → World → Prop} {Q : Exit → Act → World → Prop} (s x : Operand) (t e : TypeId) (z : Value) (bytes : Nat) (ht : Try.prog.underlying t = some (.slice e))
    (hinfo : (Try.prog.info? e).map (fun i => (i.zero, i.size, i.bytes)) = some (some z, 1, bytes)) (hzs : z.cells.size = 1)
    (ho : o.op = .call { callee := .builtin .append, args := #[s, x], argTypes := #[t, t] })
    (base : Nat) (v : Value) (n : Nat) (xs : List Value) (hs : a.eval s = v) (hown : w.ownsRow base e 1 v n xs)
    (g c : Nat) (te : TypeId) (u : Value) (hx : a.eval x = .slice (some ⟨g, 0, none⟩) 1 c) (hblk : Blk w g te #[u]) (hu : u.oneCell' = true) (hb : (n + 1) * bytes ≤ 140737488355328) (hn : n < 140737488355328) (hbase : base ≤ w.heap.size)
    (h : ∀ v' w', AppPost base e v n 1 (xs ++ [u]) v' w w' → K (a.put o.dst v') w') : o.wp Try.prog a w K Q := by
  obtain ⟨i, hi, hz, hsz, hby⟩ := info_some hinfo
  exact wp_app w s x _ ho base e i _ bytes ht hi hz hsz hby hzs v n xs hs hown _ 1 c [u] hx rfl (cells_one hblk) (by simp [hu]) hb (by omega) hbase h
theorem wpList_app1 (w : World) {ops : Array Oper} {rest : List Oper} {o : Oper} {a : Act} {Q : Exit → Act → World → Prop} (hgd : o.guard = none) (s x : Operand) (t e : TypeId) (z : Value) (bytes : Nat) (ht : Try.prog.underlying t = some (.slice e))
    (hinfo : (Try.prog.info? e).map (fun i => (i.zero, i.size, i.bytes)) = some (some z, 1, bytes)) (hzs : z.cells.size = 1)
    (ho : o.op = .call { callee := .builtin .append, args := #[s, x], argTypes := #[t, t] })
    (base : Nat) (v : Value) (n : Nat) (xs : List Value) (hs : a.eval s = v) (hown : w.ownsRow base e 1 v n xs)
    (g c : Nat) (te : TypeId) (u : Value) (hx : a.eval x = .slice (some ⟨g, 0, none⟩) 1 c) (hblk : Blk w g te #[u]) (hu : u.oneCell' = true) (hb : (n + 1) * bytes ≤ 140737488355328) (hn : n < 140737488355328) (hbase : base ≤ w.heap.size)
    (h : ∀ v' w', AppPost base e v n 1 (xs ++ [u]) v' w w' → wpList Try.prog ops Q rest (a.put o.dst v') w') : wpList Try.prog ops Q (o :: rest) a w :=
  wpList_plain hgd fun _ hK => wp_app1 w s x t e z bytes ht hinfo hzs ho base v n xs hs hown g c te u hx hblk hu hb hn hbase fun v' w' hp => hK _ _ (h v' w' hp)

/-- An owned row's block is not one of another element type. -/
theorem own_ne {w : World} {base : Nat} {e t : TypeId} {n g : Nat} {v : Value} {xs : List Value} {cs : Array Value} (h : w.ownsRow base e 1 v n xs) (hg : Blk w g t cs) (hne : e ≠ t) : v.ownBlock ≠ some g := by
  rcases h.2 with ⟨rfl, _⟩ | ⟨g', cap, cur, rfl, _, hh, _⟩
  · simp [Value.ownBlock]
  · intro he
    have : g' = g := by simpa [Value.ownBlock] using he
    subst this
    unfold Blk at hg
    rw [hg] at hh
    injection hh with hh
    injection hh with _ ht
    exact hne ht.symm
theorem own_base {w : World} {base : Nat} {e : TypeId} {n : Nat} {v : Value} {xs : List Value} (h : w.ownsRow base e 1 v n xs) : ∀ k, v.ownBlock = some k → base ≤ k := fun k hk => (h.lt k hk).1
theorem grown_blk {w w' : World} {row : Option Nat} {g : Nat} {t : TypeId} {cs : Array Value} (hg : w.grownBy w' row) (h : Blk w g t cs) (hne : row ≠ some g) : Blk w' g t cs :=
  (hg.block g h.lt (fun e => hne e.symm)).trans h
end Go.Proofs.Ytakedococfklgaa
/- Contracts of gf256.Div and of package polynomial: Degree, Trim, addTo, Eval, timesRoot. -/
namespace Go.Proofs.Ytakedococfklgaa
open Go.RowKit Gf

attribute [local go_sem] Gf.xor_bits Gf.and_bits Gf.or_bits Gf.ne_zero_iff Gf.eq_zero_iff Gf.eq_one_iff Gf.beq_bytes Gf.bne_bytes Gf.bv_toNat

theorem ret_int {k : IntKind} {a b : Int} (h : a = b) : Ending.returned (.int k a) = .returned (.int k b) := by rw [h]
theorem quiet_left {P : Program} {f : FuncId} {args : Array Value} {w : World} {n : Nat} {v : Value}
    (h : Calls P f args (w.drewN n) fun e w' => e = .returned v ∧ w.drewN n = w') : Calls P f args (w.drewN n) fun e w'' => e = .returned v ∧ ∃ m, w'' = w.drewN m :=
  h.mono fun _ _ ⟨he, hm⟩ => ⟨he, n, hm.symm⟩
theorem own_one (w : World) (b : UInt8) : (w.alloc (.cells #[B b] 5)).ownsRow w.heap.size 5 1 (.slice (some ⟨w.heap.size, 0, none⟩) 1 1) 1 ([b].map B) :=
  ⟨rfl, .inr ⟨w.heap.size, 1, #[B b], rfl, Nat.le_refl _, heap_alloc_new w _, Nat.le_refl _, by decide, rfl, rfl⟩⟩
/-- A slice's block is one of these. -/
def AtB (A : Option Addr) (S : Nat → Prop) : Prop := ∀ a, A = some a → S a.block
/-- A slice of bytes in memory of its own, nothing old has turned. -/
def GvB (l : List UInt8) (w : World) (v : Value) (w' : World) : Prop := ∃ A n c, v = .slice A n c ∧ BS w' A n c l ∧ AtB A (w.heap.size ≤ ·) ∧ Below w.heap.size w w'
theorem GvB.nil (w : World) : GvB [] w (.slice none 0 0) w := ⟨none, 0, 0, rfl, BS.nil, (fun _ h => by cases h), Below.refl _ _⟩
theorem NewB.gv {l : List UInt8} {w w' : World} {v : Value} (h : NewB 5 l w v w') (hl : l.length ≤ lim) : GvB l w v w' := by
  obtain ⟨g, n, rfl, hn, hg, hb, hk⟩ := h
  exact ⟨_, _, _, rfl, BS.of_blk hb hn (by omega), (fun a e => by cases e; exact hg), hk⟩

/-- A block whose first cells are these bytes. -/
def OB (w : World) (g : Nat) (t : TypeId) (z : Nat) (l : List UInt8) : Prop := ∃ cs, Blk w g t cs ∧ cs.size = z ∧ cs.toList.take l.length = l.map B ∧ l.length ≤ z
section
variable {w w' : World} {g z : Nat} {t : TypeId} {l : List UInt8}
theorem OB.of_blk (h : Blk w g t (row l)) : OB w g t l.length l := ⟨_, h, row_size l, by rw [List.take_of_length_le (by simp [row])]; simp [row], Nat.le_refl _⟩
theorem OB.lt (h : OB w g t z l) : g < w.heap.size := let ⟨_, h1, _⟩ := h; h1.lt
theorem OB.frozen (h : OB w g t z l) (i : Nat) : w.frozen? ⟨g, i, none⟩ = false := let ⟨_, h1, _⟩ := h; h1.frozen i
theorem OB.cell (h : OB w g t z l) {k : Nat} (hk : k < l.length) : w.cell? ⟨g, k, none⟩ = some (B (gB l k)) := by
  obtain ⟨cs, h1, h2, h3, h4⟩ := h
  rw [h1.cell]
  have e : (cs.toList.take l.length)[k]? = (l.map B)[k]? := by rw [h3]
  rw [List.getElem?_take, if_pos hk] at e
  rw [gB_eq hk]
  simpa [List.getElem?_eq_getElem hk] using e
theorem OB.set_ (h : OB w g t z l) (k : Nat) (b : UInt8) : OB (w.setCell ⟨g, k, none⟩ (B b)) g t z (l.set k b) := by
  obtain ⟨cs, h1, h2, h3, h4⟩ := h
  refine ⟨_, h1.set_ k (B b), by simp [h2], ?_, by simpa using h4⟩
  rw [List.length_set, Array.toList_setIfInBounds, List.map_set, ← h3, List.take_set]
theorem OB.far (h : OB w g t z l) {p : Addr} (hp : g ≠ p.block) (u : Value) : OB (w.setCell p u) g t z l := let ⟨cs, h1, h2⟩ := h; ⟨cs, h1.far hp u, h2⟩
theorem OB.kept (h : OB w g t z l) (hb : Below w.heap.size w w') : OB w' g t z l := let ⟨cs, h1, h2⟩ := h; ⟨cs, h1.kept hb, h2⟩
theorem OB.drewN (h : OB w g t z l) (n : Nat) : OB (w.drewN n) g t z l := h
theorem OB.bs (h : OB w g t z l) {o n c : Nat} (ho : o + n = l.length) (hc : n ≤ c) (hn : n ≤ lim) : BS w (some ⟨g, o, none⟩) n c (l.drop o) :=
  ⟨by rw [List.length_drop]; omega, hc, hn, fun k hk => ⟨g, o, rfl, by
    show _ = some (B (gB (l.drop o) k))
    rw [gB_drop, h.cell (by omega)]⟩⟩
theorem OB.bs0 (h : OB w g t z l) {c : Nat} (hc : l.length ≤ c) (hn : l.length ≤ lim) : BS w (some ⟨g, 0, none⟩) l.length c l := by
  have := h.bs (o := 0) (n := l.length) (by omega) hc hn
  simpa using this
end
theorem OB.of_own {w : World} {base : Nat} {t : TypeId} {v : Value} {n : Nat} {l : List UInt8} (h : w.ownsRow base t 1 v n (l.map B)) (h0 : 0 < n) : ∃ g cap, v = .slice (some ⟨g, 0, none⟩) n cap ∧ base ≤ g ∧ OB w g t cap l ∧ l.length = n ∧ n ≤ cap := by
  have hl : l.length = n := by have := h.1; simpa using this
  rcases h.2 with ⟨_, rfl⟩ | ⟨g, cap, cur, rfl, hb, hh, hnc, _, hsz, htk⟩
  · omega
  · exact ⟨g, cap, rfl, hb, ⟨cur, hh, by omega, by rw [hl]; simpa using htk, by omega⟩, hl, hnc⟩

set_option maxHeartbeats 400000 in
theorem div_any (a b : UInt8) (w : World) : Calls Try.prog 72 #[B a, B b] w fun e w' => e = .returned (.tuple #[B (Py.dv a b), .int .i64 (Py.dvE b)]) ∧ w = w' := by
  by_cases h : b = 0
  · subst h
    have HD : Hid (Py.dv a 0 = 0) := Lib.hid rfl
    go_enter Try.func72, Try.ntmps72
    go_wp2_with (go_at_call 101; refine (inv_zero _).mono ?_; rintro e w' ⟨rfl, rfl⟩)
    go_ret2
    exact ⟨by rw [HD.out]; rfl, rfl⟩
  · have hb : (b == 0) = false := by simpa using h
    have HD : Hid (Py.dv a b = mul a (inv b)) := Lib.hid (by rw [Py.dv, if_neg h])
    have HE : Hid (Py.dvE b = 0) := Lib.hid (by rw [Py.dvE, if_neg h])
    clear h
    go_enter Try.func72, Try.ntmps72
    go_wp2_with (first
      | (go_at_call 101; refine (inv_any _ hb _).mono ?_; rintro e w' ⟨rfl, rfl⟩)
      | (go_at_call 76; refine (mul_any _ _ _).mono ?_; rintro e w' ⟨rfl, rfl⟩))
    go_ret2
    exact ⟨by rw [HD.out, HE.out]; rfl, rfl⟩

set_option maxHeartbeats 400000 in
theorem degree_any (A : Option Addr) (n c : Nat) (l : List UInt8) (w : World) (h : BS w A n c l) :
    Calls Try.prog 86 #[.slice A n c] w fun e w' => e = .returned (.int .i64 ((Py.tl l : Int) - 1)) ∧ w = w' := by
  have hn := h.len_le
  have HL := Lib.hid h.1
  have H := Lib.hid h
  clear h
  go_enter Try.func86, Try.ntmps86
  go_wp2
  go_loop [3] (fun d => ∃ (z : Int) (k : Nat), d = .int .i64 z ∧ -1 ≤ z ∧ z < n ∧ Hid (z + 1 = k) ∧ Hid (Py.tlen l k = Py.tl l)) (fun d => (intOf d + 1).toNat)
  case atStart => exact ⟨(n : Int) - 1, n, rfl, by omega, by omega, Lib.hid (by omega), Lib.hid (by rw [Py.tl, HL.out])⟩
  case round =>
    obtain ⟨z, k, rfl, hz1, hz2, hk, ht⟩ := hrel
    by_cases h0 : z < 0
    · have q : decide (0 ≤ z) = false := by simp; omega
      have HR : Hid (z = (Py.tl l : Int) - 1) := Lib.hid (by
        have h1 := hk.out
        have h2 := ht.out
        have : k = 0 := by omega
        subst this
        rw [← h2, Py.tlen]; omega)
      clear hk ht
      go_wp2
      go_ret
      exact ⟨ret_int HR.out, rfl⟩
    · obtain ⟨j, rfl⟩ : ∃ j : Nat, z = (j : Int) := ⟨z.toNat, by omega⟩
      have hj : j < n := by omega
      obtain ⟨g, o, rfl, hc⟩ := H.out.at_ (Below.refl _ _) hj
      have HK : Hid (k = j + 1) := Lib.hid (by have := hk.out; omega)
      clear hk
      cases hb : (gB l j == 0) with
      | true =>
        have HT : Hid (Py.tlen l j = Py.tl l) := Lib.hid (by
          have := ht.out
          rw [HK.out, Py.tlen, if_pos (by simpa using hb)] at this
          exact this)
        clear ht
        go_wp2
        go_round
        case rel => exact ⟨(j : Int) - 1, j, rfl, by omega, by omega, Lib.hid (by omega), HT⟩
        case measure => simp [intOf]
      | false =>
        have HR : Hid ((j : Int) = (Py.tl l : Int) - 1) := Lib.hid (by
          have := ht.out
          rw [HK.out, Py.tlen, if_neg (by simpa using hb)] at this
          omega)
        clear ht
        go_wp2
        go_ret
        exact ⟨ret_int HR.out, rfl⟩

theorem copy_src {w : World} {A : Option Addr} {n c : Nat} {l l' : List UInt8} (h : BS w A n c l) (hl : l'.length ≤ n) (hg : ∀ k, k < l'.length → gB l' k = gB l k) (h0 : 0 < (List.map B l').length) :
    ∃ ad, A = some ad ∧ ∀ j v, (List.map B l')[j]? = some v → w.cell? (ad.add j) = some v := by
  obtain ⟨g, o, rfl, _⟩ := h.2.2.2 0 (by rw [List.length_map] at h0; omega)
  refine ⟨_, rfl, fun j v hj => ?_⟩
  have hjl : j < l'.length := by
    rcases Nat.lt_or_ge j l'.length with h1 | h1
    · exact h1
    · rw [List.getElem?_eq_none (by simpa using h1)] at hj; cases hj
  obtain ⟨g', o', e', hc⟩ := h.at_ (Below.refl _ _) (show j < n by omega)
  cases Option.some.inj e'
  have ea : (⟨g, o, none⟩ : Addr).add j = ⟨g, o + j, none⟩ := by
    unfold Addr.add; split
    · rename_i hj0; subst hj0; simp
    · rfl
  rw [ea, hc]
  rw [List.getElem?_map, List.getElem?_eq_getElem hjl] at hj
  rw [← hj, ← gB_eq hjl, hg j hjl]
  rfl
theorem splice_zeros (l : List UInt8) : splice ((zeros (Py.tl l)).map B) 0 ((Py.trim l).map B) = (Py.trim l).map B := by
  simp [splice, Py.trim_length, zeros]

set_option maxRecDepth 100000 in
set_option maxHeartbeats 400000 in
theorem trim_any (A : Option Addr) (n c : Nat) (l : List UInt8) (w : World) (h : BS w A n c l) :
    Calls Try.prog 75 #[.slice A n c] w (Rets (NewB 5 (Py.trim l)) w) := by
  have hn := h.len_le
  have hl := h.1
  have htn := Py.tl_le l
  rw [hl] at htn
  have hmk := make_bytes (Py.tl l) (by omega)
  have HL := Lib.hid hl
  have H := Lib.hid h
  clear h hl
  have HT : Hid ((Py.trim l).length = Py.tl l) := Lib.hid (Py.trim_length l)
  have HS := Lib.hid (splice_zeros l)
  obtain ⟨d, hd⟩ : ∃ d, d = Py.tl l := ⟨_, rfl⟩
  have HD := Lib.hid hd
  rw [← hd] at hmk htn
  have s1 : (d : Int) - 1 + 1 = d := by omega
  clear hd
  have HC := Lib.hid (copy_src (l' := Py.trim l) (H.out.kept ((Below.refl _ w).alloc (Nat.le_refl _) (.cells (row (zeros d)) 5))) (by rw [HT.out, ← HD.out]; exact htn) (fun k _ => Py.gB_trim l k))
  go_enter Try.func75, Try.ntmps75
  go_wp2_with (first
    | (go_at_call 86; refine (degree_any _ _ _ _ _ H.out).mono ?_; rintro e w' ⟨rfl, rfl⟩; rw [← HD.out])
    | (refine wpList_copy_splice (o := ⟨some 10, _, _, _, _, _⟩) rfl (.tmp 8) (.tmp 9) _ _ rfl 5 Try.underlying22 (by kernel_rfl) (some ⟨w.heap.size, 0, none⟩) A d d n c rfl rfl w.heap.size 0 ((zeros d).map B) 5 (Blk.new w _ _) ((Py.trim l).map B) (by rw [List.length_map, HT.out, ← HD.out]; exact (Nat.min_eq_right htn).symm) (fun h0 => ⟨rfl, HC.out h0⟩) (by simp [HT.out, ← HD.out, zeros]) (by simp [Value.oneCell']) w.heap.size w ((Below.refl _ _).alloc (Nat.le_refl _) _) (Nat.le_refl _) ?_; intro w1 hg hb; have HB := Lib.hid hb; clear hb))
  go_ret
  refine ⟨_, rfl, w.heap.size, d, rfl, by rw [HT.out, HD.out], Nat.le_refl _, ?_, HB.out⟩
  have := hg.out
  rw [HD.out, HS.out] at this
  exact this

/-- What addTo leaves. -/
def AddPost (g : Nat) (t : TypeId) (z : Nat) (l : List UInt8) (w : World) (e : Ending) (w' : World) : Prop := e = .returned (.tuple #[]) ∧ OB w' g t z l ∧ Kp (· = g) w w'

set_option maxHeartbeats 400000 in
theorem addTo_any (g o n c z : Nat) (t : TypeId) (l : List UInt8) (Aq : Option Addr) (nq cq : Nat) (q : List UInt8) (a : UInt8) (w : World) (h : OB w g t z l) (hq : BS w Aq nq cq q) (hon : o + n = l.length) (hqn : nq ≤ n) (hl : l.length ≤ lim) :
    Calls Try.prog 73 #[.slice (some ⟨g, o, none⟩) n c, .slice Aq nq cq, B a] w (AddPost g t z (Py.addAt l o q a) w) := by
  have hn : n ≤ 140737488355328 := by unfold lim at hl; omega
  have HL := Lib.hid hon
  have HLQ := Lib.hid hq.1
  have H := Lib.hid h
  have HQ := Lib.hid hq
  clear h hq hon hl
  cases ha : (a == 0) with
  | true =>
    have HA : Hid (a = 0) := Lib.hid (by simpa using ha)
    go_enter Try.func73, Try.ntmps73
    go_wp2
    refine bodyPost_ret (results_none rfl _ _ _) rfl ?_
    exact ⟨rfl, by rw [HA.out, Py.addAt_zero]; exact H.out, Kp.refl _ _⟩
  | false =>
    go_enter Try.func73, Try.ntmps73
    go_wp2_with fail
    refine (scale_any Aq nq cq q a w HQ.out).mono ?_
    rintro e w1 ⟨v, rfl, g1, n1, rfl, hn1, hg1, hblk, hb⟩
    obtain rfl : nq = n1 := by rw [← hn1, List.length_map, HLQ.out]
    have HS := Lib.hid hblk
    have H1 := Lib.hid (H.out.kept hb)
    have HB := Lib.hid hb
    have hgg : g ≠ g1 := by have := H.out.lt; omega
    clear hn1 hblk hb
    go_wp2_with fail
    go_loopw [14] (fun i wr => ∃ k : Nat, k ≤ nq ∧ i = .int .i64 (k : Int) ∧ Hid (OB wr g t z (Py.addK l o q a k)) ∧ Hid (Blk wr g1 5 (row (q.map (mul a)))) ∧ Hid (Kp (· = g) w wr)) (fun i _ => nq - (intOf i).toNat)
    case atStart => exact ⟨0, by omega, rfl, by rw [Py.addK_zero]; exact H1, HS, Lib.hid (Kp.of_below HB.out)⟩
    case round =>
      obtain ⟨k, hk, rfl, h1, h2, h3⟩ := hrel
      by_cases hlt : k < nq
      · have c1 : wr.cell? ⟨g, o + k, none⟩ = some (B (gB l (o + k))) := by
          have h4 := HL.out
          rw [h1.out.cell (by rw [Py.addK_length]; omega), Py.addK_get _ _ _ _ _ (by omega)]
        have f1 := h1.out.frozen (o + k)
        have c2 : wr.cell? ⟨g1, k, none⟩ = some (B (mul a (gB q k))) := by
          rw [h2.out.cell, row_get _ _ (by rw [List.length_map, HLQ.out]; exact hlt)]
          rw [gB_eq (by rw [List.length_map, HLQ.out]; exact hlt), gB_eq (by rw [HLQ.out]; exact hlt), List.getElem_map]
        go_wp2
        go_roundw
        case rel =>
          refine ⟨k + 1, by omega, by go_num, Lib.hid ?_, Lib.hid (h2.out.far (fun e => hgg e.symm) _), Lib.hid (h3.out.set (.inl rfl) _)⟩
          have := h1.out.set_ (o + k) (gB l (o + k) ^^^ mul a (gB q k))
          rw [Py.addK_set _ _ _ _ _ (by have h4 := HL.out; omega)] at this
          exact this
        case measure => simp [intOf]; omega
      · have HR : Hid (OB wr g t z (Py.addAt l o q a)) := Lib.hid (by rw [← Py.addK_all _ _ _ _ k (by rw [HLQ.out]; omega)]; exact h1.out)
        go_wp2
        go_end0
        exact ⟨rfl, HR.out, h3.out⟩

set_option maxHeartbeats 400000 in
theorem eval_any (A : Option Addr) (n c : Nat) (l : List UInt8) (x : UInt8) (w : World) (h : BS w A n c l) :
    Calls Try.prog 69 #[.slice A n c, B x] w fun e w' => e = .returned (B (Py.ev l x)) ∧ ∃ m, w' = w.drewN m := by
  have hn := h.len_le
  have HL := Lib.hid h.1
  have H := Lib.hid h
  clear h
  go_enter Try.func69, Try.ntmps69
  go_wp2
  go_loopw [5, 6] (fun v d wr => ∃ (z : Int) (k : Nat) (u : UInt8), v = B u ∧ d = .int .i64 z ∧ -1 ≤ z ∧ z < n ∧ Hid (z + 1 = k) ∧ Hid (u = Py.ev (l.drop k) x) ∧ Hid (∃ m, wr = w.drewN m)) (fun _ d _ => (intOf d + 1).toNat)
  case atStart => exact ⟨(n : Int) - 1, n, 0, rfl, rfl, by omega, by omega, Lib.hid (by omega), Lib.hid (by rw [List.drop_of_length_le (by rw [HL.out]; exact Nat.le_refl _), Py.ev_nil]), Lib.hid ⟨0, rfl⟩⟩
  case round =>
    obtain ⟨z, k, u, rfl, rfl, hz1, hz2, hk, hu, hw⟩ := hrel
    by_cases h0 : z < 0
    · have q : decide (0 ≤ z) = false := by simp; omega
      have HR : Hid (u = Py.ev l x) := Lib.hid (by
        have h1 := hk.out
        have : k = 0 := by omega
        subst this
        simpa using hu.out)
      clear hk hu
      go_wp2
      go_ret
      exact ⟨ret_u8 HR.out, hw.out⟩
    · obtain ⟨j, rfl⟩ : ∃ j : Nat, z = (j : Int) := ⟨z.toNat, by omega⟩
      have hj : j < n := by omega
      obtain ⟨m, hm⟩ := hw.out
      have HW : BS wr A n c l := by rw [hm]; exact H.out.drewN m
      have HM := Lib.hid hm
      clear hm
      obtain ⟨g, o, rfl, hc⟩ := HW.at_ (Below.refl _ _) hj
      clear HW
      have HU : Hid (mul u x ^^^ gB l j = Py.ev (l.drop j) x) := Lib.hid (by
        have h1 := hk.out
        have h2 : k = j + 1 := by omega
        subst h2
        rw [Py.ev_drop l x j (by rw [HL.out]; exact hj), hu.out])
      clear hk hu hw
      go_wp2
      go_quiet ((go_at_call 76; exact quiet_left (mul_any _ _ _)))
      go_wp2
      go_roundw
      case rel => exact ⟨(j : Int) - 1, j, _, rfl, rfl, by omega, by omega, Lib.hid (by omega), HU, Lib.hid ⟨_, by rw [HM.out, World.drewN_drewN]⟩⟩
      case measure => simp [intOf]

set_option maxRecDepth 100000 in
set_option maxHeartbeats 400000 in
theorem timesRoot_any (A : Option Addr) (n c : Nat) (l : List UInt8) (r : UInt8) (w : World) (h : BS w A n c l) (hn : n ≤ 100000) :
    Calls Try.prog 74 #[.slice A n c, B r] w (Rets (GvB (Py.tr l r)) w) := by
  have H := Lib.hid h
  have HL := Lib.hid h.1
  clear h
  have hbA : Below w.heap.size w (w.alloc (.cells #[.int .u8 0] 5)) := (Below.refl _ _).alloc (Nat.le_refl _) _
  have HA := Lib.hid (H.out.kept hbA)
  have HBA := Lib.hid hbA
  clear hbA
  go_enter Try.func74, Try.ntmps74
  go_wp2_with (first
    | (at_builtin; refine wpList_appB _ rfl (.tmp 6) (.tmp 7) rfl w.heap.size _ 1 [0] rfl (own_one w 0) A n c l rfl HA.out (by omega) (by simp) ?_; intro v1 w1 hp))
  have HP := Lib.hid hp
  obtain ⟨g, cap, rfl, hg, hob, hgl, hgc⟩ := OB.of_own hp.1 (by omega)
  have hK : Kp (fun _ => False) w w1 := (Kp.of_below HBA.out).grown hp.2.1 (fun k e => .inr (own_base (own_one w 0) k e))
  have HB1 : Hid (Below w.heap.size w w1) := Lib.hid (hK.below (Nat.le_refl _) (fun _ h => h.elim))
  have HO := Lib.hid hob
  have HQ1 := Lib.hid (H.out.kept HB1.out)
  have HGL := Lib.hid hgl
  clear hp hob hK HP hgl
  go_wp2_with fail
  refine (addTo_any g 0 (1 + n) cap cap _ ([0] ++ l) A n c l r w1 HO.out HQ1.out (by rw [HGL.out]; omega) (by omega) (by rw [HGL.out]; unfold lim; omega)).mono ?_
  rintro e w2 ⟨rfl, ho2, hk2⟩
  have HR : Hid (GvB (Py.tr l r) w (.slice (some ⟨g, 0, none⟩) (1 + n) cap) w2) := Lib.hid ⟨_, _, _, rfl, by
      have h1 := ho2.bs0 (c := cap) (by rw [Py.addAt_length, HGL.out]; exact hgc) (by rw [Py.addAt_length, HGL.out]; unfold lim; omega)
      rw [Py.addAt_length, HGL.out] at h1
      exact h1, (fun a e => by cases e; exact hg), HB1.out.trans (hk2.below HB1.out.size (fun k e => by rw [e]; exact hg))⟩
  clear ho2 hk2
  go_wp2_with fail
  go_ret
  exact ⟨_, rfl, HR.out⟩
end Go.Proofs.Ytakedococfklgaa
/- A region that draws its order, walked once: operations that yield their value whatever the others do may come first, reads of the world at hand may come in any order among themselves, and what changes the world comes in one order. Proved for any program. -/
namespace Go.Proofs.Ytakedococfklgaa
open Go

namespace Text
variable {P : Program} {ops : Array Oper} {Q : Exit → Act → World → Prop} {S : World → Prop}

/-- The operations that number j waits for. -/
def preds (ops : Array Oper) (j : Nat) : List Nat :=
  match ops[j]? with
  | some o => (o.after.toList.filter fun e => Region.binds .any e).map (·.on)
  | none => []

theorem mem_preds {j : Nat} {o : Oper} (ho : ops[j]? = some o) {e : Edge} (he : e ∈ o.after) (hb : Region.binds .any e = true) : e.on ∈ preds ops j := by
  unfold preds
  rw [ho]
  exact List.mem_map.2 ⟨e, List.mem_filter.2 ⟨by simpa using he, hb⟩, rfl⟩
theorem of_preds {j p : Nat} (h : p ∈ preds ops j) : ∃ o e, ops[j]? = some o ∧ e ∈ o.after ∧ Region.binds .any e = true ∧ e.on = p := by
  unfold preds at h
  split at h
  · rename_i o ho
    obtain ⟨e, he, rfl⟩ := List.mem_map.1 h
    obtain ⟨h1, h2⟩ := List.mem_filter.1 he
    exact ⟨o, e, ho, by simpa using h1, h2, rfl⟩
  · cases h

/-- All that number j waits for, through others too. -/
def arow (ops : Array Oper) (j : Nat) (T : List (List Nat)) : List Nat :=
  (List.range j).filter fun i => (preds ops j).contains i || (preds ops j).any fun p => (T.getD p []).contains i
def tbl (ops : Array Oper) : Nat → List (List Nat)
  | 0 => []
  | j + 1 => tbl ops j ++ [arow ops j (tbl ops j)]
theorem tbl_length (n : Nat) : (tbl ops n).length = n := by
  induction n with
  | zero => rfl
  | succ n ih => simp [tbl, ih]

/-- What has come up is shut downward. -/
def Closed (ops : Array Oper) (listed : Array Bool) : Prop := ∀ j p, p ∈ preds ops j → listed.getD j false = true → listed.getD p false = true

theorem tbl_sound {listed : Array Bool} (hc : Closed ops listed) : ∀ (n j i : Nat), i ∈ (tbl ops n).getD j [] → listed.getD j false = true → listed.getD i false = true := by
  intro n
  induction n with
  | zero => intro j i h; simp [tbl] at h
  | succ n ih =>
    intro j i h hj
    rw [tbl, List.getD_eq_getElem?_getD] at h
    by_cases hjn : j < n
    · rw [List.getElem?_append_left (by rw [tbl_length]; exact hjn), ← List.getD_eq_getElem?_getD] at h
      exact ih j i h hj
    · by_cases hjn2 : j = n
      · subst hjn2
        rw [List.getElem?_append_right (by rw [tbl_length]; exact Nat.le_refl _), tbl_length, Nat.sub_self] at h
        simp only [List.getElem?_cons_zero, Option.getD_some] at h
        obtain ⟨_, h2⟩ := List.mem_filter.1 h
        rw [Bool.or_eq_true] at h2
        rcases h2 with h2 | h2
        · exact hc j i (by simpa using h2) hj
        · obtain ⟨p, hp, hi⟩ := List.any_eq_true.1 h2
          exact ih p i (by simpa using hi) (hc j p hp hj)
      · rw [List.getElem?_eq_none (by rw [List.length_append, tbl_length]; simp; omega)] at h
        simp at h

/-- Kinds: 0 held (yields wherever S holds), 1 a read of the world at hand, 2 an effect that keeps S, 3 an effect behind which S is not wanted, 4 pure (yields in whatever world). May x stand before y where y does not wait for it? -/
def swapB (kx ky : Nat) : Bool := decide (4 ≤ kx) || (kx == 0 && ky != 3) || (kx == 1 && (decide (ky ≤ 1) || decide (4 ≤ ky)))
/-- May x stand before y? -/
def pairB (ops : Array Oper) (T : List (List Nat)) (x y : Nat × Nat) : Bool :=
  !(preds ops x.1).contains y.1 && !(x.2 == 3 && y.2 == 0) &&
  ((T.getD y.1 []).contains x.1 ||
    (swapB x.2 y.2 && (match ops[x.1]?, ops[y.1]? with | some ox, some oy => ox.apart ops oy | _, _ => false)))
def pairsB (ops : Array Oper) (T : List (List Nat)) : List (Nat × Nat) → Bool
  | [] => true
  | x :: r => r.all (pairB ops T x) && pairsB ops T r
def textB (ops : Array Oper) (L : List (Nat × Nat)) : Bool :=
  Region.noSelect ops && (List.range ops.size).all (fun i => (L.map (·.1)).contains i) && L.all (fun x => decide (x.1 < ops.size) && (preds ops x.1).all (fun p => decide (p < ops.size) && p != x.1)) &&
    decide (L.map (·.1)).Nodup && decide (L.length = ops.size) && pairsB ops (tbl ops ops.size) L

theorem pairsB_spec {T : List (List Nat)} : ∀ {L : List (Nat × Nat)}, pairsB ops T L = true → L.Pairwise (fun x y => pairB ops T x y = true)
  | [], _ => List.Pairwise.nil
  | x :: r, h => by
    simp only [pairsB, Bool.and_eq_true, List.all_eq_true] at h
    exact List.Pairwise.cons h.1 (pairsB_spec h.2)

/-- The walk in the order of L. -/
def wpText (P : Program) (ops : Array Oper) (Q : Exit → Act → World → Prop) (S : World → Prop) : List (Nat × Nat) → Act → World → Prop
  | [], a, w => Q .normal a w
  | (i, 0) :: r, a, w => ∃ o v, ops[i]? = some o ∧ YieldsIf P ops S o v a ∧ wpText P ops Q S r (a.put o.dst v) w
  | (i, 1) :: r, a, w => ∃ o v, ops[i]? = some o ∧ YieldsAt P ops w o v a ∧ wpText P ops Q S r (a.put o.dst v) w
  | (i, 2) :: r, a, w => wpOp P ops Q i (fun a' w' => S w' ∧ wpText P ops Q S r a' w') a w
  | (i, 3) :: r, a, w => wpOp P ops Q i (fun a' w' => wpText P ops Q S r a' w') a w
  | (i, _ + 4) :: r, a, w => ∃ o v, ops[i]? = some o ∧ Yields P ops o v a ∧ wpText P ops Q S r (a.put o.dst v) w

/-- What commutes: x stands before y and y does not wait for it. -/
def Swap (ops : Array Oper) (x y : Nat × Nat) : Prop :=
  swapB x.2 y.2 = true ∧ ∀ ox oy, ops[x.1]? = some ox → ops[y.1]? = some oy → ox.apart ops oy = true

/-- What an operation of kind k yields. -/
def Gives (P : Program) (ops : Array Oper) (S : World → Prop) (w : World) (k : Nat) (o : Oper) (v : Value) (a : Act) : Prop :=
  (k = 0 → YieldsIf P ops S o v a) ∧ (k = 1 → YieldsAt P ops w o v a) ∧ (4 ≤ k → Yields P ops o v a)
theorem Gives.of_same {w : World} {k : Nat} {o : Oper} {v : Value} {a a' : Act} (h : Gives P ops S w k o v a) (he : execOp a'.eval o = execOp a.eval o)
    (hw : Region.wanted o (yielded ops a'.tmps) = Region.wanted o (yielded ops a.tmps)) : Gives P ops S w k o v a' :=
  ⟨fun e => (h.1 e).of_same he hw, fun e => (h.2.1 e).of_same he hw, fun e => (h.2.2 e).of_same he hw⟩
theorem text_gives {w : World} {i k : Nat} (hk : k ≤ 1 ∨ 4 ≤ k) {r : List (Nat × Nat)} {a : Act} :
    wpText P ops Q S ((i, k) :: r) a w ↔ ∃ o v, ops[i]? = some o ∧ Gives P ops S w k o v a ∧ wpText P ops Q S r (a.put o.dst v) w := by
  match k, hk with
  | 0, _ => exact ⟨fun ⟨o, v, h1, h2, h3⟩ => ⟨o, v, h1, ⟨fun _ => h2, (fun h => absurd h (by decide)), (fun h => absurd h (by decide))⟩, h3⟩, fun ⟨o, v, h1, h2, h3⟩ => ⟨o, v, h1, h2.1 rfl, h3⟩⟩
  | 1, _ => exact ⟨fun ⟨o, v, h1, h2, h3⟩ => ⟨o, v, h1, ⟨(fun h => absurd h (by decide)), fun _ => h2, (fun h => absurd h (by decide))⟩, h3⟩, fun ⟨o, v, h1, h2, h3⟩ => ⟨o, v, h1, h2.2.1 rfl, h3⟩⟩
  | 2, h => exact absurd h (by omega)
  | 3, h => exact absurd h (by omega)
  | k + 4, _ => exact ⟨fun ⟨o, v, h1, h2, h3⟩ => ⟨o, v, h1, ⟨(fun h => absurd h (by omega)), (fun h => absurd h (by omega)), fun _ => h2⟩, h3⟩, fun ⟨o, v, h1, h2, h3⟩ => ⟨o, v, h1, h2.2.2 (by omega), h3⟩⟩

theorem swapB_still {kx ky : Nat} (h : swapB kx ky = true) : kx ≤ 1 ∨ 4 ≤ kx := by
  simp only [swapB, Bool.or_eq_true, Bool.and_eq_true, decide_eq_true_eq, beq_iff_eq, bne_iff_ne] at h
  omega

/-- A held operation, a read or a pure one may be brought to the front. -/
theorem front_still (i k : Nat) (hk : k ≤ 1 ∨ 4 ≤ k) (oi : Oper) (hoi : ops[i]? = some oi) (hsel : ∀ (j : Nat) (o : Oper) cs b, ops[j]? = some o → o.op ≠ .select cs b) (w : World) :
    ∀ (L1 L2 : List (Nat × Nat)) (a : Act), (∀ x ∈ L1, Swap ops x (i, k)) → wpText P ops Q S (L1 ++ (i, k) :: L2) a w →
      ∃ v, Gives P ops S w k oi v a ∧ wpText P ops Q S (L1 ++ L2) (a.put oi.dst v) w := by
  intro L1
  induction L1 with
  | nil =>
    intro L2 a _ h
    obtain ⟨o, v, ho, hy, hr⟩ := (text_gives hk).1 h
    obtain rfl : o = oi := Option.some.inj (ho.symm.trans hoi)
    exact ⟨v, hy, hr⟩
  | cons x L1 ih =>
    intro L2 a hs h
    obtain ⟨j, kj⟩ := x
    have hsw := hs (j, kj) (by simp)
    have hkj := swapB_still hsw.1
    obtain ⟨oj, vj, hoj, hy, hr⟩ := (text_gives hkj).1 h
    have hap := hsw.2 oj oi hoj hoi
    obtain ⟨h1, h2, h3⟩ := Oper.apart_spec hap
    obtain ⟨v, y0, hr'⟩ := ih L2 _ (fun x hx => hs x (by simp [hx])) hr
    have hsi := fun cs b => hsel i oi cs b hoi
    refine ⟨v, y0.of_same (execOp_put oi hsi a oj.dst vj h1).symm (wanted_put oi a oj.dst vj h1).symm, (text_gives hkj).2 ⟨oj, vj, hoj, hy.of_same (execOp_put oj (fun cs b => hsel j oj cs b hoj) a oi.dst v h3) (wanted_put oj a oi.dst v h3), ?_⟩⟩
    rw [← Act.put_comm a vj v h2]
    exact hr'

/-- An effect may be brought to the front past held and pure operations. -/
theorem front_eff (i : Nat) (oi : Oper) (hoi : ops[i]? = some oi) (hsel : ∀ (j : Nat) (o : Oper) cs b, ops[j]? = some o → o.op ≠ .select cs b)
    (hQ : ∀ c a w (d : Tmp) v, Q (.panic c) (a.put (some d) v) w → Q (.panic c) a w) (w : World) :
    ∀ (L1 L2 : List (Nat × Nat)) (a : Act), (∀ x ∈ L1, Swap ops x (i, 2)) → wpText P ops Q S (L1 ++ (i, 2) :: L2) a w →
      wpOp P ops Q i (fun a' w' => S w' ∧ wpText P ops Q S (L1 ++ L2) a' w') a w := by
  intro L1
  induction L1 with
  | nil => intro L2 a _ h; exact h
  | cons x L1 ih =>
    intro L2 a hs h
    obtain ⟨j, kj⟩ := x
    have hsw := hs (j, kj) (by simp)
    have hkj : kj = 0 ∨ 4 ≤ kj := by
      have := hsw.1
      simp only [swapB, Bool.or_eq_true, Bool.and_eq_true, decide_eq_true_eq, beq_iff_eq, bne_iff_ne] at this
      omega
    obtain ⟨oj, vj, hoj, hy, hr⟩ := (text_gives (by omega)).1 h
    have hr' := ih L2 _ (fun x hx => hs x (by simp [hx])) hr
    have hap := hsw.2 oj oi hoj hoi
    have hq : ∀ c a w, Q (.panic c) (a.put oj.dst vj) w → Q (.panic c) a w := fun c a w hq => by
      cases hd : oj.dst with
      | none => rw [hd] at hq; exact hq
      | some d => rw [hd] at hq; exact hQ c a w d _ hq
    have hsj := fun cs b => hsel j oj cs b hoj
    have hsi := fun cs b => hsel i oi cs b hoi
    rcases hkj with rfl | h4
    · have h2 := wpOp_putIf (S := S) hoi hap hsj hsi hq (hy.1 rfl) hr'
      exact wpOp_mono (fun a' w' h3 => ⟨h3.2.1, oj, vj, hoj, h3.1, h3.2.2⟩) h2
    · have h2 := wpOp_put hoi hap hsj hsi hq (hy.2.2 h4) hr'
      exact wpOp_mono (fun a' w' h3 => ⟨h3.2.1, (text_gives (.inr h4)).2 ⟨oj, vj, hoj, ⟨fun e => absurd e (by omega), fun e => absurd e (by omega), fun _ => h3.1⟩, h3.2.2⟩⟩) h2
/-- An effect behind which S is not wanted, past pure operations. -/
theorem front_last (i : Nat) (oi : Oper) (hoi : ops[i]? = some oi) (hsel : ∀ (j : Nat) (o : Oper) cs b, ops[j]? = some o → o.op ≠ .select cs b)
    (hQ : ∀ c a w (d : Tmp) v, Q (.panic c) (a.put (some d) v) w → Q (.panic c) a w) (w : World) :
    ∀ (L1 L2 : List (Nat × Nat)) (a : Act), (∀ x ∈ L1, Swap ops x (i, 3)) → wpText P ops Q S (L1 ++ (i, 3) :: L2) a w →
      wpOp P ops Q i (fun a' w' => wpText P ops Q S (L1 ++ L2) a' w') a w := by
  intro L1
  induction L1 with
  | nil => intro L2 a _ h; exact h
  | cons x L1 ih =>
    intro L2 a hs h
    obtain ⟨j, kj⟩ := x
    have hsw := hs (j, kj) (by simp)
    have h4 : 4 ≤ kj := by
      have := hsw.1
      simp only [swapB, Bool.or_eq_true, Bool.and_eq_true, decide_eq_true_eq, beq_iff_eq, bne_iff_ne] at this
      omega
    obtain ⟨oj, vj, hoj, hy, hr⟩ := (text_gives (.inr h4)).1 h
    have hr' := ih L2 _ (fun x hx => hs x (by simp [hx])) hr
    have hap := hsw.2 oj oi hoj hoi
    have hq : ∀ c a w, Q (.panic c) (a.put oj.dst vj) w → Q (.panic c) a w := fun c a w hq => by
      cases hd : oj.dst with
      | none => rw [hd] at hq; exact hq
      | some d => rw [hd] at hq; exact hQ c a w d _ hq
    have h2 := wpOp_put hoi hap (fun cs b => hsel j oj cs b hoj) (fun cs b => hsel i oi cs b hoi) hq (hy.2.2 h4) hr'
    exact wpOp_mono (fun a' w' h3 => (text_gives (.inr h4)).2 ⟨oj, vj, hoj, ⟨fun e => absurd e (by omega), fun e => absurd e (by omega), fun _ => h3.1⟩, h3.2⟩) h2

theorem wpOp_of_yieldsAt {i : Nat} {o : Oper} {v : Value} {a : Act} {w : World} {K : Act → World → Prop} (hi : ops[i]? = some o) (hy : YieldsAt P ops w o v a) (h : K (a.put o.dst v) w) : wpOp P ops Q i K a w :=
  wpOp_of_stOp (fun _ h' => h') (hy.stOp hi (K := fun a' => K a' w) h)

/-- What L and the list of what has come up say of one another. -/
structure Inv (ops : Array Oper) (L : List (Nat × Nat)) (listed : Array Bool) : Prop where
  size : listed.size = ops.size
  mem : ∀ i, i ∈ L.map (·.1) ↔ i < ops.size ∧ listed.getD i false = false
  nodup : (L.map (·.1)).Nodup
  closed : Closed ops listed
  pairs : L.Pairwise (fun x y => pairB ops (tbl ops ops.size) x y = true)
  inside : ∀ x ∈ L, ∀ p ∈ preds ops x.1, p < ops.size ∧ p ≠ x.1

theorem getD_true_false {listed : Array Bool} {i : Nat} (hi : i < listed.size) : listed.getD i true = listed.getD i false := by simp [hi]

theorem Inv.ready_of_head {x : Nat × Nat} {r : List (Nat × Nat)} {listed : Array Bool} (h : Inv ops (x :: r) listed) : x.1 ∈ Region.ready .any ops listed := by
  have hx := (h.mem x.1).1 (by simp)
  obtain ⟨o, ho⟩ : ∃ o, ops[x.1]? = some o := ⟨_, Array.getElem?_eq_getElem hx.1⟩
  refine mem_ready.2 ⟨by rw [getD_true_false (by rw [h.size]; exact hx.1)]; exact hx.2, o, ho, fun e he hb => ?_⟩
  have hp := mem_preds ho he hb
  obtain ⟨h1, h2⟩ := h.inside x (by simp) e.on hp
  cases hl : listed.getD e.on false with
  | true => rfl
  | false =>
    have hm := (h.mem e.on).2 ⟨h1, hl⟩
    simp only [List.map_cons, List.mem_cons] at hm
    rcases hm with hm | hm
    · exact absurd hm h2
    · obtain ⟨y, hy, hye⟩ := List.mem_map.1 hm
      have := (List.pairwise_cons.1 h.pairs).1 y hy
      simp only [pairB, Bool.and_eq_true, Bool.not_eq_true'] at this
      rw [hye] at this
      have h3 := this.1.1
      rw [List.contains_iff_mem.2 hp] at h3
      cases h3

theorem Inv.step {L1 L2 : List (Nat × Nat)} {i k : Nat} {listed : Array Bool} (h : Inv ops (L1 ++ (i, k) :: L2) listed) (hr : i ∈ Region.ready .any ops listed) : Inv ops (L1 ++ L2) (listed.setIfInBounds i true) := by
  have hil : i < ops.size := ((h.mem i).1 (by simp)).1
  have hnd := h.nodup
  have hsub : (L1 ++ L2).Sublist (L1 ++ (i, k) :: L2) := List.Sublist.append (List.Sublist.refl _) (List.sublist_cons_self _ _)
  refine ⟨by simp [h.size], fun j => ?_, hnd.sublist (hsub.map _), ?_, h.pairs.sublist hsub, fun x hx => h.inside x (hsub.subset hx)⟩
  · have hj := h.mem j
    have hni : i ∉ (L1 ++ L2).map (·.1) := by
      rw [List.map_append, List.map_cons, List.nodup_append] at hnd
      obtain ⟨_, n2, n3⟩ := hnd
      rw [List.nodup_cons] at n2
      rw [List.map_append, List.mem_append]
      rintro (hm | hm)
      · exact n3 i hm i (by simp) rfl
      · exact n2.1 hm
    by_cases e : i = j
    · subst e
      constructor
      · intro hm; exact absurd hm hni
      · rintro ⟨_, h2⟩
        simp [h.size, hil] at h2
    · rw [getD_set_ne false e]
      rw [← hj]
      simp only [List.map_append, List.map_cons, List.mem_append, List.mem_cons]
      constructor
      · rintro (hm | hm)
        · exact .inl hm
        · exact .inr (.inr hm)
      · rintro (hm | hm | hm)
        · exact .inl hm
        · exact absurd hm.symm e
        · exact .inr hm
  · intro j p hp hl
    by_cases e : i = j
    · subst e
      obtain ⟨_, o, ho, hall⟩ := mem_ready.1 hr
      obtain ⟨o', ed, ho', he, hb, rfl⟩ := of_preds hp
      obtain rfl : o = o' := Option.some.inj (ho.symm.trans ho')
      exact getD_set_true (hall ed he hb)
    · rw [getD_set_ne false e] at hl
      exact getD_set_true (h.closed j p hp hl)

theorem Inv.swap {L1 L2 : List (Nat × Nat)} {i k : Nat} {listed : Array Bool} (h : Inv ops (L1 ++ (i, k) :: L2) listed) (hr : i ∈ Region.ready .any ops listed) : ∀ x ∈ L1, Swap ops x (i, k) := by
  intro x hx
  have hp := (List.pairwise_append.1 h.pairs).2.2 x hx (i, k) (by simp)
  have hxl := (h.mem x.1).1 (by rw [List.map_append, List.mem_append]; exact .inl (List.mem_map_of_mem hx))
  simp only [pairB, Bool.and_eq_true, Bool.or_eq_true, Bool.not_eq_true'] at hp
  rcases hp.2 with ha | hb
  · exfalso
    have hmem : x.1 ∈ (tbl ops ops.size).getD i [] := by simpa using ha
    have hc2 := (h.step hr).closed
    have hl := tbl_sound hc2 _ i x.1 hmem (by
      have hil : i < ops.size := ((h.mem i).1 (by simp)).1
      simp [h.size, hil])
    by_cases e : i = x.1
    · have hnd := h.nodup
      rw [List.map_append, List.map_cons, List.nodup_append] at hnd
      exact hnd.2.2 x.1 (List.mem_map_of_mem hx) i (by simp) e.symm
    · rw [getD_set_ne false e, hxl.2] at hl
      cases hl
  · refine ⟨hb.1, fun ox oy hox hoy => ?_⟩
    · have := hb.2
      simp only [hox, hoy] at this
      exact this

theorem wpAny_of_text (hsel : ∀ (j : Nat) (o : Oper) cs b, ops[j]? = some o → o.op ≠ .select cs b) (hQ : ∀ c a w (d : Tmp) v, Q (.panic c) (a.put (some d) v) w → Q (.panic c) a w) :
    ∀ (n : Nat) (L : List (Nat × Nat)) (listed : Array Bool) (a : Act) (w : World), L.length = n → Inv ops L listed → ((∃ x ∈ L, x.2 = 0) → S w) → wpText P ops Q S L a w → wpAny P .any ops Q n listed a w
  | 0, L, listed, a, w, hn, inv, _, h => by
    obtain rfl : L = [] := List.eq_nil_of_length_eq_zero hn
    refine ⟨?_, h⟩
    cases hrd : Region.ready .any ops listed with
    | nil => rfl
    | cons j js =>
      have hj : j ∈ Region.ready .any ops listed := by rw [hrd]; simp
      obtain ⟨h1, o, ho, _⟩ := mem_ready.1 hj
      have hlt : j < ops.size := (Array.getElem?_eq_some_iff.1 ho).1
      have := (inv.mem j).2 ⟨hlt, by rw [← getD_true_false (by rw [inv.size]; exact hlt)]; exact h1⟩
      simp at this
  | n + 1, L, listed, a, w, hn, inv, hS, h => by
    refine ⟨fun h0 => ?_, fun i hi => ?_⟩
    · cases L with
      | nil => exact h
      | cons x r => have := inv.ready_of_head; rw [h0] at this; cases this
    · obtain ⟨h1, oi, hoi, _⟩ := mem_ready.1 hi
      have hlt : i < ops.size := (Array.getElem?_eq_some_iff.1 hoi).1
      have hm := (inv.mem i).2 ⟨hlt, by rw [← getD_true_false (by rw [inv.size]; exact hlt)]; exact h1⟩
      obtain ⟨⟨i', k⟩, hx, rfl⟩ := List.mem_map.1 hm
      obtain ⟨L1, L2, rfl⟩ := List.append_of_mem hx
      have hsw := inv.swap hi
      have inv' := inv.step hi
      have hn' : (L1 ++ L2).length = n := by simp only [List.length_append, List.length_cons] at hn ⊢; omega
      have hall := fun x (hx : x ∈ L1) => (List.pairwise_append.1 inv.pairs).2.2 x hx (i', k) (by simp)
      have hL2 := (List.pairwise_cons.1 (List.pairwise_append.1 inv.pairs).2.1).1
      have hpass : (∃ x ∈ L1 ++ L2, x.2 = 0) → S w := fun ⟨x, hx, hx0⟩ => hS ⟨x, by simp only [List.mem_append, List.mem_cons] at hx ⊢; exact hx.imp id .inr, hx0⟩
      have go : wpOp P ops Q i' (fun a' w' => ((∃ x ∈ L1 ++ L2, x.2 = 0) → S w') ∧ wpText P ops Q S (L1 ++ L2) a' w') a w := by
        match k, hsw, h, hL2, hS with
        | 0, hsw, h, _, hS =>
          obtain ⟨v, y0, hr⟩ := front_still i' 0 (by omega) oi hoi hsel w L1 L2 a hsw h
          exact (y0.1 rfl).wpOp hoi (hS ⟨(i', 0), by simp, rfl⟩) ⟨hpass, hr⟩
        | 1, hsw, h, _, _ =>
          obtain ⟨v, y1, hr⟩ := front_still i' 1 (by omega) oi hoi hsel w L1 L2 a hsw h
          exact wpOp_of_yieldsAt hoi (y1.2.1 rfl) ⟨hpass, hr⟩
        | 2, hsw, h, _, _ => exact wpOp_mono (fun a' w' h' => ⟨fun _ => h'.1, h'.2⟩) (front_eff i' oi hoi hsel hQ w L1 L2 a hsw h)
        | 3, hsw, h, hL2, _ =>
          refine wpOp_mono (fun a' w' h' => ⟨fun ⟨x, hx, hx0⟩ => ?_, h'⟩) (front_last i' oi hoi hsel hQ w L1 L2 a hsw h)
          exfalso
          rcases List.mem_append.1 hx with hx | hx
          · have := (hsw x hx).1
            rw [hx0] at this
            simp [swapB] at this
          · have := hL2 x hx
            simp [pairB, hx0] at this
        | k + 4, hsw, h, _, _ =>
          obtain ⟨v, y1, hr⟩ := front_still i' (k + 4) (by omega) oi hoi hsel w L1 L2 a hsw h
          exact (y1.2.2 (by omega)).wpOp hoi ⟨hpass, hr⟩
      exact wpOp_mono (fun a' w' h' => wpAny_of_text hsel hQ n (L1 ++ L2) _ a' w' hn' inv' h'.1 h'.2) go

/-- THE RULE. -/
theorem wp_region_text {id : Nat} {a : Act} {w : World} (S : World → Prop) (L : List (Nat × Nat)) (hm : P.follows .mixedOrders = true) (hB : textB ops L = true)
    (hQ : ∀ c a w (d : Tmp) v, Q (.panic c) (a.put (some d) v) w → Q (.panic c) a w) (hS : S w.drew) (h : wpText P ops Q S L a w.drew) : (Code.region id ops true).wp P Q a w := by
  simp only [textB, Bool.and_eq_true, decide_eq_true_eq] at hB
  obtain ⟨⟨⟨⟨⟨h1, h2⟩, h3⟩, h4⟩, hlen⟩, h5⟩ := hB
  refine wp_region_any hm ?_
  refine wpAny_of_text (S := S) (Region.noSelect_spec h1) hQ ops.size L _ a _ hlen ⟨by simp, fun i => ?_, h4, fun j p hp hl => ?_, pairsB_spec h5, fun x hx p hp => ?_⟩ (fun _ => hS) h
  · rw [getD_replicate_false]
    constructor
    · intro hi
      obtain ⟨x, hx, rfl⟩ := List.mem_map.1 hi
      have := List.all_eq_true.1 h3 x hx
      simp only [Bool.and_eq_true, decide_eq_true_eq] at this
      exact ⟨this.1, rfl⟩
    · rintro ⟨hi, _⟩
      have := List.all_eq_true.1 h2 i (List.mem_range.2 hi)
      simpa using this
  · rw [getD_replicate_false] at hl; cases hl
  · have := List.all_eq_true.1 h3 x hx
    simp only [Bool.and_eq_true] at this
    have h6 := List.all_eq_true.1 this.2 p hp
    simp only [Bool.and_eq_true, decide_eq_true_eq] at h6
    exact ⟨h6.1, by simpa using h6.2⟩

section steps
variable {a : Act} {w : World} {r : List (Nat × Nat)} {i : Nat}
theorem held {o : Oper} {v : Value} (ho : ops[i]? = some o) (hw : Region.wanted o (yielded ops a.tmps) = true) (hv : ∀ w, S w → (execOp a.eval o).run P w = .ok (.value v) w)
    (h : wpText P ops Q S r (a.put o.dst v) w) : wpText P ops Q S ((i, 0) :: r) a w := ⟨o, v, ho, .inl ⟨hw, hv⟩, h⟩
theorem pure {o : Oper} {v : Value} (ho : ops[i]? = some o) (hw : Region.wanted o (yielded ops a.tmps) = true) (hv : ∀ w, (execOp a.eval o).run P w = .ok (.value v) w)
    (h : wpText P ops Q S r (a.put o.dst v) w) : wpText P ops Q S ((i, 4) :: r) a w := ⟨o, v, ho, .inl ⟨hw, hv⟩, h⟩
theorem skip4 {o : Oper} (ho : ops[i]? = some o) (hw : Region.wanted o (yielded ops a.tmps) = false)
    (h : wpText P ops Q S r (a.put o.dst undef) w) : wpText P ops Q S ((i, 4) :: r) a w := ⟨o, undef, ho, .inr ⟨hw, rfl⟩, h⟩
theorem skip0 {o : Oper} (ho : ops[i]? = some o) (hw : Region.wanted o (yielded ops a.tmps) = false)
    (h : wpText P ops Q S r (a.put o.dst undef) w) : wpText P ops Q S ((i, 0) :: r) a w := ⟨o, undef, ho, .inr ⟨hw, rfl⟩, h⟩
theorem read {o : Oper} {v : Value} (ho : ops[i]? = some o) (hw : Region.wanted o (yielded ops a.tmps) = true) (hv : (execOp a.eval o).run P w = .ok (.value v) w)
    (h : wpText P ops Q S r (a.put o.dst v) w) : wpText P ops Q S ((i, 1) :: r) a w := ⟨o, v, ho, .inl ⟨hw, .inl hv⟩, h⟩
theorem skip1 {o : Oper} (ho : ops[i]? = some o) (hw : Region.wanted o (yielded ops a.tmps) = false)
    (h : wpText P ops Q S r (a.put o.dst undef) w) : wpText P ops Q S ((i, 1) :: r) a w := ⟨o, undef, ho, .inr ⟨hw, rfl⟩, h⟩
/-- A call that leaves the world as it is, among the reads. -/
theorem quiet {o : Oper} {v : Value} {f : FuncId} {args : Array Value} (ho : ops[i]? = some o) (hw : Region.wanted o (yielded ops a.tmps) = true) (hv : (execOp a.eval o).run P w = .ok (.enter f args) w)
    (hc : Calls P f args w (fun e w'' => e = .returned v ∧ w = w'')) (h : wpText P ops Q S r (a.put o.dst v) w) : wpText P ops Q S ((i, 1) :: r) a w :=
  ⟨o, v, ho, .inl ⟨hw, .inr (.inr ⟨f, args, hv, hc.mono fun _ _ h => ⟨h.1, h.2.symm⟩⟩)⟩, h⟩
/-- No way out but the normal one. -/
def NoQ : Exit → Act → World → Prop := fun _ _ _ => False
theorem wp_of_noQ {o : Oper} {K : Act → World → Prop} (h : o.wp P a w K NoQ) : o.wp P a w K Q := by
  unfold Oper.wp at *
  generalize (execOp a.eval o).run P w = r at *
  cases r with
  | ok n w' =>
    cases n <;> simp only [Oper.upon] at h ⊢ <;>
      first
        | exact h
        | exact Calls.mono h (fun e w'' he => by cases e <;> first | exact he | exact he.elim | (obtain ⟨_, _, hf⟩ := he; exact hf.elim))
  | halt x w' => cases x <;> simp only [Oper.upon] at h ⊢ <;> exact h.elim
theorem eff {o : Oper} (ho : ops[i]? = some o) (hg : o.guard = none) (h : ∀ K : Act → World → Prop, (∀ a w, S w → wpText P ops Q S r a w → K a w) → o.wp P a w K NoQ) : wpText P ops Q S ((i, 2) :: r) a w := by
  show wpOp P ops Q i (fun a' w' => S w' ∧ wpText P ops Q S r a' w') a w
  unfold wpOp
  simp only [ho]
  rw [if_pos (by simp [Region.wanted, hg])]
  exact .inl (wp_of_noQ (h _ fun _ _ h1 h2 => ⟨h1, h2⟩))
theorem last {o : Oper} (ho : ops[i]? = some o) (hg : o.guard = none) (h : ∀ K : Act → World → Prop, (∀ a w, wpText P ops Q S r a w → K a w) → o.wp P a w K NoQ) : wpText P ops Q S ((i, 3) :: r) a w := by
  show wpOp P ops Q i (fun a' w' => wpText P ops Q S r a' w') a w
  unfold wpOp
  simp only [ho]
  rw [if_pos (by simp [Region.wanted, hg])]
  exact .inl (wp_of_noQ (h _ fun _ _ h2 => h2))
theorem purek {o : Oper} (ho : ops[i]? = some o) (hw : Region.wanted o (yielded ops a.tmps) = true)
    (h : ∀ K : Act → Prop, (∀ a, wpText P ops Q S r a w → K a) → ∃ v, (∀ w, (execOp a.eval o).run P w = .ok (.value v) w) ∧ K (a.put o.dst v)) : wpText P ops Q S ((i, 4) :: r) a w := by
  obtain ⟨v, h1, h2⟩ := h _ (fun _ h => h)
  exact pure ho hw h1 h2
theorem heldk {o : Oper} (ho : ops[i]? = some o) (hw : Region.wanted o (yielded ops a.tmps) = true)
    (h : ∀ K : Act → Prop, (∀ a, wpText P ops Q S r a w → K a) → ∃ v, (∀ w, S w → (execOp a.eval o).run P w = .ok (.value v) w) ∧ K (a.put o.dst v)) : wpText P ops Q S ((i, 0) :: r) a w := by
  obtain ⟨v, h1, h2⟩ := h _ (fun _ h => h)
  exact held ho hw h1 h2
theorem readk {o : Oper} (ho : ops[i]? = some o) (hw : Region.wanted o (yielded ops a.tmps) = true)
    (h : ∀ K : Act → Prop, (∀ a, wpText P ops Q S r a w → K a) → ∃ v, (execOp a.eval o).run P w = .ok (.value v) w ∧ K (a.put o.dst v)) : wpText P ops Q S ((i, 1) :: r) a w := by
  obtain ⟨v, h1, h2⟩ := h _ (fun _ h => h)
  exact read ho hw h1 h2
theorem quietk {o : Oper} (ho : ops[i]? = some o) (hw : Region.wanted o (yielded ops a.tmps) = true)
    (h : ∀ K : Act → Prop, (∀ a, wpText P ops Q S r a w → K a) → ∃ v f args, (execOp a.eval o).run P w = .ok (.enter f args) w ∧ Calls P f args w (fun e w'' => e = .returned v ∧ w = w'') ∧ K (a.put o.dst v)) : wpText P ops Q S ((i, 1) :: r) a w := by
  obtain ⟨v, f, args, h1, h2, h3⟩ := h _ (fun _ h => h)
  exact quiet ho hw h1 h2 h3
theorem skipk {o : Oper} {k : Nat} (hk : k = 0 ∨ k = 1 ∨ k = 4) (ho : ops[i]? = some o) (hw : Region.wanted o (yielded ops a.tmps) = false)
    (h : ∀ K : Act → Prop, (∀ a, wpText P ops Q S r a w → K a) → K (a.put o.dst undef)) : wpText P ops Q S ((i, k) :: r) a w := by
  have h2 := h _ (fun _ h => h)
  rcases hk with rfl | rfl | rfl
  · exact skip0 ho hw h2
  · exact skip1 ho hw h2
  · exact skip4 ho hw h2
theorem done (h : Q .normal a w) : wpText P ops Q S [] a w := h
end steps
attribute [irreducible] wpText
end Text
end Go.Proofs.Ytakedococfklgaa
/- Contract of polynomial.Mul. -/
namespace Go.Proofs.Ytakedococfklgaa
open Go.RowKit Gf

/-- Two results: bytes in memory of their own, and an error. -/
def GvB0 (l : List UInt8) (w : World) (e : Ending) (w' : World) : Prop := ∃ v r, e = .returned (.tuple #[v, .int .i64 r]) ∧ GvB l w v w'

set_option maxRecDepth 100000 in
set_option maxHeartbeats 1000000 in
theorem pmul_any (A A' : Option Addr) (n c n' c' : Nat) (p q : List UInt8) (w : World) (hp : BS w A n c p) (hq : BS w A' n' c' q) :
    Calls Try.prog 88 #[.slice A n c, .slice A' n' c'] w (GvB0 (Py.mulP p q) w) := by
  have hn := hp.len_le
  have hn' := hq.len_le
  have HTP := Lib.hid (Py.trim_length p)
  have HTQ := Lib.hid (Py.trim_length q)
  have htp : Py.tl p ≤ 140737488355328 := by have := Py.tl_le p; rw [hp.1] at this; omega
  have htq : Py.tl q ≤ 140737488355328 := by have := Py.tl_le q; rw [hq.1] at this; omega
  have HP := Lib.hid hp
  have HQ := Lib.hid hq
  clear hp hq
  obtain ⟨a, ha⟩ : ∃ a, a = Py.tl p := ⟨_, rfl⟩
  obtain ⟨b, hb⟩ : ∃ b, b = Py.tl q := ⟨_, rfl⟩
  rw [← ha] at HTP htp
  rw [← hb] at HTQ htq
  clear ha hb
  have HM : Hid (Py.mulP p q = if a = 0 ∨ b = 0 then [] else if 1023 < a - 1 + b - 1 then [] else Py.convK (Py.trim p) (Py.trim q) a) := Lib.hid (by unfold Py.mulP; rw [HTP.out, HTQ.out])
  go_enter Try.func88, Try.ntmps88
  go_wp2_with fail
  refine (trim_any _ _ _ _ _ HP.out).mono ?_
  rintro e w1 ⟨v1, rfl, g1, n1, rfl, h11, h12, h13, h14⟩
  obtain rfl : a = n1 := by rw [← h11, HTP.out]
  have H13 := Lib.hid h13
  have H14 := Lib.hid h14
  have HQ1 := Lib.hid (HQ.out.kept h14)
  clear h11 h13 h14 HQ HP
  go_wp2_with fail
  refine (trim_any _ _ _ _ _ HQ1.out).mono ?_
  rintro e w2 ⟨v2, rfl, g2, n2, rfl, h21, h22, h23, h24⟩
  obtain rfl : b = n2 := by rw [← h21, HTQ.out]
  have H1 := Lib.hid (H13.out.kept h24)
  have H2 := Lib.hid h23
  have HB := Lib.hid (below_then H14.out h24)
  clear h21 h22 h12 h23 h24 H13 H14 HQ1
  by_cases ha0 : a = 0
  · subst ha0
    have HR : Hid (GvB (Py.mulP p q) w (.slice none 0 0) w2) := Lib.hid (by rw [HM.out, if_pos (.inl rfl)]; exact ⟨none, 0, 0, rfl, BS.nil, (fun _ h => by cases h), HB.out⟩)
    go_wp2_with fail
    go_ret2
    exact ⟨_, _, rfl, HR.out⟩
  by_cases hb0 : b = 0
  · subst hb0
    have HR : Hid (GvB (Py.mulP p q) w (.slice none 0 0) w2) := Lib.hid (by rw [HM.out, if_pos (.inr rfl)]; exact ⟨none, 0, 0, rfl, BS.nil, (fun _ h => by cases h), HB.out⟩)
    have q1 : ((a : Int) == 0) = false := by simp; omega
    have HA0 := Lib.hid ha0
    clear ha0
    go_wp2_with fail
    go_ret2
    exact ⟨_, _, rfl, HR.out⟩
  have q1 : ((a : Int) == 0) = false := by simp; omega
  have q2 : ((b : Int) == 0) = false := by simp; omega
  by_cases hbig : 1023 < a - 1 + b - 1
  · have HR : Hid (GvB (Py.mulP p q) w (.slice none 0 0) w2) := Lib.hid (by rw [HM.out, if_neg (by omega), if_pos hbig]; exact ⟨none, 0, 0, rfl, BS.nil, (fun _ h => by cases h), HB.out⟩)
    have q3 : decide ((1023 : Int) < (a : Int) - 1 + (b : Int) - 1) = true := by simp; omega
    have HA0 := Lib.hid ha0
    have HB0 := Lib.hid hb0
    clear ha0 hb0 hbig
    go_wp2_with fail
    go_ret2
    exact ⟨_, _, rfl, HR.out⟩
  have q3 : decide ((1023 : Int) < (a : Int) - 1 + (b : Int) - 1) = false := by simp; omega
  have HR : Hid (Py.mulP p q = Py.convK (Py.trim p) (Py.trim q) a) := Lib.hid (by rw [HM.out, if_neg (by omega), if_neg hbig])
  clear HM
  obtain ⟨m, hm⟩ : ∃ m, m = a + b - 1 := ⟨_, rfl⟩
  have HCL : Hid (∀ k, (Py.convK (Py.trim p) (Py.trim q) k).length = m) := Lib.hid (fun k => by rw [Py.convK_length, HTP.out, HTQ.out]; exact hm.symm)
  have hm1 : a ≤ m := by omega
  have hm2 : m ≤ 2000 := by omega
  have s1 : (a : Int) + (b : Int) - 1 = (m : Int) := by omega
  have hab : a + b = m + 1 := by omega
  have HAB := Lib.hid hab
  have hmk := make_bytes m (by omega)
  have HA0 := Lib.hid ha0
  have HB0 := Lib.hid hb0
  have HBG := Lib.hid hbig
  clear ha0 hb0 hbig hm hab
  go_wp2_with fail
  clear q1 q2 q3 s1 hmk
  go_loopw [38] (fun i wr => ∃ k : Nat, k ≤ a ∧ i = .int .i64 (k : Int) ∧ Hid (OB wr w2.heap.size 5 m (Py.convK (Py.trim p) (Py.trim q) k)) ∧ Hid (Below w2.heap.size w2 wr)) (fun i _ => a - (intOf i).toNat)
  case atStart =>
    refine ⟨0, by omega, rfl, Lib.hid ?_, Lib.hid ((Below.refl _ _).alloc (Nat.le_refl _) _)⟩
    have h0 := HCL.out 0
    rw [Py.convK, HTP.out, HTQ.out] at h0 ⊢
    rw [zeros_length] at h0
    rw [h0]
    have := OB.of_blk (l := zeros m) (Blk.new w2 5 _)
    rw [zeros_length] at this
    exact this
  case round =>
    obtain ⟨k, hk, rfl, h1, h2⟩ := hrel
    by_cases hlt : k < a
    · have c1 : wr.cell? ⟨g1, k, none⟩ = some (B (gB (Py.trim p) k)) := by
        rw [(H1.out.kept h2.out).cell, row_get _ _ (by rw [HTP.out]; exact hlt)]
      have HQ2 : Hid (BS wr (some ⟨g2, 0, none⟩) b b (Py.trim q)) := Lib.hid (BS.of_blk (H2.out.kept h2.out) HTQ.out (by unfold lim; have := HAB.out; omega))
      have hkm : k < m := by omega
      have q1 : (k == m) = false := by simp; omega
      go_wp2_with fail
      refine (addTo_any w2.heap.size k (m - k) (m - k) m _ _ _ b b (Py.trim q) (gB (Py.trim p) k) wr h1.out HQ2.out (by rw [HCL.out]; omega) (by have := HAB.out; omega) (by rw [HCL.out]; unfold lim; omega)).mono ?_
      rintro e w3 ⟨rfl, h31, h32⟩
      have H31 := Lib.hid h31
      have H32 : Hid (Below w2.heap.size w2 w3) := Lib.hid (h2.out.trans (h32.below h2.out.size (fun k e => by rw [e]; exact Nat.le_refl _)))
      clear h31 h32
      go_wp2_with fail
      go_roundw
      case rel => exact ⟨k + 1, by omega, by go_num, H31, H32⟩
      case measure => simp [intOf]; omega
    · obtain rfl : k = a := by omega
      have HG : Hid (GvB (Py.mulP p q) w (.slice (some ⟨w2.heap.size, 0, none⟩) m m) wr) := Lib.hid ⟨_, _, _, rfl, by
        rw [HR.out]
        have h3 := h1.out.bs0 (c := m) (by rw [HCL.out]; exact Nat.le_refl _) (by rw [HCL.out]; unfold lim; omega)
        rw [HCL.out] at h3
        exact h3, (fun a e => by cases e; exact HB.out.size), below_then HB.out h2.out⟩
      go_wp2_with fail
      go_ret2
      exact ⟨_, _, rfl, HG.out⟩
end Go.Proofs.Ytakedococfklgaa
/- Contract of polynomial.Interpolate. -/
namespace Go.Proofs.Ytakedococfklgaa
open Go.RowKit Gf

attribute [local go_sem] Gf.xor_bits Gf.and_bits Gf.or_bits Gf.ne_zero_iff Gf.eq_zero_iff Gf.eq_one_iff Gf.beq_bytes Gf.bne_bytes Gf.bv_toNat

/-- Is i among f 0, .., f (k - 1)? -/
def sN (f : Nat → Nat) (k i : Nat) : Bool := (List.range k).any fun j => f j == i
theorem sN_succ (f : Nat → Nat) (k i : Nat) : sN f (k + 1) i = (sN f k i || (f k == i)) := by
  unfold sN; rw [List.range_succ, List.any_append]; simp
theorem sN_false {f : Nat → Nat} {k i : Nat} (h : ∀ j, j < k → f j ≠ i) : sN f k i = false := by
  unfold sN; rw [List.any_eq_false]; intro j hj; simpa using h j (List.mem_range.1 hj)
theorem sN_true {f : Nat → Nat} {k i : Nat} (h : sN f k i = true) : ∃ j, j < k ∧ f j = i := by
  unfold sN at h; rw [List.any_eq_true] at h
  obtain ⟨j, h1, h2⟩ := h
  exact ⟨j, List.mem_range.1 h1, by simpa using h2⟩
def sA (f : Nat → Nat) (k : Nat) : Array Value := ((List.range 256).map fun i => Value.bool (sN f k i)).toArray
theorem sA_zero (f : Nat → Nat) : Try.zeroCells48 = sA f 0 := by
  show _ = ((List.range 256).map fun _ => Value.bool false).toArray
  kernel_rfl
theorem sA_get (f : Nat → Nat) (k i : Nat) (h : i < 256) : (sA f k)[i]? = some (.bool (sN f k i)) := by
  simp [sA, h]
theorem sA_set (f : Nat → Nat) (k : Nat) : (sA f k).setIfInBounds (f k) (.bool true) = sA f (k + 1) := by
  unfold sA
  rw [List.setIfInBounds_toArray]
  congr 1
  apply List.ext_getElem (by simp)
  intro j h1 h2
  simp only [List.getElem_set, List.getElem_map, List.getElem_range]
  by_cases e : f k = j
  · rw [if_pos e, sN_succ, e]
    simp
  · rw [if_neg e, sN_succ]
    have : (f k == j) = false := by simpa using e
    rw [this, Bool.or_false]

theorem far_kept {w w' : World} {A : Option Addr} {n c : Nat} {l : List UInt8} {S : Nat → Prop} (h : BS w A n c l) (hk : Kp S w w') (hf : AtB A (fun b => ¬ S b)) : BS w' A n c l :=
  ⟨h.1, h.2.1, h.2.2.1, fun k hkn => by
    obtain ⟨g, o, e, hc⟩ := h.2.2.2 k hkn
    exact ⟨g, o, e, hk.cell hc (hf ⟨g, o, none⟩ e)⟩⟩

set_option maxRecDepth 100000 in
set_option maxHeartbeats 1000000 in
theorem interp_any (A A' : Option Addr) (n c c' : Nat) (xs ys : List UInt8) (w : World) (hp : BS w A n c xs) (hq : BS w A' n c' ys) (hn : n ≤ 1000) (hnd : Py.Dst xs) :
    Calls Try.prog 52 #[.slice A n c, .slice A' n c'] w (GvB0 (Py.itP xs ys) w) := by
  have HLX := Lib.hid hp.1
  have HLY := Lib.hid hq.1
  have HX := Lib.hid hp
  have HY := Lib.hid hq
  have HND := Lib.hid hnd
  have HNS : Hid (∀ k, k < n → sN (fun j => (gB xs j).toNat) k (gB xs k).toNat = false) := Lib.hid (fun k hk => sN_false fun j hj he => by
    exact hnd j k hj (by rw [HLX.out]; exact hk) (UInt8.toNat_inj.1 he))
  have HNN := Lib.hid hn
  have hn2 : n ≤ 140737488355328 := by omega
  have hmk := make_bytes n hn2
  clear hp hq hnd hn
  go_enter Try.func52, Try.ntmps52
  go_wp2_with fail
  go_loopw [22] (fun i wr => ∃ k : Nat, k ≤ n ∧ i = .int .i64 (k : Int) ∧ Hid (Blk wr w.heap.size 48 (sA (fun j => (gB xs j).toNat) k)) ∧ Hid (Below w.heap.size w wr)) (fun i _ => n - (intOf i).toNat)
  case atStart =>
    refine ⟨0, by omega, rfl, Lib.hid ?_, Lib.hid ((Below.refl _ _).alloc (Nat.le_refl _) _)⟩
    rw [← sA_zero]
    exact Blk.new w _ _
  case round =>
    obtain ⟨k, hk, rfl, hs, hb⟩ := hrel
    by_cases hlt : k < n
    · obtain ⟨g, o, rfl, hc⟩ := HX.out.at_ hb.out hlt
      obtain ⟨x, hx⟩ : ∃ x, x = gB xs k := ⟨_, rfl⟩
      have h1 := hs.out.cell (gB xs k).toNat
      rw [sA_get _ _ _ (gB xs k).toNat_lt, HNS.out k hlt, ← hx] at h1
      rw [← hx] at hc
      have h2 := hs.out.frozen x.toNat
      have h3 := bv_lo x
      have h4 := bv_hi x
      have HS : Hid (Blk (wr.setCell ⟨w.heap.size, x.toNat, none⟩ (.bool true)) w.heap.size 48 (sA (fun j => (gB xs j).toNat) (k + 1))) := Lib.hid (by
        have := hs.out.set_ (gB xs k).toNat (.bool true)
        rw [sA_set (fun j => (gB xs j).toNat) k, ← hx] at this
        exact this)
      have HXX := Lib.hid hx
      clear hx hmk
      go_wp2_with fail
      go_roundw
      case rel => exact ⟨k + 1, by omega, by go_num, HS, Lib.hid (hb.out.setCell (Nat.le_refl _) _)⟩
      case measure => simp [intOf]; omega
    · obtain ⟨w1, rfl⟩ : ∃ w1, w1 = wr := ⟨_, rfl⟩
      go_wp2_with fail
      clear hmk
      have HSZ := Lib.hid hb.out.size
      go_loopw [10, 38] (fun v i wr => ∃ (k A1 n1 c1 : _), k ≤ n ∧ n1 = k + 1 ∧ i = .int .i64 (k : Int) ∧ v = .slice A1 n1 c1 ∧ Hid (BS wr A1 n1 c1 (Py.itK xs ys k).2) ∧ Hid (AtB A1 (fun b => b ≠ w1.heap.size)) ∧ Hid (OB wr w1.heap.size 5 n (Py.itK xs ys k).1) ∧ Hid (Below w.heap.size w wr)) (fun _ i _ => n - (intOf i).toNat)
      case atStart =>
        refine ⟨0, _, 1, 1, by omega, rfl, rfl, rfl, Lib.hid ?_, Lib.hid (fun a e => by cases e; simp), Lib.hid ?_, Lib.hid ((hb.out.alloc HSZ.out _).alloc (by have := HSZ.out; simp; omega) _)⟩
        · have hblk : Blk ((w1.alloc (.cells (row (zeros n)) 5)).alloc (.cells (row [1]) 5)) (w1.heap.size + 1) 5 (row [1]) := by
            have := Blk.new (w1.alloc (.cells (row (zeros n)) 5)) 5 (row [1])
            rw [World.size_alloc] at this
            exact this
          exact BS.of_blk hblk rfl (by decide)
        · have := OB.of_blk (l := zeros n) ((Blk.new w1 5 (row (zeros n))).alloc (.cells (row [1]) 5))
          rw [zeros_length] at this
          rw [Py.itK, HLX.out]
          exact this
      case round =>
        obtain ⟨k, A1, n1, c1, hk', rfl, rfl, rfl, hB, hF, hO, hb'⟩ := hrel
        by_cases hlt' : k < n
        · obtain ⟨g, o, rfl, hc⟩ := HX.out.at_ hb'.out hlt'
          obtain ⟨gy, oy, rfl, hcy⟩ := HY.out.at_ hb'.out hlt'
          have HBR : Hid (BS wr (some ⟨w1.heap.size, 0, none⟩) n n (Py.itK xs ys k).1) := Lib.hid (by
            have h1 := Py.itK_length1 xs ys k
            rw [HLX.out] at h1
            have := hO.out.bs0 (c := n) (by rw [h1]; exact Nat.le_refl _) (by rw [h1]; unfold lim; omega)
            rw [h1] at this
            exact this)
          go_wp2_with fail
          go_quiet ((first
            | (go_at_call 69; exact Calls.quiet_of (eval_any _ _ _ _ _ _ (HBR.out.drewN _)))
            | (go_at_call 69; exact Calls.quiet_of (eval_any _ _ _ _ _ _ (hB.out.drewN _)))
            | (go_at_call 72; exact quiet_left (div_any _ _ _))))
          go_wp2_with fail
          refine (addTo_any w1.heap.size 0 n n n _ _ A1 (k + 1) c1 (Py.itK xs ys k).2 (Py.dv (gB ys k ^^^ Py.ev (Py.itK xs ys k).1 (gB xs k)) (Py.ev (Py.itK xs ys k).2 (gB xs k))) _ (hO.out.drewN _) (hB.out.drewN _) (by rw [Py.itK_length1, HLX.out]; omega) (by omega) (by rw [Py.itK_length1, HLX.out]; unfold lim; omega)).mono ?_
          rintro e w3 ⟨rfl, h31, h32⟩
          have HO3 : Hid (OB w3 w1.heap.size 5 n (Py.itK xs ys (k + 1)).1) := Lib.hid h31
          have HB3 : Hid (BS w3 A1 (k + 1) c1 (Py.itK xs ys k).2) := Lib.hid (far_kept (hB.out.drewN _) h32 (fun a e => hF.out a e))
          have HW3 : Hid (Below w.heap.size w w3) := Lib.hid ((below_drewN hb'.out _).trans (h32.below hb'.out.size (fun k e => by rw [e]; exact HSZ.out)))
          clear h31 h32 hB hO hb' HBR
          go_wp2_with fail
          refine (timesRoot_any A1 (k + 1) c1 _ _ w3 HB3.out (by have := HNN.out; omega)).mono ?_
          rintro e w4 ⟨v4, rfl, A4, n4, c4, rfl, h41, h42, h43⟩
          obtain rfl : n4 = k + 1 + 1 := by rw [← h41.1, Py.tr_length, Py.itK_length2]
          have HB4 : Hid (BS w4 A4 (k + 1 + 1) c4 (Py.itK xs ys (k + 1)).2) := Lib.hid h41
          have HF4 : Hid (AtB A4 (fun b => b ≠ w1.heap.size)) := Lib.hid (fun a e => by have h1 := h42 a e; have h2 := HO3.out.lt; intro h3; omega)
          have HO4 := Lib.hid (HO3.out.kept h43)
          have HW4 := Lib.hid (below_then HW3.out h43)
          clear h41 h42 h43 HB3 HO3 HW3
          go_wp2_with fail
          go_roundw
          case rel => exact ⟨k + 1, A4, k + 1 + 1, c4, by omega, rfl, by go_num, rfl, HB4, HF4, HO4, HW4⟩
          case measure => simp [intOf]; omega
        · obtain rfl : k = n := by omega
          have HBR : Hid (BS wr (some ⟨w1.heap.size, 0, none⟩) k k (Py.itK xs ys k).1) := Lib.hid (by
            have h1 := Py.itK_length1 xs ys k
            rw [HLX.out] at h1
            have := hO.out.bs0 (c := k) (by rw [h1]; exact Nat.le_refl _) (by rw [h1]; unfold lim; omega)
            rw [h1] at this
            exact this)
          have HE : Hid (Py.trim (Py.itK xs ys k).1 = Py.itP xs ys) := Lib.hid (by rw [Py.itP, HLX.out])
          go_wp2_with fail
          refine (trim_any _ _ _ _ _ HBR.out).mono ?_
          rintro e w3 ⟨v3, rfl, hv3⟩
          rw [HE.out] at hv3
          obtain ⟨A3, n3, c3, rfl, h31, h32, h33⟩ := hv3.gv (by
            have h1 := Py.tl_le (Py.itK xs ys k).1
            have h2 := Py.trim_length (Py.itK xs ys k).1
            have h3 := Py.itK_length1 xs ys k
            rw [HLX.out] at h3
            rw [HE.out] at h2
            unfold lim
            omega)
          have HR : Hid (GvB (Py.itP xs ys) w (.slice A3 n3 c3) w3) := Lib.hid ⟨_, _, _, rfl, h31, (fun a e => Nat.le_trans hb'.out.size (h32 a e)), below_then hb'.out h33⟩
          clear h31 h32 h33 hv3
          go_wp2_with fail
          go_ret2
          exact ⟨_, _, rfl, HR.out⟩
end Go.Proofs.Ytakedococfklgaa
