/- Contracts of package gf256: double, Mul, Inv: the walks. -/
import Derived.Test.YtakedococfklgaaChecked
import Derived.Test.YtakedococfklgaaGf
import Derived.WalkKit
import Derived.WalkLawsBesides
import Derived.WalkSpells
import Derived.Deep.QuietTactic
import Derived.BigQuiet
import Derived.Lib.Hide
namespace Go.Proofs.Ytakedococfklgaa
open Go.RowKit Gf

attribute [local go_sem] Gf.xor_bits Gf.and_bits Gf.or_bits Gf.and128 Gf.and1 Gf.xor29 Gf.shl1 Gf.shr1 Gf.ne_zero_iff Gf.eq_zero_iff Gf.eq_one_iff Gf.beq_bytes Gf.bne_bytes Gf.bv_toNat

theorem ret_u8 {a b : UInt8} (h : a = b) : Ending.returned (B a) = .returned (B b) := by rw [h]

set_option maxHeartbeats 400000 in
theorem double_any (a : UInt8) (w : World) :
    Calls Try.prog 102 #[B a] w fun e w' => e = .returned (B (dbl a)) ∧ w = w' := by
  by_cases h : (a &&& 128 != 0) = true
  · go_enter Try.func102, Try.ntmps102
    go_wp2
    go_ret
    refine ⟨?_, rfl⟩
    show Ending.returned (B (a <<< 1 ^^^ 29)) = _
    rw [dbl, if_pos h]
  · have h' : (a &&& 128 != 0) = false := by simpa using h
    go_enter Try.func102, Try.ntmps102
    go_wp2
    go_ret
    refine ⟨?_, rfl⟩
    show Ending.returned (.int .u8 (bv a * (2 : Int) % (256 : Int))) = _
    rw [shl1, dbl, if_neg h]

set_option maxHeartbeats 400000 in
theorem mul_any (a b : UInt8) (w : World) :
    Calls Try.prog 76 #[B a, B b] w fun e w' => e = .returned (B (mul a b)) ∧ w = w' := by
  go_enter Try.func76, Try.ntmps76
  go_wp2
  go_loop [0, 1, 5] (fun x y p => ∃ a' b' p' : UInt8, x = B a' ∧ y = B b' ∧ p = B p' ∧ Hid (mulAux 8 a' b' p' = mul a b)) (fun _ y _ => (intOf y).toNat)
  case atStart => exact ⟨a, b, 0, rfl, rfl, rfl, Lib.hid rfl⟩
  case round =>
    obtain ⟨a', b', p', rfl, rfl, rfl, hm⟩ := hrel
    by_cases hb : b' = 0
    · have H : Hid (p' = mul a b) := by
        have := hm.out; subst hb; rw [mulAux_zero] at this; exact this
      clear hm
      have hb' : (b' != 0) = false := by simp [hb]
      have HB := Lib.hid hb
      clear hb
      go_wp2
      go_ret
      exact ⟨ret_u8 H.out, rfl⟩
    · have hb' : (b' != 0) = true := by simp [hb]
      have hlt := shr1_lt b' hb
      have hs := mulAux_step a' b' p' hb
      have HB := Lib.hid hb
      clear hb
      by_cases h1 : b' &&& 1 = 1
      · rw [if_pos h1] at hs
        have HS := Lib.hid (hs.symm.trans hm.out)
        have h1' : (b' &&& 1 == 1) = true := by simp [h1]
        clear hs h1 hm
        go_wp2_with (go_at_call 102; refine (double_any _ _).mono ?_; rintro e w' ⟨rfl, rfl⟩)
        go_round
        case rel => exact ⟨_, b' >>> 1, _, rfl, rfl, rfl, HS⟩
        case measure => simp only [intOf, Gf.bv_toNat]; omega
      · rw [if_neg h1] at hs
        have HS := Lib.hid (hs.symm.trans hm.out)
        have h1' : (b' &&& 1 == 1) = false := by simp [h1]
        clear hs h1 hm
        go_wp2_with (go_at_call 102; refine (double_any _ _).mono ?_; rintro e w' ⟨rfl, rfl⟩)
        go_round
        case rel => exact ⟨_, b' >>> 1, _, rfl, rfl, rfl, HS⟩
        case measure => simp only [intOf, Gf.bv_toNat]; omega

set_option maxHeartbeats 400000 in
theorem inv_any (a : UInt8) (h : (a == 0) = false) (w : World) :
    Calls Try.prog 101 #[B a] w fun e w' => e = .returned (.tuple #[B (inv a), .int .i64 0]) ∧ w = w' := by
  go_enter Try.func101, Try.ntmps101
  go_wp2
  go_loop [0, 4, 7] (fun x i k => ∃ (a' i' : UInt8) (n : Nat), x = B a' ∧ i = B i' ∧ k = .int .i64 (n : Int) ∧ n ≤ 7 ∧ Hid (invAux (7 - n) a' i' = inv a)) (fun _ _ k => 7 - (intOf k).toNat)
  case atStart => exact ⟨a, 1, 0, rfl, rfl, rfl, by omega, Lib.hid rfl⟩
  case round =>
    obtain ⟨a', i', n, rfl, rfl, rfl, hn, hm⟩ := hrel
    by_cases hlt : n < 7
    · have HS : Hid (invAux (7 - (n + 1)) (mul a' a') (mul i' (mul a' a')) = inv a) := by
        have e : 7 - n = (7 - (n + 1)) + 1 := by omega
        have := hm.out; rw [e, invAux] at this; exact this
      clear hm
      go_wp2_with (go_at_call 76; refine (mul_any _ _ _).mono ?_; rintro e w' ⟨rfl, rfl⟩)
      go_round
      case rel => exact ⟨_, _, n + 1, rfl, rfl, by go_num, by omega, HS⟩
      case measure => simp [intOf]; omega
    · have HS : Hid (i' = inv a) := by
        have e : 7 - n = 0 := by omega
        have := hm.out; rw [e, invAux] at this; exact this
      clear hm
      go_wp2
      go_ret2
      exact ⟨by rw [← HS.out]; rfl, rfl⟩

set_option maxHeartbeats 400000 in
theorem inv_zero (w : World) :
    Calls Try.prog 101 #[B 0] w fun e w' => e = .returned (.tuple #[B 0, .int .i64 1]) ∧ w = w' := by
  have h : ((0 : UInt8) == 0) = true := rfl
  go_enter Try.func101, Try.ntmps101
  go_wp2
  go_ret2
  exact ⟨rfl, rfl⟩
end Go.Proofs.Ytakedococfklgaa
