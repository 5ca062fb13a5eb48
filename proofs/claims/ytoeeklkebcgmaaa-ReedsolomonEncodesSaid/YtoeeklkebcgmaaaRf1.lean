/- Contracts of the references kinkeepref04: Mul, Inv. -/
import Derived.Test.YtoeeklkebcgmaaaRs1
namespace Go.Proofs.Ytoeeklkebcgmaaa
open Go.RowKit Gf

attribute [local go_sem] Gf.eq_one_iff

theorem xor_i64 (a b : UInt8) : bits .xor .i64 (bv a) (bv b) = bv (a ^^^ b) := by
  unfold bv; rw [i64_xor_nat _ _ (by have := a.toNat_lt; omega) (by have := b.toNat_lt; omega), UInt8.toNat_xor]
theorem dbl_hi : ∀ u : UInt8, 255 < bv u * 2 → bits .xor .i64 (bv u * 2) 285 = bv (dbl u) := all_u8 (by decide +kernel)
theorem dbl_lo : ∀ u : UInt8, bv u * 2 ≤ 255 → bv u * 2 = bv (dbl u) := all_u8 (by decide +kernel)
def shn (b : UInt8) (k : Nat) : UInt8 := UInt8.ofNat (b.toNat / 2 ^ k)
theorem shn_bv (b : UInt8) (k : Nat) : bv b / 2 ^ k = bv (shn b k) := by
  unfold bv shn
  have h : b.toNat / 2 ^ k < 256 := Nat.lt_of_le_of_lt (Nat.div_le_self _ _) b.toNat_lt
  have : (UInt8.ofNat (b.toNat / 2 ^ k)).toNat = b.toNat / 2 ^ k := by simp; omega
  rw [this]; push_cast; rfl
theorem shn_succ (b : UInt8) (k : Nat) : shn b (k + 1) = shn b k >>> 1 := by
  apply UInt8.toNat_inj.1
  rw [shr1_half]
  unfold shn
  have h : b.toNat / 2 ^ k < 256 := Nat.lt_of_le_of_lt (Nat.div_le_self _ _) b.toNat_lt
  have h' : b.toNat / 2 ^ (k + 1) < 256 := Nat.lt_of_le_of_lt (Nat.div_le_self _ _) b.toNat_lt
  have e1 : (UInt8.ofNat (b.toNat / 2 ^ k)).toNat = b.toNat / 2 ^ k := by simp; omega
  have e2 : (UInt8.ofNat (b.toNat / 2 ^ (k + 1))).toNat = b.toNat / 2 ^ (k + 1) := by simp; omega
  rw [e1, e2, Nat.pow_succ, Nat.div_div_eq_div_mul]

set_option maxRecDepth 100000 in
set_option maxHeartbeats 400000 in
theorem rmul_any (a b : UInt8) (w : World) :
    Calls Try.prog 50 #[B a, B b] w fun e w' => e = .returned (B (mul a b)) ∧ w = w' := by
  have ha := bv_lo a
  have ha' := bv_hi a
  go_enter Try.func50, Try.ntmps50
  go_wp2
  go_loop [5, 6, 7] (fun x s i => ∃ (u v : UInt8) (k : Nat), x = .int .i64 (bv u) ∧ s = .int .i64 (bv v) ∧ i = .int .i64 (k : Int) ∧ k ≤ 8 ∧ Hid (v ^^^ mulBits (8 - k) u (shn b k) = mul a b)) (fun _ _ i => 8 - (intOf i).toNat)
  case atStart => exact ⟨a, 0, 0, rfl, rfl, rfl, by omega, Lib.hid (by rw [mul_bits]; simp [shn])⟩
  case round =>
    obtain ⟨u, v, k, rfl, rfl, rfl, hk, hm⟩ := hrel
    by_cases hlt : k < 8
    · have hu := bv_lo u
      have hu' := bv_hi u
      have HS : Hid (∀ v', (v' = v ^^^ if shn b k &&& 1 = 1 then u else 0) → v' ^^^ mulBits (8 - (k + 1)) (dbl u) (shn b (k + 1)) = mul a b) := by
        refine Lib.hid fun v' hv' => ?_
        have := hm.out
        rw [show 8 - k = (8 - (k + 1)) + 1 by omega, mulBits] at this
        rw [hv', shn_succ, xor_assoc]
        exact this
      have HX : Hid (bits .xor .i64 (bv v) (bv u) = bv (v ^^^ u)) := Lib.hid (xor_i64 v u)
      have HD1 := Lib.hid (dbl_hi u)
      have HD2 := Lib.hid (dbl_lo u)
      have HB : Hid (bits .and .u8 (bv b / 2 ^ k) 1 = bv (shn b k &&& 1)) := Lib.hid (by rw [shn_bv, and1])
      clear hm
      by_cases h1 : shn b k &&& 1 = 1
      · have hb : (bits .and .u8 (bv b / 2 ^ k) 1 == 1) = true := by rw [HB.out, h1]; rfl
        have HS' := Lib.hid (HS.out (v ^^^ u) (by rw [if_pos h1]))
        clear HS h1
        go_wp2
        · go_round
          case rel => exact ⟨dbl u, v ^^^ u, k + 1, by rw [HD1.out (by assumption)], by rw [HX.out], by go_num, by omega, HS'⟩
          case measure => simp [intOf]; omega
        · go_round
          case rel => exact ⟨dbl u, v ^^^ u, k + 1, by rw [HD2.out (by assumption)], by rw [HX.out], by go_num, by omega, HS'⟩
          case measure => simp [intOf]; omega
      · have hb : (bits .and .u8 (bv b / 2 ^ k) 1 == 1) = false := by
          rw [HB.out, eq_one_iff]; simpa using h1
        have HS' := Lib.hid (HS.out v (by rw [if_neg h1]; simp))
        clear HS h1
        go_wp2
        · go_round
          case rel => exact ⟨dbl u, v, k + 1, by rw [HD1.out (by assumption)], rfl, by go_num, by omega, HS'⟩
          case measure => simp [intOf]; omega
        · go_round
          case rel => exact ⟨dbl u, v, k + 1, by rw [HD2.out (by assumption)], rfl, by go_num, by omega, HS'⟩
          case measure => simp [intOf]; omega
    · obtain rfl : k = 8 := by omega
      have HV : Hid (v = mul a b) := Lib.hid (by have := hm.out; simpa [mulBits] using this)
      have hv := bv_lo v
      have hv' := bv_hi v
      go_wp2
      go_ret
      refine ⟨?_, rfl⟩
      rw [← HV.out]
      rfl

/-- The first of 1.. whose product is 1. -/
theorem rinv_first (a : UInt8) (k : Nat) (h : mul a (UInt8.ofNat k) = 1) : inv a = UInt8.ofNat k := by
  have ha : a ≠ 0 := by intro e; rw [e, zero_mul] at h; exact absurd h (by decide)
  have h1 := mul_inv a ha
  calc inv a = mul (inv a) (mul a (UInt8.ofNat k)) := by rw [h, mul_one]
    _ = mul (mul a (inv a)) (UInt8.ofNat k) := by rw [← mul_assoc, mul_comm (inv a) a]
    _ = UInt8.ofNat k := by rw [h1, one_mul]
theorem inv_ne_zero (a : UInt8) (ha : a ≠ 0) : inv a ≠ 0 := fun e => by
  have := mul_inv a ha; rw [e, mul_zero] at this; exact absurd this (by decide)
theorem inv_none (a : UInt8) (h : ∀ k, 1 ≤ k → k < 256 → mul a (UInt8.ofNat k) ≠ 1) : a = 0 := by
  apply Classical.byContradiction; intro ha
  have h1 := mul_inv a ha
  have h2 := inv_ne_zero a ha
  have h3 : UInt8.ofNat (inv a).toNat = inv a := by simp
  refine h (inv a).toNat ?_ (inv a).toNat_lt (by rw [h3]; exact h1)
  rcases Nat.eq_zero_or_pos (inv a).toNat with e | e
  · exact absurd (UInt8.toNat_inj.1 (by rw [e]; rfl)) h2
  · exact e
theorem inv_zero_eq : inv 0 = 0 := by decide +kernel

theorem rmul_nat (a : UInt8) (k : Nat) (w : World) (hk : k < 256) :
    Calls Try.prog 50 #[B a, .int .u8 (k : Int)] w fun e w' => e = .returned (B (mul a (UInt8.ofNat k))) ∧ w = w' := by
  have h : (k : Int) = bv (UInt8.ofNat k) := by unfold bv; simp; omega
  rw [h]
  exact rmul_any _ _ _

def NoInv (a : UInt8) (k : Nat) : Prop := ∀ j, 1 ≤ j → j < k → mul a (UInt8.ofNat j) ≠ 1
set_option maxHeartbeats 400000 in
theorem rinv_any (a : UInt8) (w : World) :
    Calls Try.prog 35 #[B a] w fun e w' => e = .returned (B (inv a)) ∧ w = w' := by
  go_enter Try.func35, Try.ntmps35
  go_wp2
  go_loop [3] (fun i => ∃ k : Nat, 1 ≤ k ∧ k ≤ 256 ∧ i = .int .i64 (k : Int) ∧ NoInv a k) (fun i => 256 - (intOf i).toNat)
  case atStart => exact ⟨1, by omega, by omega, rfl, fun j h1 h2 => absurd h2 (by omega)⟩
  case round =>
    obtain ⟨k, h1, hk, rfl, hm⟩ := hrel
    by_cases hlt : k < 256
    · have HK : Hid ((k : Int) = bv (UInt8.ofNat k)) := Lib.hid (by unfold bv; simp; omega)
      obtain ⟨p, hp⟩ : ∃ p, p = mul a (UInt8.ofNat k) := ⟨_, rfl⟩
      have HC : Hid (Calls Try.prog 50 #[B a, .int .u8 (k : Int)] w fun e w' => e = .returned (B p) ∧ w = w') := Lib.hid (by rw [hp]; exact rmul_nat a k w hlt)
      have hlt' : (k : Int) < 256 := by omega
      have HLT := Lib.hid hlt
      clear hlt hk
      cases hb : p == 1 with
      | true =>
        have HR : Hid (inv a = UInt8.ofNat k) := Lib.hid (rinv_first a k (by rw [← hp]; simpa using hb))
        clear hp hm
        go_wp2_with (go_at_call 50; refine HC.out.mono ?_; rintro e w' ⟨rfl, rfl⟩)
        go_ret
        refine ⟨?_, rfl⟩
        rw [HR.out]
        show Ending.returned (.int .u8 (k : Int)) = _
        rw [HK.out]
      | false =>
        have HM : NoInv a (k + 1) := (fun j h2 h3 => by
          by_cases e : j = k
          · rw [e, ← hp]; simpa using hb
          · exact hm j h2 (by omega))
        clear hp hm
        go_wp2_with (go_at_call 50; refine HC.out.mono ?_; rintro e w' ⟨rfl, rfl⟩)
        go_round
        case rel => exact ⟨k + 1, by omega, by have := HLT.out; omega, by go_num, HM⟩
        case measure => simp [intOf]; omega
    · obtain rfl : k = 256 := by omega
      have HZ : Hid (inv a = 0) := Lib.hid (by rw [inv_none a (fun j h2 h3 => hm j h2 h3)]; exact inv_zero_eq)
      go_wp2
      go_ret
      refine ⟨?_, rfl⟩
      rw [HZ.out]
      rfl
end Go.Proofs.Ytoeeklkebcgmaaa
