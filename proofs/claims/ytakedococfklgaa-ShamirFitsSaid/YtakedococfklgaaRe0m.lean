/- Contracts of the references kinkeepref02 Mul, Pow and kinkeepref06 Eval. -/
import Derived.Test.YtakedococfklgaaB1
import Derived.Test.YtakedococfklgaaB3
namespace Go.Proofs.Ytakedococfklgaa
open Go.RowKit Gf

attribute [local go_sem] Gf.xor_bits Gf.xor29 Gf.shl1 Gf.shr1 Gf.ne_zero_iff Gf.eq_zero_iff Gf.eq_one_iff Gf.bv_toNat

theorem par_hi : ∀ u : UInt8, u &&& 1 = 1 → ((bv u).tmod 2 == 1) = true := all_u8 (by decide +kernel)
theorem par_lo : ∀ u : UInt8, u &&& 1 ≠ 1 → ((bv u).tmod 2 == 1) = false := all_u8 (by decide +kernel)
theorem hlf8 : ∀ u : UInt8, (bv u).tdiv (2 : Int) % (256 : Int) = bv (u >>> 1) := all_u8 (by decide +kernel)
theorem dblc_hi : ∀ u : UInt8, 128 ≤ bv u → (u <<< 1) ^^^ 29 = dbl u := all_u8 (by decide +kernel)
theorem dblc_lo : ∀ u : UInt8, bv u < 128 → u <<< 1 = dbl u := all_u8 (by decide +kernel)

set_option maxRecDepth 100000 in
set_option maxHeartbeats 400000 in
theorem rmul_any (a b : UInt8) (w : World) :
    Calls Try.prog 64 #[B a, B b] w fun e w' => e = .returned (B (mul a b)) ∧ w = w' := by
  go_enter Try.func64, Try.ntmps64
  go_wp2
  go_loop [0, 1, 5] (fun x y p => ∃ a' b' p' : UInt8, x = B a' ∧ y = B b' ∧ p = B p' ∧ Hid (mulAux 8 a' b' p' = mul a b)) (fun _ y _ => (intOf y).toNat)
  case atStart => exact ⟨a, b, 0, rfl, rfl, rfl, Lib.hid rfl⟩
  case round =>
    obtain ⟨a', b', p', rfl, rfl, rfl, hm⟩ := hrel
    by_cases hb : b' = 0
    · have H : Hid (p' = mul a b) := by
        have := hm.out; subst hb; rw [mulAux_zero] at this; exact Lib.hid this
      clear hm
      have hb' : (b' != 0) = false := by simp [hb]
      have HB := Lib.hid hb
      clear hb
      go_wp2
      go_ret
      exact ⟨ret_u8 H.out, rfl⟩
    · have hb' : (b' != 0) = true := by simp [hb]
      have hlt := shr1_lt b' hb
      have hs := mulAux_step a' b' p' hb
      have HB := Lib.hid hb
      clear hb
      have HD1 := Lib.hid (dblc_hi a')
      have HD2 := Lib.hid (dblc_lo a')
      by_cases h1 : b' &&& 1 = 1
      · rw [if_pos h1] at hs
        have HS := Lib.hid (hs.symm.trans hm.out)
        have h1' := par_hi b' h1
        clear hs h1 hm
        go_wp2
        · go_round
          case rel => exact ⟨dbl a', b' >>> 1, _, by rw [← HD1.out (by assumption)], by rw [hlf8], rfl, HS⟩
          case measure => rw [hlf8]; simp only [intOf, Gf.bv_toNat]; omega
        · go_round
          case rel => exact ⟨dbl a', b' >>> 1, _, by rw [← HD2.out (by assumption), shl1], by rw [hlf8], rfl, HS⟩
          case measure => rw [hlf8]; simp only [intOf, Gf.bv_toNat]; omega
      · rw [if_neg h1] at hs
        have HS := Lib.hid (hs.symm.trans hm.out)
        have h1' := par_lo b' h1
        clear hs h1 hm
        go_wp2
        · go_round
          case rel => exact ⟨dbl a', b' >>> 1, _, by rw [← HD1.out (by assumption)], by rw [hlf8], rfl, HS⟩
          case measure => rw [hlf8]; simp only [intOf, Gf.bv_toNat]; omega
        · go_round
          case rel => exact ⟨dbl a', b' >>> 1, _, by rw [← HD2.out (by assumption), shl1], by rw [hlf8], rfl, HS⟩
          case measure => rw [hlf8]; simp only [intOf, Gf.bv_toNat]; omega

/-- The powers. -/
def pw (a : UInt8) : Nat → UInt8
  | 0 => 1
  | n + 1 => mul (pw a n) a
theorem pw_zero (n : Nat) : pw 0 (n + 1) = 0 := by rw [pw, Gf.mul_zero]

set_option maxRecDepth 100000 in
set_option maxHeartbeats 400000 in
theorem rpow_any (a : UInt8) (n : Nat) (hn : n < 255) (w : World) :
    Calls Try.prog 65 #[B a, .int .i64 (n : Int)] w fun e w' => e = .returned (B (pw a n)) ∧ w = w' := by
  by_cases h0 : a = 0
  · have h0' : (a == 0) = true := by simp [h0]
    have HA := Lib.hid h0
    clear h0
    by_cases hz : n = 0
    · have hz' : ((n : Int) == 0) = true := by simp [hz]
      have HZ := Lib.hid hz
      clear hz
      go_enter Try.func65, Try.ntmps65
      go_wp2
      go_ret
      refine ⟨?_, rfl⟩
      rw [HZ.out]
      rfl
    · have hz' : ((n : Int) == 0) = false := by simp [hz]
      obtain ⟨m, hm⟩ : ∃ m, n = m + 1 := ⟨n - 1, by omega⟩
      have HZ := Lib.hid hm
      clear hz hm
      go_enter Try.func65, Try.ntmps65
      go_wp2
      go_ret
      refine ⟨?_, rfl⟩
      rw [HZ.out, HA.out, pw_zero]
      rfl
  · have h0' : (a == 0) = false := by simp [h0]
    clear h0
    have e1 : (n : Int).tmod 255 = n := by rw [Int.tmod_eq_emod_of_nonneg (by omega)]; omega
    have e2 : ((n : Int) + 255).tmod 255 = n := by rw [Int.tmod_eq_emod_of_nonneg (by omega)]; omega
    go_enter Try.func65, Try.ntmps65
    go_wp2

    go_loop [1, 5] (fun i p => ∃ k : Nat, k ≤ n ∧ i = .int .i64 ((n - k : Nat) : Int) ∧ p = B (pw a k)) (fun i _ => (intOf i).toNat)
    case atStart => exact ⟨0, by omega, by simp, rfl⟩
    case round =>
      obtain ⟨k, hk, rfl, rfl⟩ := hrel
      by_cases hlt : k < n
      · have h1 : (0 : Int) < ((n - k : Nat) : Int) := by omega
        go_wp2_with (go_at_call 64; refine (rmul_any _ _ _).mono ?_; rintro e w' ⟨rfl, rfl⟩)
        go_round
        case rel => exact ⟨k + 1, by omega, by rw [show ((n - k : Nat) : Int) - 1 = ((n - (k + 1) : Nat) : Int) by omega], rfl⟩
        case measure => simp only [intOf]; omega
      · obtain rfl : k = n := by omega
        have h1 : ¬ (0 : Int) < ((k - k : Nat) : Int) := by omega
        go_wp2
        go_ret
        exact ⟨rfl, rfl⟩

/-- The value at x, from the lowest coefficient. -/
def rvK (p : List UInt8) (x : UInt8) : Nat → UInt8
  | 0 => 0
  | k + 1 => rvK p x k ^^^ mul (gB p k) (pw x k)
def rv (p : List UInt8) (x : UInt8) : UInt8 := rvK p x p.length

set_option maxRecDepth 100000 in
set_option maxHeartbeats 400000 in
theorem reval_any (A : Option Addr) (n c : Nat) (p : List UInt8) (x : UInt8) (w : World) (hp : BS w A n c p) (hn : n ≤ 255) :
    Calls Try.prog 44 #[.slice A n c, B x] w fun e w' => e = .returned (B (rv p x)) ∧ ∃ m, w' = w.drewN m := by
  have HP := Lib.hid hp
  have HL := Lib.hid hp.1
  clear hp
  go_enter Try.func44, Try.ntmps44
  go_wp2
  go_loopw [5, 9] (fun v i wr => ∃ (k : Nat) (u : UInt8), k ≤ n ∧ i = .int .i64 (k : Int) ∧ v = B u ∧ Hid (u = rvK p x k) ∧ Hid (∃ m, wr = w.drewN m)) (fun _ i _ => n - (intOf i).toNat)
  case atStart => exact ⟨0, 0, by omega, rfl, rfl, Lib.hid rfl, Lib.hid ⟨0, rfl⟩⟩
  case round =>
    obtain ⟨k, u, hk, rfl, rfl, hu, hw⟩ := hrel
    by_cases hlt : k < n
    · obtain ⟨m, hm⟩ := hw.out
      have HW : BS wr A n c p := by rw [hm]; exact HP.out.drewN m
      have HM := Lib.hid hm
      clear hm
      obtain ⟨g, o, rfl, hc⟩ := HW.at_ (Below.refl _ _) hlt
      clear HW hw
      go_wp2
      go_quiet (first | (go_at_call 65; exact quiet_left (rpow_any _ _ (by omega) _)) | (go_at_call 64; exact quiet_left (rmul_any _ _ _)))
      go_wp2
      go_roundw
      case rel => exact ⟨k + 1, _, by omega, by go_num, rfl, Lib.hid (by rw [rvK, hu.out]), Lib.hid ⟨_, by rw [HM.out, World.drewN_drewN]⟩⟩
      case measure => simp [intOf]; omega
    · obtain rfl : k = n := by omega
      go_wp2
      go_ret
      refine ⟨?_, hw.out⟩
      show Ending.returned (B u) = _
      rw [rv, HL.out, hu.out]

theorem rvK_cons (a : UInt8) (l : List UInt8) (x : UInt8) : ∀ k, rvK (a :: l) x (k + 1) = mul (rvK l x k) x ^^^ a
  | 0 => by
    show 0 ^^^ mul (gB (a :: l) 0) 1 = mul 0 x ^^^ a
    rw [Gf.mul_one, Gf.zero_mul]
    simp [gB]
  | k + 1 => by
    rw [rvK, rvK_cons a l x k, gB_cons_succ, pw, rvK, Gf.xor_mul, Gf.mul_assoc]
    rw [xor_assoc, xor_assoc, xor_comm a]
theorem rv_ev : ∀ (p : List UInt8) (x : UInt8), rv p x = Py.ev p x
  | [], _ => rfl
  | a :: l, x => by
    rw [Py.ev_cons, ← rv_ev l x]
    exact rvK_cons a l x l.length
end Go.Proofs.Ytakedococfklgaa
