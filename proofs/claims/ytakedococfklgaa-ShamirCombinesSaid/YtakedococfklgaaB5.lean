/- Several texts in one: Re0, Re3, Re4, Re5, Pa, Pb, Re6, Re1, Re7, Th0, Th1, Re2, Th2, Re8, Th3. -/
import Derived.Test.YtakedococfklgaaB1
import Derived.Test.YtakedococfklgaaB2
import Derived.Test.YtakedococfklgaaB4
/- Contracts of the references kinkeepref02 Mul, Pow and kinkeepref06 Eval. -/
namespace Go.Proofs.Ytakedococfklgaa
open Go.RowKit Gf

attribute [local go_sem] Gf.xor_bits Gf.xor29 Gf.shl1 Gf.shr1 Gf.ne_zero_iff Gf.eq_zero_iff Gf.eq_one_iff Gf.bv_toNat

theorem par_hi : ∀ u : UInt8, u &&& 1 = 1 → ((bv u).tmod 2 == 1) = true := all_u8 (by decide +kernel)
theorem par_lo : ∀ u : UInt8, u &&& 1 ≠ 1 → ((bv u).tmod 2 == 1) = false := all_u8 (by decide +kernel)
theorem hlf8 : ∀ u : UInt8, (bv u).tdiv (2 : Int) % (256 : Int) = bv (u >>> 1) := all_u8 (by decide +kernel)
theorem dblc_hi : ∀ u : UInt8, 128 ≤ bv u → (u <<< 1) ^^^ 29 = dbl u := all_u8 (by decide +kernel)
theorem dblc_lo : ∀ u : UInt8, bv u < 128 → u <<< 1 = dbl u := all_u8 (by decide +kernel)

set_option maxRecDepth 100000 in
set_option maxHeartbeats 400000 in
theorem rmul_any (a b : UInt8) (w : World) :
    Calls Try.prog 64 #[B a, B b] w fun e w' => e = .returned (B (mul a b)) ∧ w = w' := by
  go_enter Try.func64, Try.ntmps64
  go_wp2
  go_loop [0, 1, 5] (fun x y p => ∃ a' b' p' : UInt8, x = B a' ∧ y = B b' ∧ p = B p' ∧ Hid (mulAux 8 a' b' p' = mul a b)) (fun _ y _ => (intOf y).toNat)
  case atStart => exact ⟨a, b, 0, rfl, rfl, rfl, Lib.hid rfl⟩
  case round =>
    obtain ⟨a', b', p', rfl, rfl, rfl, hm⟩ := hrel
    by_cases hb : b' = 0
    · have H : Hid (p' = mul a b) := by
        have := hm.out; subst hb; rw [mulAux_zero] at this; exact Lib.hid this
      clear hm
      have hb' : (b' != 0) = false := by simp [hb]
      have HB := Lib.hid hb
      clear hb
      go_wp2
      go_ret
      exact ⟨ret_u8 H.out, rfl⟩
    · have hb' : (b' != 0) = true := by simp [hb]
      have hlt := shr1_lt b' hb
      have hs := mulAux_step a' b' p' hb
      have HB := Lib.hid hb
      clear hb
      have HD1 := Lib.hid (dblc_hi a')
      have HD2 := Lib.hid (dblc_lo a')
      by_cases h1 : b' &&& 1 = 1
      · rw [if_pos h1] at hs
        have HS := Lib.hid (hs.symm.trans hm.out)
        have h1' := par_hi b' h1
        clear hs h1 hm
        go_wp2
        · go_round
          case rel => exact ⟨dbl a', b' >>> 1, _, by rw [← HD1.out (by assumption)], by rw [hlf8], rfl, HS⟩
          case measure => rw [hlf8]; simp only [intOf, Gf.bv_toNat]; omega
        · go_round
          case rel => exact ⟨dbl a', b' >>> 1, _, by rw [← HD2.out (by assumption), shl1], by rw [hlf8], rfl, HS⟩
          case measure => rw [hlf8]; simp only [intOf, Gf.bv_toNat]; omega
      · rw [if_neg h1] at hs
        have HS := Lib.hid (hs.symm.trans hm.out)
        have h1' := par_lo b' h1
        clear hs h1 hm
        go_wp2
        · go_round
          case rel => exact ⟨dbl a', b' >>> 1, _, by rw [← HD1.out (by assumption)], by rw [hlf8], rfl, HS⟩
          case measure => rw [hlf8]; simp only [intOf, Gf.bv_toNat]; omega
        · go_round
          case rel => exact ⟨dbl a', b' >>> 1, _, by rw [← HD2.out (by assumption), shl1], by rw [hlf8], rfl, HS⟩
          case measure => rw [hlf8]; simp only [intOf, Gf.bv_toNat]; omega

/-- The powers. -/
def pw (a : UInt8) : Nat → UInt8
  | 0 => 1
  | n + 1 => mul (pw a n) a
theorem pw_zero (n : Nat) : pw 0 (n + 1) = 0 := by rw [pw, Gf.mul_zero]

set_option maxRecDepth 100000 in
set_option maxHeartbeats 400000 in
theorem rpow_any (a : UInt8) (n : Nat) (hn : n < 255) (w : World) :
    Calls Try.prog 65 #[B a, .int .i64 (n : Int)] w fun e w' => e = .returned (B (pw a n)) ∧ w = w' := by
  by_cases h0 : a = 0
  · have h0' : (a == 0) = true := by simp [h0]
    have HA := Lib.hid h0
    clear h0
    by_cases hz : n = 0
    · have hz' : ((n : Int) == 0) = true := by simp [hz]
      have HZ := Lib.hid hz
      clear hz
      go_enter Try.func65, Try.ntmps65
      go_wp2
      go_ret
      refine ⟨?_, rfl⟩
      rw [HZ.out]
      rfl
    · have hz' : ((n : Int) == 0) = false := by simp [hz]
      obtain ⟨m, hm⟩ : ∃ m, n = m + 1 := ⟨n - 1, by omega⟩
      have HZ := Lib.hid hm
      clear hz hm
      go_enter Try.func65, Try.ntmps65
      go_wp2
      go_ret
      refine ⟨?_, rfl⟩
      rw [HZ.out, HA.out, pw_zero]
      rfl
  · have h0' : (a == 0) = false := by simp [h0]
    clear h0
    have e1 : (n : Int).tmod 255 = n := by rw [Int.tmod_eq_emod_of_nonneg (by omega)]; omega
    have e2 : ((n : Int) + 255).tmod 255 = n := by rw [Int.tmod_eq_emod_of_nonneg (by omega)]; omega
    go_enter Try.func65, Try.ntmps65
    go_wp2

    go_loop [1, 5] (fun i p => ∃ k : Nat, k ≤ n ∧ i = .int .i64 ((n - k : Nat) : Int) ∧ p = B (pw a k)) (fun i _ => (intOf i).toNat)
    case atStart => exact ⟨0, by omega, by simp, rfl⟩
    case round =>
      obtain ⟨k, hk, rfl, rfl⟩ := hrel
      by_cases hlt : k < n
      · have h1 : (0 : Int) < ((n - k : Nat) : Int) := by omega
        go_wp2_with (go_at_call 64; refine (rmul_any _ _ _).mono ?_; rintro e w' ⟨rfl, rfl⟩)
        go_round
        case rel => exact ⟨k + 1, by omega, by rw [show ((n - k : Nat) : Int) - 1 = ((n - (k + 1) : Nat) : Int) by omega], rfl⟩
        case measure => simp only [intOf]; omega
      · obtain rfl : k = n := by omega
        have h1 : ¬ (0 : Int) < ((k - k : Nat) : Int) := by omega
        go_wp2
        go_ret
        exact ⟨rfl, rfl⟩

/-- The value at x, from the lowest coefficient. -/
def rvK (p : List UInt8) (x : UInt8) : Nat → UInt8
  | 0 => 0
  | k + 1 => rvK p x k ^^^ mul (gB p k) (pw x k)
def rv (p : List UInt8) (x : UInt8) : UInt8 := rvK p x p.length

set_option maxRecDepth 100000 in
set_option maxHeartbeats 400000 in
theorem reval_any (A : Option Addr) (n c : Nat) (p : List UInt8) (x : UInt8) (w : World) (hp : BS w A n c p) (hn : n ≤ 255) :
    Calls Try.prog 44 #[.slice A n c, B x] w fun e w' => e = .returned (B (rv p x)) ∧ ∃ m, w' = w.drewN m := by
  have HP := Lib.hid hp
  have HL := Lib.hid hp.1
  clear hp
  go_enter Try.func44, Try.ntmps44
  go_wp2
  go_loopw [5, 9] (fun v i wr => ∃ (k : Nat) (u : UInt8), k ≤ n ∧ i = .int .i64 (k : Int) ∧ v = B u ∧ Hid (u = rvK p x k) ∧ Hid (∃ m, wr = w.drewN m)) (fun _ i _ => n - (intOf i).toNat)
  case atStart => exact ⟨0, 0, by omega, rfl, rfl, Lib.hid rfl, Lib.hid ⟨0, rfl⟩⟩
  case round =>
    obtain ⟨k, u, hk, rfl, rfl, hu, hw⟩ := hrel
    by_cases hlt : k < n
    · obtain ⟨m, hm⟩ := hw.out
      have HW : BS wr A n c p := by rw [hm]; exact HP.out.drewN m
      have HM := Lib.hid hm
      clear hm
      obtain ⟨g, o, rfl, hc⟩ := HW.at_ (Below.refl _ _) hlt
      clear HW hw
      go_wp2
      go_quiet (first | (go_at_call 65; exact quiet_left (rpow_any _ _ (by omega) _)) | (go_at_call 64; exact quiet_left (rmul_any _ _ _)))
      go_wp2
      go_roundw
      case rel => exact ⟨k + 1, _, by omega, by go_num, rfl, Lib.hid (by rw [rvK, hu.out]), Lib.hid ⟨_, by rw [HM.out, World.drewN_drewN]⟩⟩
      case measure => simp [intOf]; omega
    · obtain rfl : k = n := by omega
      go_wp2
      go_ret
      refine ⟨?_, hw.out⟩
      show Ending.returned (B u) = _
      rw [rv, HL.out, hu.out]

theorem rvK_cons (a : UInt8) (l : List UInt8) (x : UInt8) : ∀ k, rvK (a :: l) x (k + 1) = mul (rvK l x k) x ^^^ a
  | 0 => by
    show 0 ^^^ mul (gB (a :: l) 0) 1 = mul 0 x ^^^ a
    rw [Gf.mul_one, Gf.zero_mul]
    simp [gB]
  | k + 1 => by
    rw [rvK, rvK_cons a l x k, gB_cons_succ, pw, rvK, Gf.xor_mul, Gf.mul_assoc]
    rw [xor_assoc, xor_assoc, xor_comm a]
theorem rv_ev : ∀ (p : List UInt8) (x : UInt8), rv p x = Py.ev p x
  | [], _ => rfl
  | a :: l, x => by
    rw [Py.ev_cons, ← rv_ev l x]
    exact rvK_cons a l x l.length
end Go.Proofs.Ytakedococfklgaa
/- Contracts of the references kinkeepref02.Inv and kinkeepref06 Trim, Degree, At. -/
namespace Go.Proofs.Ytakedococfklgaa
open Go.RowKit Gf

attribute [local go_sem] Gf.eq_one_iff Gf.eq_zero_iff

/-- The first of 1.. whose product is 1. -/
theorem rinv_first (a : UInt8) (k : Nat) (h : mul a (UInt8.ofNat k) = 1) : inv a = UInt8.ofNat k := by
  have ha : a ≠ 0 := by intro e; rw [e, zero_mul] at h; exact absurd h (by decide)
  have h1 := mul_inv a ha
  calc inv a = mul (inv a) (mul a (UInt8.ofNat k)) := by rw [h, mul_one]
    _ = mul (mul a (inv a)) (UInt8.ofNat k) := by rw [← mul_assoc, mul_comm (inv a) a]
    _ = UInt8.ofNat k := by rw [h1, one_mul]
theorem inv_ne_zero (a : UInt8) (ha : a ≠ 0) : inv a ≠ 0 := fun e => by
  have := mul_inv a ha; rw [e, mul_zero] at this; exact absurd this (by decide)
theorem inv_none (a : UInt8) (h : ∀ k, 1 ≤ k → k < 256 → mul a (UInt8.ofNat k) ≠ 1) : a = 0 := by
  apply Classical.byContradiction; intro ha
  have h1 := mul_inv a ha
  have h2 := inv_ne_zero a ha
  have h3 : UInt8.ofNat (inv a).toNat = inv a := by simp
  refine h (inv a).toNat ?_ (inv a).toNat_lt (by rw [h3]; exact h1)
  rcases Nat.eq_zero_or_pos (inv a).toNat with e | e
  · exact absurd (UInt8.toNat_inj.1 (by rw [e]; rfl)) h2
  · exact e
theorem inv_zero_eq : inv 0 = 0 := by decide +kernel

theorem rmul_nat (a : UInt8) (k : Nat) (w : World) (hk : k < 256) :
    Calls Try.prog 64 #[B a, .int .u8 (k : Int)] w fun e w' => e = .returned (B (mul a (UInt8.ofNat k))) ∧ w = w' := by
  have h : (k : Int) = bv (UInt8.ofNat k) := by unfold bv; simp; omega
  rw [h]
  exact rmul_any _ _ _

def NoInv (a : UInt8) (k : Nat) : Prop := ∀ j, 1 ≤ j → j < k → mul a (UInt8.ofNat j) ≠ 1
set_option maxHeartbeats 400000 in
theorem rinv_any (a : UInt8) (w : World) :
    Calls Try.prog 80 #[B a] w fun e w' => e = .returned (B (inv a)) ∧ w = w' := by
  go_enter Try.func80, Try.ntmps80
  go_wp2
  go_loop [3] (fun i => ∃ k : Nat, 1 ≤ k ∧ k ≤ 256 ∧ i = .int .i64 (k : Int) ∧ NoInv a k) (fun i => 256 - (intOf i).toNat)
  case atStart => exact ⟨1, by omega, by omega, rfl, fun j h1 h2 => absurd h2 (by omega)⟩
  case round =>
    obtain ⟨k, h1, hk, rfl, hm⟩ := hrel
    by_cases hlt : k < 256
    · have HK : Hid ((k : Int) = bv (UInt8.ofNat k)) := Lib.hid (by unfold bv; simp; omega)
      obtain ⟨p, hp⟩ : ∃ p, p = mul a (UInt8.ofNat k) := ⟨_, rfl⟩
      have HC : Hid (Calls Try.prog 64 #[B a, .int .u8 (k : Int)] w fun e w' => e = .returned (B p) ∧ w = w') := Lib.hid (by rw [hp]; exact rmul_nat a k w hlt)
      have hlt' : (k : Int) < 256 := by omega
      have HLT := Lib.hid hlt
      clear hlt hk
      cases hb : p == 1 with
      | true =>
        have HR : Hid (inv a = UInt8.ofNat k) := Lib.hid (rinv_first a k (by rw [← hp]; simpa using hb))
        clear hp hm
        go_wp2_with (go_at_call 64; refine HC.out.mono ?_; rintro e w' ⟨rfl, rfl⟩)
        go_ret
        refine ⟨?_, rfl⟩
        rw [HR.out]
        show Ending.returned (.int .u8 (k : Int)) = _
        rw [HK.out]
      | false =>
        have HM : NoInv a (k + 1) := (fun j h2 h3 => by
          by_cases e : j = k
          · rw [e, ← hp]; simpa using hb
          · exact hm j h2 (by omega))
        clear hp hm
        go_wp2_with (go_at_call 64; refine HC.out.mono ?_; rintro e w' ⟨rfl, rfl⟩)
        go_round
        case rel => exact ⟨k + 1, by omega, by have := HLT.out; omega, by go_num, HM⟩
        case measure => simp [intOf]; omega
    · obtain rfl : k = 256 := by omega
      have HZ : Hid (inv a = 0) := Lib.hid (by rw [inv_none a (fun j h2 h3 => hm j h2 h3)]; exact inv_zero_eq)
      go_wp2
      go_ret
      refine ⟨?_, rfl⟩
      rw [HZ.out]
      rfl

/-- The coefficient of number i; 0 beyond the end. -/
theorem rat_any (A : Option Addr) (n c : Nat) (l : List UInt8) (i : Nat) (w : World) (h : BS w A n c l) :
    Calls Try.prog 59 #[.slice A n c, .int .i64 (i : Int)] w fun e w' => e = .returned (B (gB l i)) ∧ w = w' := by
  have hn := h.len_le
  by_cases hi : i < n
  · obtain ⟨g, o, rfl, hc⟩ := h.at_ (Below.refl _ _) hi
    clear h
    go_enter Try.func59, Try.ntmps59
    go_wp2
    go_ret
    exact ⟨rfl, rfl⟩
  · have HZ : Hid (gB l i = 0) := Lib.hid (gB_ge (by rw [h.1]; omega))
    clear h
    go_enter Try.func59, Try.ntmps59
    go_wp2
    go_ret
    refine ⟨?_, rfl⟩
    rw [HZ.out]
    rfl

theorem own_empty (w : World) : (w.alloc (.cells #[] 5)).ownsRow w.heap.size 5 1 (.slice (some ⟨w.heap.size, 0, none⟩) 0 0) 0 (([] : List UInt8).map B) := World.ownsRow_lit w #[] 0 (Nat.le_refl _) (by simp [maxLen]) rfl
theorem BS.takeN {w : World} {A : Option Addr} {n c k : Nat} {l : List UInt8} (h : BS w A n c l) (hk : k ≤ n) : BS w A k c (l.take k) :=
  ⟨by rw [List.length_take, h.1]; omega, by have := h.2.1; omega, by have := h.2.2.1; omega, fun i hi => by
    obtain ⟨g, o, e, hc⟩ := h.2.2.2 i (by omega)
    exact ⟨g, o, e, by show _ = some (B (gB (l.take k) i)); rw [gB_take hi]; exact hc⟩⟩
theorem trim_src {w : World} {A : Option Addr} {n c k : Nat} {l : List UInt8} (h : BS w A n c l) (hk : k ≤ n) : BS (w.alloc (.cells #[] 5)) A k c (l.take k) := (h.takeN hk).kept ((Below.refl _ _).alloc (Nat.le_refl _) _)
theorem trim_end {w : World} {A : Option Addr} {n c k : Nat} {l : List UInt8} (h : BS w A n c l) (ht : Py.tl l = k) (hk : k ≤ n) : ∀ v6 w6, AppPost w.heap.size 5 (.slice (some ⟨w.heap.size, 0, none⟩) 0 0) 0 k (([] ++ l.take k).map B) v6 (w.alloc (.cells #[] 5)) w6 → GvB (Py.trim l) w v6 w6 := fun v6 w6 hp => by
  have hb0 : Below w.heap.size w (w.alloc (.cells #[] 5)) := (Below.refl _ _).alloc (Nat.le_refl _) _
  have h1 := hp.1
  rw [Nat.zero_add, List.nil_append, ← ht] at h1
  obtain ⟨A6, c6, rfl, b6⟩ := BS.of_own h1 (by have := h.2.2.1; omega)
  refine ⟨A6, _, c6, rfl, b6, fun a ea => ?_, hb0.grown hp.2.1 hb0.size (fun b hb' => own_base (own_empty w) b hb')⟩
  rw [ea] at h1
  exact own_base h1 a.block rfl

set_option maxRecDepth 100000 in
set_option maxHeartbeats 400000 in
theorem rtrim_any (A : Option Addr) (n c : Nat) (l : List UInt8) (w : World) (h : BS w A n c l) :
    Calls Try.prog 82 #[.slice A n c] w (Rets (GvB (Py.trim l)) w) := by
  have hn := h.len_le
  have HL := Lib.hid h.1
  have H := Lib.hid h
  have hcap := h.2.1
  clear h
  go_enter Try.func82, Try.ntmps82
  go_wp2
  go_loop [3] (fun i => ∃ k : Nat, k ≤ n ∧ i = .int .i64 (k : Int) ∧ Hid (∀ j, k ≤ j → gB l j = 0)) (fun i => (intOf i).toNat)
  case atStart => exact ⟨n, Nat.le_refl _, rfl, Lib.hid (fun j hj => gB_ge (by rw [HL.out]; exact hj))⟩
  case round =>
    obtain ⟨k, hk, rfl, hz⟩ := hrel
    by_cases h0 : 0 < k
    · obtain ⟨j, rfl⟩ : ∃ j, k = j + 1 := ⟨k - 1, by omega⟩
      obtain ⟨g, o, rfl, hc⟩ := H.out.at_ (Below.refl _ _) (k := j) (by omega)
      obtain ⟨b, hb⟩ : ∃ b, b = gB l j := ⟨_, rfl⟩
      rw [← hb] at hc
      have HBB := Lib.hid hb
      clear hb
      have s1 : ((j : Int) + 1) - 1 = j := by omega
      cases hb0 : b == 0 with
      | true =>
        have HZ : Hid (∀ i, j ≤ i → gB l i = 0) := Lib.hid (fun i hi => by
          by_cases e : i = j
          · rw [e, ← HBB.out]; simpa using hb0
          · exact hz.out i (by omega))
        go_wp2
        go_round
        case rel => exact ⟨j, by omega, by go_num, HZ⟩
        case measure => simp [intOf]
      | false =>
        have HT : Hid (Py.tl l = j + 1) := Lib.hid (Py.tl_of l (j + 1) (fun i hi => hz.out i hi) (fun _ => by rw [Nat.add_sub_cancel, ← HBB.out]; simpa using hb0))
        have HEX := Lib.hid (trim_end H.out HT.out hk)
        have HBS := Lib.hid (trim_src H.out hk)
        have HK : Hid (0 + (j + 1) ≤ 140737488355328) := Lib.hid (by omega)
        clear hz
        go_wp2_with (first
          | (at_builtin; refine wpList_appB _ rfl (.tmp 18) (.tmp 21) rfl w.heap.size (.slice (some ⟨w.heap.size, 0, none⟩) 0 0) 0 [] rfl (own_empty w) (some ⟨g, o, none⟩) (j + 1) c (l.take (j + 1)) rfl HBS.out HK.out (by simp) ?_; intro v6 w6 hp6))
        have hf := HEX.out v6 w6 hp6
        obtain ⟨A6, n6, c6, rfl, _, _, _⟩ := id hf
        have HF := Lib.hid hf
        clear hp6 hf
        go_wp2_with fail
        go_ret
        exact ⟨_, rfl, HF.out⟩
    · obtain rfl : k = 0 := by omega
      have HT : Hid (Py.tl l = 0) := Lib.hid (Py.tl_of l 0 (fun i hi => hz.out i hi) (fun h => absurd h (by omega)))
      have HE0 : Hid (GvB (Py.trim l) w (.slice (some ⟨w.heap.size, 0, none⟩) 0 0) (w.alloc (.cells #[] 5))) := Lib.hid (by
        have e0 : Py.trim l = [] := List.eq_nil_of_length_eq_zero (by rw [Py.trim_length, HT.out])
        rw [e0]
        exact ⟨_, 0, 0, rfl, ⟨rfl, Nat.le_refl _, by decide, fun i hi => absurd hi (by omega)⟩, fun a ea => by cases ea; exact Nat.le_refl _, (Below.refl _ _).alloc (Nat.le_refl _) _⟩)
      clear hz
      cases A with
      | none =>
        go_wp2_with fail
        go_ret
        exact ⟨_, rfl, HE0.out⟩
      | some a =>
        go_wp2_with fail
        go_ret
        exact ⟨_, rfl, HE0.out⟩

set_option maxHeartbeats 400000 in
theorem rdegree_any (A : Option Addr) (n c : Nat) (l : List UInt8) (w : World) (h : BS w A n c l) :
    Calls Try.prog 78 #[.slice A n c] w fun e w' => e = .returned (.int .i64 ((Py.tl l : Int) - 1)) ∧ Below w.heap.size w w' := by
  have htl := Py.tl_le l
  have hn := h.len_le
  have hd : Py.tl l ≤ 140737488355328 := by rw [h.1] at htl; omega
  have H := Lib.hid h
  clear h htl
  obtain ⟨t, ht⟩ : ∃ t, t = Py.tl l := ⟨_, rfl⟩
  have HT := Lib.hid ht
  rw [← ht] at hd ⊢
  clear ht
  go_enter Try.func78, Try.ntmps78
  go_wp2_with fail
  refine (rtrim_any A n c l w H.out).mono ?_
  rintro e w1 ⟨v, rfl, A1, n1, c1, rfl, hb, _, hx⟩
  obtain rfl : n1 = t := by rw [HT.out, ← Py.trim_length]; exact hb.1.symm
  have HX := Lib.hid hx
  clear hb hx
  go_wp2_with fail
  go_ret
  exact ⟨rfl, HX.out⟩
end Go.Proofs.Ytakedococfklgaa
/- Contracts of the references kinkeepref06 Add, Mul. -/
namespace Go.Proofs.Ytakedococfklgaa
open Go.RowKit Gf

attribute [local go_sem] Gf.xor_bits


theorem kb1' (w : World) (o : Obj) : Below w.heap.size w (w.alloc o) := (Below.refl _ _).alloc (Nat.le_refl _) _
def xoK (p q : List UInt8) (k : Nat) : List UInt8 := tab k (fun i => gB p i ^^^ gB q i)
theorem xoK_length (p q : List UInt8) (k : Nat) : (xoK p q k).length = k := tab_length _ _
theorem xoK_succ (p q : List UInt8) (k : Nat) : xoK p q (k + 1) = xoK p q k ++ [gB p k ^^^ gB q k] := by
  unfold xoK tab; rw [List.range_succ, List.map_append]; rfl

set_option maxRecDepth 100000 in
set_option maxHeartbeats 1000000 in
theorem radd_any (A A' : Option Addr) (n c n' c' : Nat) (p q : List UInt8) (w : World) (hp : BS w A n c p) (hq : BS w A' n' c' q) (hn : n ≤ 100000) (hn' : n' ≤ 100000) :
    Calls Try.prog 81 #[.slice A n c, .slice A' n' c'] w (Rets (GvB (Py.addP p q)) w) := by
  have HP := Lib.hid hp
  have HQ := Lib.hid hq
  have hn2 := hp.len_le
  have hn2' := hq.len_le
  have HN := Lib.hid hn
  have HN' := Lib.hid hn'
  clear hp hq hn hn'
  go_enter Try.func81, Try.ntmps81
  go_wp2_with fail
  go_loopw [5, 6] (fun v i wr => ∃ (k m : Nat) (A1 : Option Addr) (c1 : Nat), k ≤ max n n' ∧ i = .int .i64 (k : Int) ∧ m = k ∧ v = .slice A1 m c1 ∧ Hid (wr.ownsRow w.heap.size 5 1 (.slice A1 m c1) m ((xoK p q k).map B)) ∧ Hid (Below w.heap.size w wr)) (fun _ i _ => max n n' - (intOf i).toNat)
  case atStart => exact ⟨0, 0, none, 0, by omega, rfl, rfl, rfl, Lib.hid (World.ownsRow_nil _ _ _ _), Lib.hid (Below.refl _ _)⟩
  case round =>
    obtain ⟨k, m, A1, c1, hk, rfl, hm, rfl, ho, hb⟩ := hrel
    by_cases hlt : k < max n n'
    · obtain ⟨b1, hb1⟩ : ∃ b, b = gB p k := ⟨_, rfl⟩
      obtain ⟨b2, hb2⟩ : ∃ b, b = gB q k := ⟨_, rfl⟩
      have HS : Hid (xoK p q (k + 1) = xoK p q k ++ [b1 ^^^ b2]) := Lib.hid (by rw [xoK_succ, hb1, hb2])
      have hbT := kb1' wr (.cells #[B (b1 ^^^ b2)] 5)
      have HOT := Lib.hid (Kp.own (S := fun _ => False) (Kp.of_below hbT) ho.out (fun _ _ => id))
      have HBT := Lib.hid (below_then hb.out hbT)
      have HBK : Hid (BS (wr.alloc (.cells #[B (b1 ^^^ b2)] 5)) (some ⟨wr.heap.size, 0, none⟩) 1 1 [b1 ^^^ b2]) := Lib.hid (BS.of_blk (Blk.new wr _ _) rfl (by decide))
      have HR1 : Hid (Calls Try.prog 59 #[.slice A n c, .int .i64 (k : Int)] wr fun e w' => e = .returned (B b1) ∧ wr = w') := Lib.hid (by rw [hb1]; exact rat_any A n c p k wr (HP.out.kept hb.out))
      have HR2 : Hid (Calls Try.prog 59 #[.slice A' n' c', .int .i64 (k : Int)] wr fun e w' => e = .returned (B b2) ∧ wr = w') := Lib.hid (by rw [hb2]; exact rat_any A' n' c' q k wr (HQ.out.kept hb.out))
      have HM1 : Hid (m + 1 ≤ 140737488355328) := Lib.hid (by have := HN.out; have := HN'.out; omega)
      have HKM := Lib.hid hlt
      clear hbT hb1 hb2
      have hkb : (k : Int) < 140737488355328 := by have := HN.out; have := HN'.out; omega
      have hmk : m = k := hm
      subst hm
      clear hlt hk hmk
      have fin : ∀ v6 w6, AppPost w.heap.size 5 (.slice A1 m c1) m 1 ((xoK p q m ++ [b1 ^^^ b2]).map B) v6 (wr.alloc (.cells #[B (b1 ^^^ b2)] 5)) w6 → ∃ A6 c6, v6 = .slice A6 (m + 1) c6 ∧ Hid (w6.ownsRow w.heap.size 5 1 (.slice A6 (m + 1) c6) (m + 1) ((xoK p q (m + 1)).map B)) ∧ Hid (Below w.heap.size w w6) := fun v6 w6 hp6 => by
        obtain ⟨m6, g6, cap6, hm6, rfl⟩ := own_form (by omega) hp6.1
        subst hm6
        refine ⟨_, cap6, rfl, Lib.hid (by rw [HS.out]; exact hp6.1), Lib.hid (HBT.out.grown hp6.2.1 HBT.out.size (fun b hb' => own_base HOT.out b hb'))⟩
      have FIN := Lib.hid fin
      clear fin
      by_cases h1 : m < n
      · have q1 : decide (m < n) = true := by simpa using h1
        clear h1
        go_wp2_with fail
        refine HR1.out.mono ?_
        rintro e w' ⟨rfl, rfl⟩
        go_wp2_with fail
        refine HR2.out.mono ?_
        rintro e w' ⟨rfl, rfl⟩
        go_wp2_with (first
          | (at_builtin; refine wpList_appB _ rfl (.tmp 19) (.tmp 27) rfl w.heap.size (.slice A1 m c1) m _ rfl HOT.out _ 1 1 [b1 ^^^ b2] rfl HBK.out HM1.out HBT.out.size ?_; intro v6 w6 hp6))
        obtain ⟨A6, c6, rfl, HO6, HB6⟩ := FIN.out v6 w6 hp6
        clear hp6
        go_wp2_with fail
        go_roundw
        case rel => exact ⟨m + 1, m + 1, A6, c6, by have := HKM.out; omega, by go_num, rfl, rfl, HO6, HB6⟩
        case measure => simp [intOf]; have := HKM.out; omega
      · have h2 : m < n' := by have := HKM.out; omega
        have q1 : decide (m < n) = false := by simpa using h1
        have q2 : decide (m < n') = true := by simpa using h2
        clear h1 h2
        go_wp2_with fail
        refine HR1.out.mono ?_
        rintro e w' ⟨rfl, rfl⟩
        go_wp2_with fail
        refine HR2.out.mono ?_
        rintro e w' ⟨rfl, rfl⟩
        go_wp2_with (first
          | (at_builtin; refine wpList_appB _ rfl (.tmp 19) (.tmp 27) rfl w.heap.size (.slice A1 m c1) m _ rfl HOT.out _ 1 1 [b1 ^^^ b2] rfl HBK.out HM1.out HBT.out.size ?_; intro v6 w6 hp6))
        obtain ⟨A6, c6, rfl, HO6, HB6⟩ := FIN.out v6 w6 hp6
        clear hp6
        go_wp2_with fail
        go_roundw
        case rel => exact ⟨m + 1, m + 1, A6, c6, by have := HKM.out; omega, by go_num, rfl, rfl, HO6, HB6⟩
        case measure => simp [intOf]; have := HKM.out; omega
    · have hkm : k = max n n' := by omega
      have q1 : decide (k < n) = false := by simp; omega
      have q2 : decide (k < n') = false := by simp; omega
      have HX : Hid (xoK p q k = Py.xorL p q) := Lib.hid (by rw [Py.xorL, HP.out.1, HQ.out.1, hkm]; rfl)
      subst hm
      obtain ⟨A2, c2, e1, b1⟩ := BS.of_own ho.out (by have := HN.out; have := HN'.out; unfold lim; omega)
      injection e1 with e11 e12 e13
      subst e11 e13
      rw [HX.out] at b1
      have HBS := Lib.hid b1
      clear b1 e12 hkm hlt hk
      go_wp2_with fail
      refine (rtrim_any A1 m c1 (Py.xorL p q) wr HBS.out).mono ?_
      rintro e w5 ⟨v5, rfl, A5, n5, c5, rfl, hb5, ha5, hx5⟩
      have HG : Hid (GvB (Py.addP p q) w (.slice A5 n5 c5) w5) := Lib.hid ⟨A5, n5, c5, rfl, hb5, fun a ea => Nat.le_trans hb.out.size (ha5 a ea), below_then hb.out hx5⟩
      clear hb5 ha5 hx5
      go_wp2_with fail
      go_ret
      exact ⟨_, rfl, HG.out⟩
end Go.Proofs.Ytakedococfklgaa
/- Contract of the reference kinkeepref06.Mul. -/
namespace Go.Proofs.Ytakedococfklgaa
open Go.RowKit Gf

attribute [local go_sem] Gf.xor_bits

/-- The products when i coefficients of p are done. -/
def rcK (p q : List UInt8) : Nat → List UInt8
  | 0 => zeros (p.length + q.length)
  | i + 1 => Py.addAt (rcK p q i) i q (gB p i)
theorem rcK_length (p q : List UInt8) : ∀ i, (rcK p q i).length = p.length + q.length
  | 0 => zeros_length _
  | i + 1 => by rw [rcK, Py.addAt_length, rcK_length p q i]
def rmP (p q : List UInt8) : List UInt8 := Py.trim (rcK p q p.length)

set_option maxRecDepth 100000 in
set_option maxHeartbeats 1000000 in
theorem rpmul_any (A A' : Option Addr) (n c n' c' : Nat) (p q : List UInt8) (w : World) (hp : BS w A n c p) (hq : BS w A' n' c' q) (hn : n ≤ 100000) (hn' : n' ≤ 100000) :
    Calls Try.prog 79 #[.slice A n c, .slice A' n' c'] w (Rets (GvB (rmP p q)) w) := by
  have HP := Lib.hid hp
  have HQ := Lib.hid hq
  have HLP := Lib.hid hp.1
  have HLQ := Lib.hid hq.1
  have hn2 := hp.len_le
  have hn2' := hq.len_le
  have hmk := make_bytes (n + n') (by omega)
  rw [show ((n + n' : Nat) : Int) = (n : Int) + (n' : Int) by omega] at hmk
  have hnn : (n : Int) + (n' : Int) ≤ 200000 := by omega
  have HNN : Hid (n + n' ≤ 200000) := Lib.hid (by omega)
  clear hp hq hn hn'
  go_enter Try.func79, Try.ntmps79
  go_wp2_with fail
  clear hmk
  go_loopw [16] (fun i wr => ∃ k : Nat, k ≤ n ∧ i = .int .i64 (k : Int) ∧ Hid (OB wr w.heap.size 5 (n + n') (rcK p q k)) ∧ Hid (Below w.heap.size w wr)) (fun i _ => n - (intOf i).toNat)
  case atStart =>
    refine ⟨0, by omega, rfl, Lib.hid ?_, Lib.hid (kb1' _ _)⟩
    have := OB.of_blk (l := zeros (n + n')) (Blk.new w 5 (row (zeros (n + n'))))
    rw [zeros_length] at this
    rw [rcK, HLP.out, HLQ.out]
    exact this
  case round =>
    obtain ⟨i, hi, rfl, ho, hb⟩ := hrel
    by_cases hlt : i < n
    · go_wp2_with fail
      go_loopw [21] (fun j wr => ∃ k : Nat, k ≤ n' ∧ j = .int .i64 (k : Int) ∧ Hid (OB wr w.heap.size 5 (n + n') (Py.addK (rcK p q i) i q (gB p i) k)) ∧ Hid (Below w.heap.size w wr)) (fun j _ => n' - (intOf j).toNat)
      case atStart => exact ⟨0, by omega, rfl, by rw [Py.addK_zero]; exact ho, hb⟩
      case round =>
        obtain ⟨k, hk, rfl, ho2, hb2⟩ := hrel
        by_cases hlk : k < n'
        · obtain ⟨g1, o1, rfl, c1⟩ := HP.out.at_ hb2.out hlt
          obtain ⟨g2, o2, rfl, c2⟩ := HQ.out.at_ hb2.out hlk
          have hlen : i + k < (rcK p q i).length := by rw [rcK_length, HLP.out, HLQ.out]; omega
          have c3 : wr.cell? ⟨w.heap.size, i + k, none⟩ = some (B (gB (rcK p q i) (i + k))) := by
            rw [ho2.out.cell (by rw [Py.addK_length]; exact hlen), Py.addK_get _ _ _ _ _ hlen]
          have f3 := ho2.out.frozen (i + k)
          obtain ⟨xa, hxa⟩ : ∃ x, x = gB (rcK p q i) (i + k) := ⟨_, rfl⟩
          obtain ⟨xb, hxb⟩ : ∃ x, x = gB p i := ⟨_, rfl⟩
          obtain ⟨xc, hxc⟩ : ∃ x, x = gB q k := ⟨_, rfl⟩
          rw [← hxa] at c3
          rw [← hxb] at c1
          rw [← hxc] at c2
          have HO3 : Hid (OB (wr.setCell ⟨w.heap.size, i + k, none⟩ (B (xa ^^^ mul xb xc))) w.heap.size 5 (n + n') (Py.addK (rcK p q i) i q (gB p i) (k + 1))) := Lib.hid (by
            have := ho2.out.set_ (i + k) (gB (rcK p q i) (i + k) ^^^ mul (gB p i) (gB q k))
            rw [Py.addK_set _ _ _ _ _ hlen] at this
            rw [hxa, hxb, hxc]
            exact this)
          have HB3 : Hid (Below w.heap.size w (wr.setCell ⟨w.heap.size, i + k, none⟩ (B (xa ^^^ mul xb xc)))) := Lib.hid (hb2.out.setCell (Nat.le_refl _) _)
          have s1 : IntKind.i64.wrap ((i : Int) + (k : Int)) = (i : Int) + (k : Int) := by rw [IntKind.wrap_i64]; omega
          have s2 : (i : Int) + (k : Int) < (n : Int) + (n' : Int) := by omega
          have s3 : (0 : Int) ≤ (i : Int) + (k : Int) := by omega
          have s4 : ((i : Int) + (k : Int)).toNat = i + k := by omega
          clear hxa hxb hxc hlen ho2 hb2
          go_wp2_with fail
          refine Text.wp_region_text (fun _ => True) [(0, 4), (1, 4), (2, 4), (3, 4), (4, 4), (5, 4), (6, 4), (7, 4), (8, 4), (10, 4), (11, 4), (12, 4), (14, 4), (15, 4), (16, 4), (9, 1), (13, 1), (17, 1), (18, 1), (19, 4), (20, 4), (21, 2)] (by kernel_rfl) (by kernel_rfl) (fun _ _ _ _ _ h => h) (trivial) ?_
          iterate 15 (refine Text.purek rfl rfl (fun K hK => ⟨_, fun w' => by go_simp <;> rfl, ?_⟩); go_simp; refine hK _ ?_; clear hK K)
          iterate 3 (refine Text.readk rfl rfl (fun K hK => ⟨_, by go_simp <;> rfl, ?_⟩); go_simp; refine hK _ ?_; clear hK K)
          refine Text.quietk rfl rfl (fun K hK => ?_)
          refine ⟨_, _, _, by go_simp <;> rfl, rmul_any xb xc _, ?_⟩
          go_simp
          refine hK _ ?_
          clear hK K
          iterate 2 (refine Text.purek rfl rfl (fun K hK => ⟨_, fun w' => by go_simp <;> rfl, ?_⟩); go_simp; refine hK _ ?_; clear hK K)
          refine Text.eff rfl rfl (fun K hK => ?_)
          go_simp
          refine hK _ _ trivial ?_
          clear hK K
          refine Text.done ?_
          go_wp2_with fail
          go_roundw
          case rel => exact ⟨k + 1, by omega, by go_num, Lib.hid HO3.out, Lib.hid HB3.out.drew⟩
          case measure => simp [intOf]; omega
        · obtain rfl : k = n' := by omega
          have HO3 : Hid (OB wr w.heap.size 5 (n + k) (rcK p q (i + 1))) := Lib.hid (by
            rw [rcK, ← Py.addK_all _ _ _ _ k (by rw [HLQ.out]; exact Nat.le_refl _)]; exact ho2.out)
          go_wp2_with fail
          go_roundw
          case rel => exact ⟨i + 1, by omega, by go_num, HO3, hb2⟩
          case measure => simp [intOf]; omega
    · obtain rfl : i = n := by omega
      have hlen : (rcK p q i).length = i + n' := by rw [rcK_length, HLP.out, HLQ.out]
      have b1 : BS wr (some ⟨w.heap.size, 0, none⟩) (i + n') (i + n') (rcK p q i) := by
        have := ho.out.bs0 (c := i + n') (by omega) (by have := HNN.out; unfold lim; omega)
        rw [hlen] at this
        exact this
      have HBS := Lib.hid b1
      have HRM : Hid (Py.trim (rcK p q i) = rmP p q) := Lib.hid (by rw [rmP, HLP.out])
      clear b1 hlen
      go_wp2_with fail
      refine (rtrim_any _ (i + n') (i + n') (rcK p q i) wr HBS.out).mono ?_
      rintro e w5 ⟨v5, rfl, A5, n5, c5, rfl, hb5, ha5, hx5⟩
      rw [HRM.out] at hb5
      have HG : Hid (GvB (rmP p q) w (.slice A5 n5 c5) w5) := Lib.hid ⟨A5, n5, c5, rfl, hb5, fun a ea => Nat.le_trans hb.out.size (ha5 a ea), below_then hb.out hx5⟩
      clear hb5 ha5 hx5
      go_wp2_with fail
      go_ret
      exact ⟨_, rfl, HG.out⟩
end Go.Proofs.Ytakedococfklgaa
/- Plain polynomials over the bytes: values, roots, uniqueness, Newton's and Lagrange's interpolation. -/
namespace Go.Proofs.Ytakedococfklgaa
open Go.RowKit Gf

namespace Py
theorem xor_z (a : UInt8) : a ^^^ 0 = a := by simp
theorem z_xor (a : UInt8) : 0 ^^^ a = a := by simp
theorem xor_ss (a : UInt8) : a ^^^ a = 0 := by simp
theorem xor_eq {a b : UInt8} (h : a ^^^ b = 0) : a = b := by
  have := congrArg (· ^^^ b) h
  simpa [xor_assoc] using this
theorem xor_ne0 {a b : UInt8} (h : a ≠ b) : a ^^^ b ≠ 0 := fun e => h (xor_eq e)
theorem mul_ne0 {a b : UInt8} (ha : a ≠ 0) (hb : b ≠ 0) : mul a b ≠ 0 := fun e => hb (by
  have h1 := congrArg (mul (inv a)) e
  rw [← mul_assoc, mul_comm (inv a) a, mul_inv a ha, one_mul, mul_zero] at h1
  exact h1)
theorem mul_z {a b : UInt8} (h : mul a b = 0) (ha : a ≠ 0) : b = 0 := Classical.byContradiction fun hb => mul_ne0 ha hb h
theorem xor4c (a b c d : UInt8) : (a ^^^ b) ^^^ (c ^^^ d) = (a ^^^ c) ^^^ (b ^^^ d) := by
  rw [xor_assoc, xor_assoc, ← xor_assoc b, xor_comm b c, xor_assoc c]

theorem mul_rot (a i y : UInt8) : mul (mul i y) a = mul (mul a i) y := by rw [mul_comm (mul i y) a, mul_assoc]

/-! ### values through the coefficients -/
theorem rvK_more (p : List UInt8) (x : UInt8) : ∀ k, rvK p x (p.length + k) = rvK p x p.length
  | 0 => rfl
  | k + 1 => by rw [← Nat.add_assoc, rvK, rvK_more p x k, gB_ge (by omega), zero_mul, xor_z]
theorem ev_rvK (p : List UInt8) (x : UInt8) {n : Nat} (h : p.length ≤ n) : ev p x = rvK p x n := by
  obtain ⟨k, rfl⟩ : ∃ k, n = p.length + k := ⟨n - p.length, by omega⟩
  rw [rvK_more, ← rv_ev]; rfl
theorem rvK_congr {p q : List UInt8} (x : UInt8) : ∀ n, (∀ k, k < n → gB p k = gB q k) → rvK p x n = rvK q x n
  | 0, _ => rfl
  | n + 1, h => by rw [rvK, rvK, rvK_congr x n (fun k hk => h k (by omega)), h n (by omega)]
theorem ev_congr {p q : List UInt8} (h : ∀ k, gB p k = gB q k) (x : UInt8) : ev p x = ev q x := by
  rw [ev_rvK p x (Nat.le_max_left p.length q.length), ev_rvK q x (Nat.le_max_right p.length q.length)]
  exact rvK_congr x _ (fun k _ => h k)
theorem ev_trim (p : List UInt8) (x : UInt8) : ev (trim p) x = ev p x := ev_congr (gB_trim p) x
theorem rvK_lin {r p q : List UInt8} (a x : UInt8) : ∀ n, (∀ k, k < n → gB r k = gB p k ^^^ mul a (gB q k)) → rvK r x n = rvK p x n ^^^ mul a (rvK q x n)
  | 0, _ => by show (0 : UInt8) = 0 ^^^ mul a 0; rw [mul_zero]; rfl
  | n + 1, h => by
    rw [rvK, rvK, rvK, rvK_lin a x n (fun k hk => h k (by omega)), h n (by omega), xor_mul, mul_xor, ← mul_assoc, xor4c]
theorem ev_lin {r p q : List UInt8} (a x : UInt8) (h : ∀ k, gB r k = gB p k ^^^ mul a (gB q k)) : ev r x = ev p x ^^^ mul a (ev q x) := by
  have h1 : r.length ≤ r.length + p.length + q.length := by omega
  have h2 : p.length ≤ r.length + p.length + q.length := by omega
  have h3 : q.length ≤ r.length + p.length + q.length := by omega
  rw [ev_rvK r x h1, ev_rvK p x h2, ev_rvK q x h3]
  exact rvK_lin a x _ (fun k _ => h k)
theorem gB_addAt0 {l q : List UInt8} (a : UInt8) (h : q.length ≤ l.length) (k : Nat) : gB (addAt l 0 q a) k = gB l k ^^^ mul a (gB q k) := by
  by_cases hk : k < l.length
  · rw [gB_addAt _ _ _ _ hk, if_pos (Nat.zero_le _), Nat.sub_zero]
  · rw [gB_ge (by rw [addAt_length]; omega), gB_ge (l := l) (by omega), gB_ge (l := q) (by omega), mul_zero, xor_z]
theorem ev_addAt0 {l q : List UInt8} (a x : UInt8) (h : q.length ≤ l.length) : ev (addAt l 0 q a) x = ev l x ^^^ mul a (ev q x) := ev_lin a x (gB_addAt0 a h)
theorem ev_tr (p : List UInt8) (r x : UInt8) : ev (tr p r) x = mul (x ^^^ r) (ev p x) := by
  rw [tr, ev_addAt0 r x (by simp), ev_cons, xor_z, xor_mul, mul_comm (ev p x) x]
theorem ev_zeros (n : Nat) (x : UInt8) : ev (zeros n) x = 0 := by
  rw [ev_congr (q := []) (fun k => by
    by_cases h : k < n
    · rw [gB_eq (by rw [zeros_length]; exact h), gB_ge (l := []) (by simp)]; simp [zeros]
    · rw [gB_ge (by rw [zeros_length]; omega), gB_ge (l := []) (by simp)]) x]
  rfl
theorem ev_xorL (p q : List UInt8) (x : UInt8) : ev (xorL p q) x = ev p x ^^^ ev q x := by
  have := ev_lin (r := xorL p q) (p := p) (q := q) 1 x (fun k => by rw [gB_xorL, one_mul])
  rw [one_mul] at this; exact this

/-! ### roots -/
/-- p through x + r. -/
def sd (p : List UInt8) (r : UInt8) : List UInt8 := tab (p.length - 1) (fun k => ev (p.drop (k + 1)) r)
theorem sd_length (p : List UInt8) (r : UInt8) : (sd p r).length = p.length - 1 := tab_length _ _
theorem gB_sd (p : List UInt8) (r : UInt8) (k : Nat) : gB (sd p r) k = ev (p.drop (k + 1)) r := by
  by_cases h : k < p.length - 1
  · exact gB_tab _ h
  · rw [gB_ge (by rw [sd_length]; omega), List.drop_of_length_le (by omega)]; rfl
theorem sd_coef (p : List UInt8) (r : UInt8) (h : ev p r = 0) (k : Nat) : gB p k = gB (tr (sd p r) r) k := by
  rw [tr, gB_addAt0 r (by simp)]
  by_cases hk : k < p.length
  · have h1 := ev_drop p r k hk
    have h2 : gB p k = ev (p.drop k) r ^^^ mul (ev (p.drop (k + 1)) r) r := by rw [h1, xor_comm, ← xor_assoc, xor_ss, z_xor]
    rw [h2, gB_sd, mul_comm]
    congr 1
    cases k with
    | zero => simpa [gB] using h
    | succ k => rw [gB_cons_succ, gB_sd]
  · rw [gB_ge (by omega), gB_sd, List.drop_of_length_le (by omega), ev_nil, mul_zero, xor_z]
    cases k with
    | zero => rfl
    | succ k => rw [gB_cons_succ, gB_sd, List.drop_of_length_le (by omega), ev_nil]
theorem roots_zero : ∀ (xs p : List UInt8), Dst xs → p.length ≤ xs.length → (∀ i, i < xs.length → ev p (gB xs i) = 0) → ∀ k, gB p k = 0
  | [], p, _, hl, _, k => gB_ge (by have h0 : p.length ≤ 0 := hl; omega)
  | r :: xs, p, hd, hl, hz, k => by
    have h0 : ev p r = 0 := by have := hz 0 (by simp); simpa [gB] using this
    have ih := roots_zero xs (sd p r) (fun i j hij hj => by
      have := hd (i + 1) (j + 1) (by omega) (by simpa using hj)
      rw [gB_cons_succ, gB_cons_succ] at this; exact this) (by rw [sd_length]; simp at hl; omega) (fun i hi => by
      have h1 := hz (i + 1) (by simpa using hi)
      rw [gB_cons_succ, ev_congr (sd_coef p r h0), ev_tr] at h1
      refine mul_z h1 (xor_ne0 fun e => ?_)
      have h2 := hd 0 (i + 1) (by omega) (by simpa using hi)
      rw [gB_cons_succ] at h2
      exact h2 (by rw [e]; simp [gB]))
    rw [sd_coef p r h0, tr, gB_addAt0 r (by simp), ih, mul_zero, xor_z]
    cases k with
    | zero => rfl
    | succ k => rw [gB_cons_succ, ih]
theorem unique {xs p q : List UInt8} (hd : Dst xs) (hp : p.length ≤ xs.length) (hq : q.length ≤ xs.length) (h : ∀ i, i < xs.length → ev p (gB xs i) = ev q (gB xs i)) : ∀ k, gB p k = gB q k := fun k => by
  have h1 := roots_zero xs (xorL p q) hd (by rw [xorL, tab_length]; omega) (fun i hi => by rw [ev_xorL, h i hi, xor_ss]) k
  rw [gB_xorL] at h1
  exact xor_eq h1
theorem unique_ev {xs p q : List UInt8} (hd : Dst xs) (hp : p.length ≤ xs.length) (hq : q.length ≤ xs.length) (h : ∀ i, i < xs.length → ev p (gB xs i) = ev q (gB xs i)) (x : UInt8) : ev p x = ev q x := ev_congr (unique hd hp hq h) x

/-! ### Newton -/
def prX (xs : List UInt8) (x : UInt8) : Nat → UInt8
  | 0 => 1
  | k + 1 => mul (x ^^^ gB xs k) (prX xs x k)
theorem prX_zero {xs : List UInt8} {i : Nat} : ∀ {k}, i < k → prX xs (gB xs i) k = 0
  | k + 1, h => by
    rw [prX]
    by_cases e : i = k
    · rw [e, xor_ss, zero_mul]
    · rw [prX_zero (by omega : i < k), mul_zero]
theorem prX_ne {xs : List UInt8} {x : UInt8} : ∀ k, (∀ i, i < k → gB xs i ≠ x) → prX xs x k ≠ 0
  | 0, _ => by show (1 : UInt8) ≠ 0; decide
  | k + 1, h => mul_ne0 (xor_ne0 fun e => h k (by omega) e.symm) (prX_ne k fun i hi => h i (by omega))
theorem it_basis (xs ys : List UInt8) (x : UInt8) : ∀ k, ev (itK xs ys k).2 x = prX xs x k
  | 0 => by show mul 0 x ^^^ 1 = 1; rw [zero_mul]; rfl
  | k + 1 => by rw [itK, prX, ← it_basis xs ys x k]; exact ev_tr _ _ _
theorem it_step (xs ys : List UInt8) (x : UInt8) (k : Nat) (hk : k < xs.length) : ev (itK xs ys (k + 1)).1 x = ev (itK xs ys k).1 x ^^^ mul (dv (gB ys k ^^^ ev (itK xs ys k).1 (gB xs k)) (prX xs (gB xs k) k)) (prX xs x k) := by
  rw [← it_basis xs ys (gB xs k) k, ← it_basis xs ys x k]
  exact ev_addAt0 _ _ (by rw [itK_length1, itK_length2]; omega)
theorem it_value {xs ys : List UInt8} (hd : Dst xs) : ∀ k, k ≤ xs.length → ∀ i, i < k → ev (itK xs ys k).1 (gB xs i) = gB ys i
  | k + 1, hk, i, hi => by
    rw [it_step xs ys _ k (by omega)]
    by_cases e : i = k
    · subst e
      have h1 : prX xs (gB xs i) i ≠ 0 := prX_ne i fun j hj => hd j i hj (by omega)
      rw [dv, if_neg h1, mul_assoc, mul_comm (inv _), mul_inv _ h1, mul_one, xor_comm (gB ys i), ← xor_assoc, xor_ss, z_xor]
    · rw [prX_zero (by omega : i < k), mul_zero, xor_z]
      exact it_value hd k (by omega) i (by omega)
theorem itP_length (xs ys : List UInt8) : (itP xs ys).length ≤ xs.length := by
  rw [itP, trim_length]
  have := tl_le (itK xs ys xs.length).1
  rw [itK_length1] at this
  exact this
theorem itP_value {xs ys : List UInt8} (hd : Dst xs) {i : Nat} (hi : i < xs.length) : ev (itP xs ys) (gB xs i) = gB ys i := by
  rw [itP, ev_trim]; exact it_value hd _ (Nat.le_refl _) i hi

/-! ### Lagrange -/
/-- The product over the others is the value of a polynomial. -/
theorem lg_poly (l : List (Int × List UInt8)) (i : Nat) : ∀ k, ∃ q : List UInt8, q.length ≤ (if i < k then k else k + 1) ∧ ∀ x, ev q x = lgA l x i k
  | 0 => ⟨[1], by simp, fun x => by show mul 0 x ^^^ 1 = 1; rw [zero_mul]; rfl⟩
  | k + 1 => by
    obtain ⟨q, h1, h2⟩ := lg_poly l i k
    by_cases e : k = i
    · refine ⟨q, ?_, fun x => by rw [lgA, if_pos e, h2]⟩
      rw [if_neg (by omega)] at h1
      rw [if_pos (by omega)]; exact h1
    · refine ⟨tr q (gX l k), ?_, fun x => by rw [lgA, if_neg e, ev_tr, h2, mul_comm]⟩
      rw [tr_length]
      by_cases h3 : i < k
      · rw [if_pos h3] at h1; rw [if_pos (by omega)]; omega
      · rw [if_neg h3] at h1; rw [if_neg (by omega)]; omega
theorem lgA_zero (l : List (Int × List UInt8)) {i j : Nat} (hij : j ≠ i) : ∀ {k}, j < k → lgA l (gX l j) i k = 0
  | k + 1, h => by
    rw [lgA]
    by_cases e : k = i
    · rw [if_pos e]; exact lgA_zero l hij (by omega)
    · rw [if_neg e]
      by_cases e2 : j = k
      · rw [e2, xor_ss, mul_zero]
      · rw [lgA_zero l hij (by omega : j < k), zero_mul]
theorem lgA_ne (l : List (Int × List UInt8)) {i : Nat} : ∀ k, (∀ j, j < k → j ≠ i → gX l j ≠ gX l i) → lgA l (gX l i) i k ≠ 0
  | 0, _ => by show (1 : UInt8) ≠ 0; decide
  | k + 1, h => by
    rw [lgA]
    by_cases e : k = i
    · rw [if_pos e]; exact lgA_ne l k fun j hj => h j (by omega)
    · rw [if_neg e]
      exact mul_ne0 (lgA_ne l k fun j hj => h j (by omega)) (xor_ne0 fun e' => h k (by omega) e e'.symm)
/-- The elements of shares. -/
def xsU (l : List (Int × List UInt8)) : List UInt8 := tab l.length (gX l)
theorem xsU_length (l : List (Int × List UInt8)) : (xsU l).length = l.length := tab_length _ _
theorem gB_xsU {l : List (Int × List UInt8)} {k : Nat} (h : k < l.length) : gB (xsU l) k = gX l k := gB_tab _ h
theorem dst_ne {l : List (Int × List UInt8)} (hd : Dst (xsU l)) {i j : Nat} (hi : i < l.length) (hj : j < l.length) (hij : j ≠ i) : gX l j ≠ gX l i := fun e => by
  rcases Nat.lt_or_gt_of_ne hij with h | h
  · have := hd j i h (by rw [xsU_length]; exact hi)
    rw [gB_xsU hi, gB_xsU hj] at this; exact this e
  · have := hd i j h (by rw [xsU_length]; exact hj)
    rw [gB_xsU hi, gB_xsU hj] at this; exact this e.symm
theorem gB_mad {dst src : List UInt8} {c : UInt8} {i : Nat} (h : dst.length = src.length) (hi : i < src.length) : gB (muladd dst src c) i = mul c (gB src i) ^^^ gB dst i := by
  have h1 : i < (muladd dst src c).length := by rw [muladd_length _ _ _ h]; exact hi
  rw [gB_eq h1, gB_eq hi, gB_eq (by omega)]
  simp [muladd]
theorem vl_poly {l : List (Int × List UInt8)} {L b : Nat} (hE : Eql l L) (hb : b < L) : ∀ k, k ≤ l.length → ∃ s : List UInt8, s.length ≤ l.length ∧ ∀ x, ev s x = gB (vlK l x L k) b
  | 0, _ => ⟨[], Nat.zero_le _, fun x => by
    show (0 : UInt8) = gB (zeros L) b
    rw [gB_eq (by rw [zeros_length]; exact hb)]; simp [zeros]⟩
  | k + 1, h => by
    obtain ⟨s, h1, h2⟩ := vl_poly hE hb k (by omega)
    obtain ⟨q, h3, h4⟩ := lg_poly l k l.length
    rw [if_pos (by omega)] at h3
    by_cases hz : lgA l (gX l k) k l.length = 0
    · refine ⟨s, h1, fun x => ?_⟩
      rw [vlK, gB_mad (by rw [vlK_length hE x k (by omega), hE k (by omega)]) (by rw [hE k (by omega)]; exact hb), lgF, dv, if_pos hz, zero_mul, z_xor, h2]
    · refine ⟨xorL s (xorL [] (addAt (zeros l.length) 0 q (mul (inv (lgA l (gX l k) k l.length)) (gB (gS l k).2 b)))), ?_, fun x => ?_⟩
      · rw [xorL, tab_length, xorL, tab_length, addAt_length, zeros_length, List.length_nil]; omega
      · rw [ev_xorL, ev_xorL, ev_nil, z_xor, ev_addAt0 _ _ (by rw [zeros_length]; exact h3), ev_zeros, z_xor, h2, h4, vlK, gB_mad (by rw [vlK_length hE x k (by omega), hE k (by omega)]) (by rw [hE k (by omega)]; exact hb), lgF, dv, if_neg hz, xor_comm, mul_rot]
theorem vl_at {l : List (Int × List UInt8)} {L b : Nat} (hE : Eql l L) (hb : b < L) (hd : Dst (xsU l)) {j : Nat} (hj : j < l.length) : ∀ k, k ≤ l.length → gB (vlK l (gX l j) L k) b = if j < k then gB (gS l j).2 b else 0
  | 0, _ => by
    rw [if_neg (by omega)]
    show gB (zeros L) b = 0
    rw [gB_eq (by rw [zeros_length]; exact hb)]; simp [zeros]
  | k + 1, h => by
    rw [vlK, gB_mad (by rw [vlK_length hE _ k (by omega), hE k (by omega)]) (by rw [hE k (by omega)]; exact hb), vl_at hE hb hd hj k (by omega), lgF]
    by_cases e : j = k
    · subst e
      have h1 := lgA_ne l (i := j) l.length fun i hi hij => dst_ne hd hj hi hij
      rw [if_neg (by omega), if_pos (by omega), dv, if_neg h1, mul_inv _ h1, one_mul, xor_z]
    · rw [lgA_zero l e hj, dv]
      have : (if lgA l (gX l k) k l.length = 0 then (0 : UInt8) else mul 0 (inv (lgA l (gX l k) k l.length))) = 0 := by split; rfl; exact zero_mul _
      rw [this, zero_mul, z_xor]
      by_cases h2 : j < k
      · rw [if_pos h2, if_pos (by omega)]
      · rw [if_neg h2, if_neg (by omega)]
/-- Lagrange's value is that of the polynomial through the shares. -/
theorem vl_ev {l : List (Int × List UInt8)} {L b : Nat} (hE : Eql l L) (hb : b < L) (hd : Dst (xsU l)) {p : List UInt8} (hp : p.length ≤ l.length) (hv : ∀ j, j < l.length → ev p (gX l j) = gB (gS l j).2 b) (x : UInt8) : gB (vlK l x L l.length) b = ev p x := by
  obtain ⟨s, h1, h2⟩ := vl_poly hE hb l.length (Nat.le_refl _)
  rw [← h2]
  refine unique_ev hd (by rw [xsU_length]; exact h1) (by rw [xsU_length]; exact hp) (fun i hi => ?_) x
  rw [xsU_length] at hi
  rw [gB_xsU hi, h2, hv i hi, vl_at hE hb hd hi _ (Nat.le_refl _), if_pos hi]
end Py
end Go.Proofs.Ytakedococfklgaa
/- Plain: the reference's products and its interpolation by Lagrange's formula; it is Newton's. -/
namespace Go.Proofs.Ytakedococfklgaa
open Go.RowKit Gf

namespace Py
theorem ev_shift (q : List UInt8) (x : UInt8) : ∀ o, ev (zeros o ++ q) x = mul (pw x o) (ev q x)
  | 0 => by show ev q x = mul 1 (ev q x); rw [one_mul]
  | o + 1 => by
    have e : zeros (o + 1) ++ q = 0 :: (zeros o ++ q) := by simp [zeros, List.replicate_succ]
    rw [e, ev_cons, ev_shift q x o, xor_z, pw, mul_comm (mul (pw x o) (ev q x)) x, ← mul_assoc, mul_comm x]
theorem gB_shift (q : List UInt8) (o k : Nat) : gB (zeros o ++ q) k = if o ≤ k then gB q (k - o) else 0 := by
  by_cases h : o ≤ k
  · rw [if_pos h]
    unfold gB
    rw [List.getD_eq_getElem?_getD, List.getD_eq_getElem?_getD, List.getElem?_append_right (by rw [zeros_length]; exact h), zeros_length]
  · rw [if_neg h]
    unfold gB
    rw [List.getD_eq_getElem?_getD, List.getElem?_append_left (by rw [zeros_length]; omega)]
    simp [zeros, show k < o by omega]
theorem ev_addAt {l q : List UInt8} (o : Nat) (a x : UInt8) (h : o + q.length ≤ l.length) : ev (addAt l o q a) x = ev l x ^^^ mul a (mul (pw x o) (ev q x)) := by
  rw [← ev_shift]
  refine ev_lin a x fun k => ?_
  rw [gB_shift]
  by_cases hk : k < l.length
  · rw [gB_addAt _ _ _ _ hk]
    by_cases ho : o ≤ k
    · rw [if_pos ho, if_pos ho]
    · rw [if_neg ho, if_neg ho, mul_zero, xor_z]
  · rw [gB_ge (by rw [addAt_length]; omega), gB_ge (l := l) (by omega)]
    by_cases ho : o ≤ k
    · rw [if_pos ho, gB_ge (l := q) (by omega), mul_zero]; rfl
    · rw [if_neg ho, mul_zero]; rfl
theorem ev_rcK (p q : List UInt8) (x : UInt8) : ∀ i, i ≤ p.length → ev (rcK p q i) x = mul (rvK p x i) (ev q x)
  | 0, _ => by rw [rcK, ev_zeros]; show 0 = mul 0 (ev q x); rw [zero_mul]
  | i + 1, h => by rw [rcK, ev_addAt _ _ _ (by rw [rcK_length]; omega), ev_rcK p q x i (by omega), rvK, xor_mul, mul_assoc]
theorem ev_rmP (p q : List UInt8) (x : UInt8) : ev (rmP p q) x = mul (ev p x) (ev q x) := by
  rw [rmP, ev_trim, ev_rcK p q x _ (Nat.le_refl _), ev_rvK p x (Nat.le_refl _)]
theorem rcK_zero (p q : List UInt8) : ∀ i, i ≤ p.length → ∀ j, i + q.length ≤ j + 1 → gB (rcK p q i) j = 0
  | 0, _, j, _ => by
    rw [rcK]
    by_cases h : j < p.length + q.length
    · rw [gB_eq (by rw [zeros_length]; exact h)]; simp [zeros]
    · exact gB_ge (by rw [zeros_length]; omega)
  | i + 1, h, j, hj => by
    rw [rcK]
    by_cases hl : j < (rcK p q i).length
    · rw [gB_addAt _ _ _ _ hl, rcK_zero p q i (by omega) j (by omega)]
      by_cases ho : i ≤ j
      · rw [if_pos ho, gB_ge (l := q) (by omega), mul_zero]; rfl
      · rw [if_neg ho]
    · exact gB_ge (by rw [addAt_length]; omega)
theorem tl_le_of {p : List UInt8} {n : Nat} (h : ∀ k, n ≤ k → gB p k = 0) : tl p ≤ n := by
  rcases Nat.lt_or_ge n (tl p) with h1 | h1
  · exact absurd (h (tl p - 1) (by omega)) (tl_top p (by omega))
  · exact h1
theorem rmP_length (p q : List UInt8) (hq : 1 ≤ q.length) : (rmP p q).length ≤ p.length + q.length - 1 := by
  rw [rmP, trim_length]
  exact tl_le_of fun k hk => rcK_zero p q _ (Nat.le_refl _) k (by omega)
theorem rmP_len {p q : List UInt8} {n : Nat} (hq : 1 ≤ q.length) (h : p.length + q.length ≤ n + 1) : (rmP p q).length ≤ n := by
  have := rmP_length p q hq; omega
theorem addP_length (p q : List UInt8) : (addP p q).length ≤ max p.length q.length := by
  rw [addP, trim_length]
  have := tl_le (xorL p q)
  rw [xorL, tab_length] at this; exact this
theorem ev_addP (p q : List UInt8) (x : UInt8) : ev (addP p q) x = ev p x ^^^ ev q x := by rw [addP, ev_trim, ev_xorL]

/-- Lagrange's basis after k rounds. -/
def bsK (xs : List UInt8) (i : Nat) : Nat → List UInt8
  | 0 => [1]
  | k + 1 => if k = i then bsK xs i k else rmP (rmP (bsK xs i k) [gB xs k, 1]) [inv (gB xs i ^^^ gB xs k)]
def riK (xs ys : List UInt8) : Nat → List UInt8
  | 0 => []
  | i + 1 => addP (riK xs ys i) (rmP (bsK xs i xs.length) [gB ys i])
theorem bsK_length (xs : List UInt8) (i : Nat) : ∀ k, (bsK xs i k).length ≤ (if i < k then k else k + 1)
  | 0 => by simp [bsK]
  | k + 1 => by
    have ih := bsK_length xs i k
    rw [bsK]
    by_cases e : k = i
    · rw [if_pos e, if_pos (by omega)]
      rw [if_neg (by omega)] at ih; exact ih
    · rw [if_neg e]
      by_cases h : i < k
      · rw [if_pos h] at ih
        rw [if_pos (by omega)]
        exact rmP_len (by simp) (by have := rmP_len (p := bsK xs i k) (q := [gB xs k, 1]) (n := k + 1) (by simp) (by simp; omega); simp; omega)
      · rw [if_neg h] at ih
        rw [if_neg (by omega)]
        exact rmP_len (by simp) (by have := rmP_len (p := bsK xs i k) (q := [gB xs k, 1]) (n := k + 1 + 1) (by simp) (by simp; omega); simp; omega)
theorem ev_one (c x : UInt8) : ev [c] x = c := by rw [ev_cons, ev_nil, zero_mul, z_xor]
theorem ev_lin2 (r x : UInt8) : ev [r, 1] x = x ^^^ r := by rw [ev_cons, ev_one, one_mul]
theorem bs_other {xs : List UInt8} {i j : Nat} (hij : j ≠ i) : ∀ {k}, j < k → ev (bsK xs i k) (gB xs j) = 0
  | k + 1, h => by
    rw [bsK]
    by_cases e : k = i
    · rw [if_pos e]; exact bs_other hij (by omega)
    · rw [if_neg e, ev_rmP, ev_rmP, ev_lin2]
      by_cases e2 : j = k
      · rw [e2, xor_ss, mul_zero, zero_mul]
      · rw [bs_other hij (by omega : j < k), zero_mul, zero_mul]
theorem bs_self {xs : List UInt8} (hd : Dst xs) {i : Nat} (hi : i < xs.length) : ∀ k, k ≤ xs.length → ev (bsK xs i k) (gB xs i) = 1
  | 0, _ => ev_one 1 _
  | k + 1, h => by
    rw [bsK]
    by_cases e : k = i
    · rw [if_pos e]; exact bs_self hd hi k (by omega)
    · have hne : gB xs i ^^^ gB xs k ≠ 0 := xor_ne0 (by
        rcases Nat.lt_or_gt_of_ne e with h1 | h1
        · exact fun e' => hd k i h1 hi e'.symm
        · exact hd i k h1 (by omega))
      rw [if_neg e, ev_rmP, ev_rmP, ev_lin2, ev_one, bs_self hd hi k (by omega), one_mul, mul_inv _ hne]
theorem riK_length (xs ys : List UInt8) : ∀ i, i ≤ xs.length → (riK xs ys i).length ≤ xs.length
  | 0, _ => Nat.zero_le _
  | i + 1, h => by
    have h1 := riK_length xs ys i (by omega)
    have h2 := bsK_length xs i xs.length
    rw [if_pos (by omega)] at h2
    have h3 := rmP_len (p := bsK xs i xs.length) (q := [gB ys i]) (n := xs.length) (by simp) (by simp; omega)
    have h4 := addP_length (riK xs ys i) (rmP (bsK xs i xs.length) [gB ys i])
    rw [riK]; omega
theorem riK_value {xs ys : List UInt8} (hd : Dst xs) {j : Nat} (hj : j < xs.length) : ∀ i, i ≤ xs.length → ev (riK xs ys i) (gB xs j) = if j < i then gB ys j else 0
  | 0, _ => by rw [if_neg (by omega)]; rfl
  | i + 1, h => by
    rw [riK, ev_addP, ev_rmP, ev_one, riK_value hd hj i (by omega)]
    by_cases e : j = i
    · subst e
      rw [bs_self hd hj _ (Nat.le_refl _), one_mul, if_neg (by omega), if_pos (by omega), z_xor]
    · rw [bs_other e hj, zero_mul, xor_z]
      by_cases h1 : j < i
      · rw [if_pos h1, if_pos (by omega)]
      · rw [if_neg h1, if_neg (by omega)]
theorem ri_it {xs ys : List UInt8} (hd : Dst xs) : trim (riK xs ys xs.length) = itP xs ys := by
  have h1 := unique (p := riK xs ys xs.length) (q := itP xs ys) hd (riK_length xs ys _ (Nat.le_refl _)) (itP_length xs ys) (fun i hi => by
    rw [riK_value hd hi _ (Nat.le_refl _), if_pos hi, itP_value hd hi])
  rw [trim_congr h1, itP, trim_trim]
end Py
end Go.Proofs.Ytakedococfklgaa
/- Contract of the reference kinkeepref06.Interpolate. -/
namespace Go.Proofs.Ytakedococfklgaa
open Go.RowKit Gf

attribute [local go_sem] Gf.xor_bits

theorem bs2 {w : World} {g : Nat} {x y : UInt8} (h : Blk w g 5 (row [x, y])) : BS w (some ⟨g, 0, none⟩) 2 2 [x, y] := BS.of_blk h rfl (by decide)

set_option maxRecDepth 100000 in
set_option maxHeartbeats 2000000 in
theorem rinterp_any (A A' : Option Addr) (n c c' : Nat) (xs ys : List UInt8) (w : World) (hp : BS w A n c xs) (hq : BS w A' n c' ys) (hn : n ≤ 1000) (hd : Py.Dst xs) :
    Calls Try.prog 58 #[.slice A n c, .slice A' n c'] w (Rets (GvB (Py.itP xs ys)) w) := by
  have HP := Lib.hid hp
  have HQ := Lib.hid hq
  have HLP := Lib.hid hp.1
  have HN := Lib.hid hn
  have HD := Lib.hid hd
  have hn2 := hp.len_le
  have HRL : Hid (∀ i, i ≤ n → (Py.riK xs ys i).length ≤ n) := Lib.hid (fun i hi => by have := Py.riK_length xs ys i (by rw [hp.1]; exact hi); rw [hp.1] at this; exact this)
  have HBL : Hid (∀ i k, k ≤ n → (Py.bsK xs i k).length ≤ n + 1) := Lib.hid (fun i k hk => by have := Py.bsK_length xs i k; split at this <;> omega)
  clear hp hq hn hd
  go_enter Try.func58, Try.ntmps58
  go_wp2_with fail
  go_loopw [5, 11] (fun v i wr => ∃ (k A1 n1 c1 : _), k ≤ n ∧ i = .int .i64 (k : Int) ∧ v = .slice A1 n1 c1 ∧ Hid (BS wr A1 n1 c1 (Py.riK xs ys k)) ∧ Hid (AtB A1 (w.heap.size ≤ ·)) ∧ Hid (Below w.heap.size w wr)) (fun _ i _ => n - (intOf i).toNat)
  case atStart => exact ⟨0, none, 0, 0, by omega, rfl, rfl, Lib.hid BS.nil, Lib.hid (fun _ h => by cases h), Lib.hid (Below.refl _ _)⟩
  case round =>
    obtain ⟨i, A1, n1, c1, hi, rfl, rfl, h1, ha1, hb⟩ := hrel
    by_cases hlt : i < n
    · obtain ⟨w1, rfl⟩ : ∃ w1, w1 = wr := ⟨_, rfl⟩
      go_wp2_with fail
      go_loopw [7, 17] (fun v j wr => ∃ (k A2 n2 c2 : _), k ≤ n ∧ j = .int .i64 (k : Int) ∧ v = .slice A2 n2 c2 ∧ Hid (BS wr A2 n2 c2 (Py.bsK xs i k)) ∧ Hid (Below w1.heap.size w1 wr)) (fun _ j _ => n - (intOf j).toNat)
      case atStart => exact ⟨0, _, 1, 1, by omega, rfl, rfl, Lib.hid (BS.of_blk (l := [1]) (Blk.new w1 _ _) rfl (by decide)), Lib.hid (kb1' _ _)⟩
      case round =>
        obtain ⟨k, A2, n2, c2, hk, rfl, rfl, h2, hb2⟩ := hrel
        by_cases hlk : k < n
        · by_cases hki : k = i
          · have q1 : ((k : Int) != (i : Int)) = false := by simp; omega
            have HB' : Hid (BS wr A2 n2 c2 (Py.bsK xs i (k + 1))) := Lib.hid (by rw [Py.bsK, if_pos hki]; exact h2.out)
            clear hki
            go_wp2_with fail
            go_roundw
            case rel => exact ⟨k + 1, A2, n2, c2, by omega, by go_num, rfl, HB', hb2⟩
            case measure => simp [intOf]; omega
          · have q1 : ((k : Int) != (i : Int)) = true := by simp; omega
            have HBS : Hid (Py.bsK xs i (k + 1) = rmP (rmP (Py.bsK xs i k) [gB xs k, 1]) [inv (gB xs i ^^^ gB xs k)]) := Lib.hid (by rw [Py.bsK, if_neg hki])
            clear hki
            have hbw := below_then hb.out hb2.out
            obtain ⟨g3, o3, rfl, r3⟩ := HP.out.at_ hbw hlk
            obtain ⟨xk, hxk⟩ : ∃ x, x = gB xs k := ⟨_, rfl⟩
            rw [← hxk] at r3
            obtain ⟨xi, hxi⟩ : ∃ x, x = gB xs i := ⟨_, rfl⟩
            rw [← hxk, ← hxi] at HBS
            have HXK := Lib.hid hxk
            have HXI := Lib.hid hxi
            have HBW := Lib.hid hbw
            have HN2 : Hid (n2 ≤ 100000) := Lib.hid (by have h10 := HBL.out i k (by omega); have h11 := HN.out; rw [h2.out.1] at h10; omega)
            clear hxk hxi hbw
            go_wp2_with fail
            have hb4 := kb1' wr (.cells #[B xk, .int .u8 1] 5)
            have k4 : Blk (wr.alloc (.cells #[B xk, .int .u8 1] 5)) wr.heap.size 5 (row [xk, 1]) := Blk.new wr _ _
            refine (rpmul_any A2 _ n2 c2 2 2 (Py.bsK xs i k) [xk, 1] _ (h2.out.kept hb4) (bs2 k4) HN2.out (by decide)).mono ?_
            rintro e w5 ⟨v5, rfl, A5, n5, c5, rfl, hb5, _, hx5⟩
            have hb15 := below_then hb2.out (below_then hb4 hx5)
            have HB5 := Lib.hid hb15
            have H5 := Lib.hid hb5
            have HN5 : Hid (n5 ≤ 100000) := Lib.hid (by
              have h9 := Py.rmP_length (Py.bsK xs i k) [xk, 1] (by simp)
              rw [hb5.1, h2.out.1] at h9
              have h10 := HBL.out i k (by omega); have h11 := HN.out; rw [h2.out.1] at h10
              simp at h9; omega)
            obtain ⟨_, _, e6, r6⟩ := HP.out.at_ (below_then hb.out hb15) hlk
            cases e6
            obtain ⟨_, _, e7, r7⟩ := HP.out.at_ (below_then hb.out hb15) hlt
            cases e7
            rw [← HXK.out] at r6
            rw [← HXI.out] at r7
            clear hb4 k4 hx5 hb5 hb15 r3
            go_wp2_with fail
            refine Text.wp_region_text (fun _ => True) [(0, 4), (1, 4), (2, 4), (3, 4), (5, 4), (6, 4), (7, 4), (4, 1), (8, 1), (9, 4), (10, 1), (11, 2), (12, 2), (13, 4)] (by kernel_rfl) (by kernel_rfl) (fun _ _ _ _ _ h => h) (trivial) ?_
            iterate 7 (refine Text.purek rfl rfl (fun K hK => ⟨_, fun w' => by go_simp <;> rfl, ?_⟩); go_simp; refine hK _ ?_; clear hK K)
            iterate 2 (refine Text.readk rfl rfl (fun K hK => ⟨_, by go_simp <;> rfl, ?_⟩); go_simp; refine hK _ ?_; clear hK K)
            (refine Text.purek rfl rfl (fun K hK => ⟨_, fun w' => by go_simp <;> rfl, ?_⟩); go_simp; refine hK _ ?_; clear hK K)
            refine Text.quietk rfl rfl (fun K hK => ?_)
            refine ⟨_, _, _, by go_simp <;> rfl, rinv_any (xi ^^^ xk) _, ?_⟩
            go_simp
            refine hK _ ?_
            clear hK K
            refine Text.eff rfl rfl (fun K hK => ?_)
            go_simp
            obtain ⟨W6, hW6⟩ : ∃ W, W = (w5.alloc (.cells #[B (inv (xi ^^^ xk))] 5)).drew := ⟨_, rfl⟩
            have hb6 : Below w5.heap.size w5 W6 := by rw [hW6]; exact (kb1' _ _).drew
            have k6 : Blk W6 w5.heap.size 5 (row [inv (xi ^^^ xk)]) := by rw [hW6]; exact (Blk.new w5 _ _).drew
            refine hK _ _ trivial ?_
            clear hK K
            refine Text.eff rfl rfl (fun K hK => ?_)
            go_simp
            rw [← hW6]
            clear hW6
            refine (rpmul_any A5 _ n5 c5 1 1 _ [inv (xi ^^^ xk)] W6 (H5.out.kept hb6) (BS.of_blk k6 rfl (by decide)) HN5.out (by decide)).mono ?_
            rintro e w7 ⟨v7, rfl, A7, n7, c7, rfl, hb7, _, hx7⟩
            refine hK _ _ trivial ?_
            clear hK K
            have HB7 := Lib.hid (below_then HB5.out (below_then hb6 hx7))
            have H7 : Hid (BS w7 A7 n7 c7 (Py.bsK xs i (k + 1))) := Lib.hid (by rw [HBS.out]; exact hb7)
            clear hb6 k6 hb7 hx7 r6 r7
            (refine Text.purek rfl rfl (fun K hK => ⟨_, fun w' => by go_simp <;> rfl, ?_⟩); go_simp; refine hK _ ?_; clear hK K)
            refine Text.done ?_
            go_wp2_with fail
            go_roundw
            case rel => exact ⟨k + 1, A7, n7, c7, by omega, by go_num, rfl, H7, HB7⟩
            case measure => simp [intOf]; omega
        · obtain rfl : k = n := by omega
          have hbw := below_then hb.out hb2.out
          obtain ⟨g3, o3, rfl, r3⟩ := HQ.out.at_ hbw hlt
          obtain ⟨y, hy⟩ : ∃ x, x = gB ys i := ⟨_, rfl⟩
          rw [← hy] at r3
          have HR : Hid (Py.riK xs ys (i + 1) = Py.addP (Py.riK xs ys i) (rmP (Py.bsK xs i k) [y])) := Lib.hid (by rw [Py.riK, HLP.out, hy])
          have HN2 : Hid (n2 ≤ 100000) := Lib.hid (by have h10 := HBL.out i k (Nat.le_refl _); have h11 := HN.out; rw [h2.out.1] at h10; omega)
          have HN1 : Hid (n1 ≤ 100000) := Lib.hid (by have h10 := HRL.out i (by omega); have h11 := HN.out; rw [h1.out.1] at h10; omega)
          have H12 := Lib.hid (h1.out.kept hb2.out)
          have HBW := Lib.hid hbw
          clear hy hbw
          go_wp2_with fail
          have hb4 := kb1' wr (.cells #[B y] 5)
          have k4 : Blk (wr.alloc (.cells #[B y] 5)) wr.heap.size 5 (row [y]) := Blk.new wr _ _
          refine (rpmul_any A2 _ n2 c2 1 1 (Py.bsK xs i k) [y] _ (h2.out.kept hb4) (BS.of_blk k4 rfl (by decide)) HN2.out (by decide)).mono ?_
          rintro e w5 ⟨v5, rfl, A5, n5, c5, rfl, hb5, _, hx5⟩
          have hb45 := below_then hb4 hx5
          have HB5 := Lib.hid (below_then HBW.out hb45)
          have H5 := Lib.hid hb5
          have H15 := Lib.hid (H12.out.kept hb45)
          have HN5 : Hid (n5 ≤ 100000) := Lib.hid (by
            have h9 := Py.rmP_length (Py.bsK xs i k) [y] (by simp)
            rw [hb5.1, h2.out.1] at h9
            have h10 := HN2.out
            simp at h9; omega)
          clear hb4 k4 hx5 hb5 hb45
          go_wp2_with fail
          refine (radd_any A1 A5 n1 c1 n5 c5 _ _ w5 H15.out H5.out HN1.out HN5.out).mono ?_
          rintro e w6 ⟨v6, rfl, A6, n6, c6, rfl, hb6, ha6, hx6⟩
          have HB6 := Lib.hid (below_then HB5.out hx6)
          have HA6 : Hid (AtB A6 (w.heap.size ≤ ·)) := Lib.hid (fun a ea => Nat.le_trans HB5.out.size (ha6 a ea))
          have H6 : Hid (BS w6 A6 n6 c6 (Py.riK xs ys (i + 1))) := Lib.hid (by rw [HR.out]; exact hb6)
          clear hb6 ha6 hx6
          go_wp2_with fail
          go_roundw
          case rel => exact ⟨i + 1, A6, n6, c6, by omega, by go_num, rfl, H6, HA6, HB6⟩
          case measure => simp [intOf]; omega
    · obtain rfl : i = n := by omega
      have HT : Hid (Py.trim (Py.riK xs ys i) = Py.itP xs ys) := Lib.hid (by have := Py.ri_it (ys := ys) HD.out; rw [HLP.out] at this; exact this)
      go_wp2_with fail
      refine (rtrim_any A1 n1 c1 (Py.riK xs ys i) wr h1.out).mono ?_
      rintro e w5 ⟨v5, rfl, A5, n5, c5, rfl, hb5, ha5, hx5⟩
      rw [HT.out] at hb5
      have HG : Hid (GvB (Py.itP xs ys) w (.slice A5 n5 c5) w5) := Lib.hid ⟨A5, n5, c5, rfl, hb5, fun a ea => Nat.le_trans hb.out.size (ha5 a ea), below_then hb.out hx5⟩
      clear hb5 ha5 hx5
      go_wp2_with fail
      go_ret
      exact ⟨_, rfl, HG.out⟩
end Go.Proofs.Ytakedococfklgaa
/- Contracts of the references kinkeepref10 Lists, Distinct. -/
namespace Go.Proofs.Ytakedococfklgaa
open Go.RowKit Gf

set_option maxRecDepth 100000 in
set_option maxHeartbeats 1000000 in
theorem rlists_any (A : Option Addr) (n c : Nat) (m : List (List UInt8)) (size : Int) (w : World) (h : MS w A n c m) :
    Calls Try.prog 14 #[.slice A n c, .int .i64 size] w fun e w' => e = .returned (.bool (ltB m size)) ∧ w = w' := by
  have hn := h.len_le
  have HL := Lib.hid h.1
  have H := Lib.hid h
  clear h
  go_enter Try.func14, Try.ntmps14
  go_wp2
  go_loop [9] (fun i => ∃ k : Nat, k ≤ n ∧ i = .int .i64 (k : Int) ∧ Hid (∀ j, j < k → ((gR m j).length : Int) = size)) (fun i => n - (intOf i).toNat)
  case atStart => exact ⟨0, by omega, rfl, Lib.hid (fun j hj => absurd hj (by omega))⟩
  case round =>
    obtain ⟨k, hk, rfl, hall⟩ := hrel
    by_cases hlt : k < n
    · obtain ⟨g, o, A1, n1, c1, rfl, hc1, hr1⟩ := H.out.at_ (Below.refl _ _) hlt
      have HR1 : Hid ((gR m k).length = n1) := Lib.hid hr1.1
      clear hr1
      by_cases e : (n1 : Int) = size
      · have q : ((n1 : Int) != size) = false := by simpa using e
        have HA : Hid (∀ j, j < k + 1 → ((gR m j).length : Int) = size) := Lib.hid (fun j hj => by
          by_cases e' : j = k
          · subst e'; rw [HR1.out]; exact e
          · exact hall.out j (by omega))
        have HE := Lib.hid e
        clear e
        go_wp2
        go_round
        case rel => exact ⟨k + 1, by omega, by go_num, HA⟩
        case measure => simp [intOf]; omega
      · have q : ((n1 : Int) != size) = true := by simpa using e
        have HF : Hid (ltB m size = false) := Lib.hid (by
          unfold ltB
          have : (List.range m.length).all (fun i => decide (((gR m i).length : Int) = size)) = false := by
            rw [List.all_eq_false]; exact ⟨k, List.mem_range.2 (by rw [HL.out]; exact hlt), by rw [HR1.out]; simpa using e⟩
          rw [this]; rfl)
        have HE := Lib.hid e
        clear e
        go_wp2
        go_ret
        exact ⟨ret_bool HF.out.symm, rfl⟩
    · have HF : Hid (ltB m size = decide (n < 16)) := Lib.hid (by
        unfold ltB
        have : (List.range m.length).all (fun i => decide (((gR m i).length : Int) = size)) = true := by
          rw [List.all_eq_true]; intro i hi; rw [List.mem_range, HL.out] at hi; simpa using hall.out i (by omega)
        rw [this, HL.out]; rfl)
      by_cases h16 : n < 16
      · have q2 : decide ((n : Int) ≤ 15) = true := by simp; omega
        have HF' : Hid (ltB m size = true) := Lib.hid (by rw [HF.out]; simpa using h16)
        go_wp2
        go_ret
        exact ⟨ret_bool HF'.out.symm, rfl⟩
      · have q2 : decide ((n : Int) ≤ 15) = false := by simp; omega
        have HF' : Hid (ltB m size = false) := Lib.hid (by rw [HF.out]; simpa using h16)
        go_wp2
        go_ret
        exact ⟨ret_bool HF'.out.symm, rfl⟩

/-- All numbers from 1 to 255, none twice. -/
def dsB (z : List Int) : Bool := (List.range z.length).all (xOk z)
theorem xsB_eq (z : List Int) : xsB z = (decide (z.length ≤ 64) && dsB z) := rfl
theorem dsB_true {z : List Int} (h : ∀ i, i < z.length → xOk z i = true) : dsB z = true := by
  unfold dsB; rw [List.all_eq_true]; exact fun i hi => h i (List.mem_range.1 hi)
theorem dsB_false {z : List Int} {i : Nat} (hi : i < z.length) (h : xOk z i = false) : dsB z = false := by
  unfold dsB; rw [List.all_eq_false]; exact ⟨i, List.mem_range.2 hi, by simp [h]⟩

set_option maxRecDepth 100000 in
set_option maxHeartbeats 1000000 in
theorem rdist_any (A : Option Addr) (n c : Nat) (z : List Int) (w : World) (h : IS w A n c z) :
    Calls Try.prog 15 #[.slice A n c] w fun e w' => e = .returned (.bool (dsB z)) ∧ w = w' := by
  have hn := h.len_le
  have HL := Lib.hid h.1
  have H := Lib.hid h
  clear h
  go_enter Try.func15, Try.ntmps15
  go_wp2
  go_loop [8] (fun i => ∃ k : Nat, k ≤ n ∧ i = .int .i64 (k : Int) ∧ Hid (∀ j, j < k → xOk z j = true)) (fun i => n - (intOf i).toNat)
  case atStart => exact ⟨0, by omega, rfl, Lib.hid (fun j hj => absurd hj (by omega))⟩
  case round =>
    obtain ⟨k, hk, rfl, hall⟩ := hrel
    by_cases hlt : k < n
    · obtain ⟨g, o, rfl, hc⟩ := H.out.at_ (Below.refl _ _) hlt
      obtain ⟨x, hx⟩ : ∃ x, x = gI z k := ⟨_, rfl⟩
      rw [← hx] at hc
      have HX := Lib.hid hx
      clear hx
      by_cases h1 : x < 1
      · have q : decide (x < 1) = true := by simpa using h1
        have HF : Hid (dsB z = false) := Lib.hid (dsB_false (i := k) (by rw [HL.out]; exact hlt) (by unfold xOk; rw [← HX.out]; simp [vX]; omega))
        go_wp2
        go_ret
        exact ⟨ret_bool HF.out.symm, rfl⟩
      have q : decide (x < 1) = false := by simpa using h1
      by_cases h2 : 255 < x
      · have q' : decide (255 < x) = true := by simpa using h2
        have HF : Hid (dsB z = false) := Lib.hid (dsB_false (i := k) (by rw [HL.out]; exact hlt) (by unfold xOk; rw [← HX.out]; simp [vX]; omega))
        go_wp2
        go_ret
        exact ⟨ret_bool HF.out.symm, rfl⟩
      have q' : decide (255 < x) = false := by simpa using h2
      have HV : Hid (vX (gI z k) = true) := Lib.hid (vX_iff.2 (by rw [← HX.out]; omega))
      go_wp2
      go_loop [5] (fun i => ∃ j : Nat, j ≤ k ∧ i = .int .i64 (j : Int) ∧ Hid (∀ i, i < j → gI z i ≠ x)) (fun i => k - (intOf i).toNat)
      case atStart => exact ⟨0, by omega, rfl, Lib.hid (fun i hi => absurd hi (by omega))⟩
      case round =>
        obtain ⟨j, hj, rfl, hne⟩ := hrel
        by_cases hjk : j < k
        · obtain ⟨g', o', hA, hc'⟩ := H.out.at_ (Below.refl _ _) (k := j) (by omega)
          injection hA with hA
          injection hA with e1 e2
          subst e1 e2
          obtain ⟨y, hy⟩ : ∃ y, y = gI z j := ⟨_, rfl⟩
          rw [← hy] at hc'
          have HY := Lib.hid hy
          clear hy
          by_cases he : y = x
          · have q3 : (y == x) = true := by simpa using he
            have HF : Hid (dsB z = false) := Lib.hid (dsB_false (i := k) (by rw [HL.out]; exact hlt) (by
              unfold xOk
              have : (List.range k).any (fun j => gI z j == gI z k) = true := by rw [List.any_eq_true]; exact ⟨j, List.mem_range.2 hjk, by rw [← HY.out, ← HX.out]; exact q3⟩
              rw [this]; simp))
            clear he
            go_wp2
            go_ret
            exact ⟨ret_bool HF.out.symm, rfl⟩
          · have q3 : (y == x) = false := by simpa using he
            have HN : Hid (∀ i, i < j + 1 → gI z i ≠ x) := Lib.hid (fun i hi => by
              by_cases e' : i = j
              · subst e'; rw [← HY.out]; exact he
              · exact hne.out i (by omega))
            clear he
            go_wp2
            go_round
            case rel => exact ⟨j + 1, by omega, by go_num, HN⟩
            case measure => simp [intOf]; omega
        · obtain rfl : j = k := by omega
          have HA : Hid (∀ i, i < j + 1 → xOk z i = true) := Lib.hid (fun i hi => by
            by_cases e' : i = j
            · subst e'
              unfold xOk
              have : (List.range i).any (fun j => gI z j == gI z i) = false := by
                rw [List.any_eq_false]; intro i' hi'
                have := hne.out i' (List.mem_range.1 hi')
                rw [HX.out] at this
                simpa using this
              rw [HV.out, this]; rfl
            · exact hall.out i (by omega))
          go_wp2
          go_round
          case rel => exact ⟨j + 1, by omega, by go_num, HA⟩
          case measure => simp [intOf]; omega
    · have HF : Hid (dsB z = true) := Lib.hid (dsB_true fun i hi => hall.out i (by rw [HL.out] at hi; omega))
      go_wp2
      go_ret
      exact ⟨ret_bool HF.out.symm, rfl⟩
end Go.Proofs.Ytakedococfklgaa
/- Contracts of the references kinkeepref10 Threshold, Length, Xs, Shares. -/
namespace Go.Proofs.Ytakedococfklgaa
open Go.RowKit Gf

set_option maxHeartbeats 400000 in
theorem rthr_any (x : Int) (w : World) : Calls Try.prog 21 #[.int .i64 x] w fun e w' => e = .returned (.bool (vT x)) ∧ w = w' := by
  by_cases h1 : 1 ≤ x
  · have HV : Hid (vT x = decide (x ≤ 16)) := Lib.hid (by simp [vT, h1])
    go_enter Try.func21, Try.ntmps21
    go_wp2
    go_ret
    exact ⟨ret_bool (by rw [HV.out]), rfl⟩
  · have HV : Hid (vT x = false) := Lib.hid (by simp [vT, h1])
    have q : decide (1 ≤ x) = false := by simpa using h1
    go_enter Try.func21, Try.ntmps21
    go_wp2
    go_ret
    exact ⟨ret_bool HV.out.symm, rfl⟩

/-- The length of the shares' bytes. -/
def lnK (l : List (Int × List UInt8)) : Nat := if l.length = 0 then 0 else (gS l 0).2.length
set_option maxHeartbeats 400000 in
theorem rlen_any (A : Option Addr) (n c : Nat) (l : List (Int × List UInt8)) (w : World) (h : SS w A n c l) :
    Calls Try.prog 35 #[.slice A n c] w fun e w' => e = .returned (.int .i64 (lnK l : Int)) ∧ w = w' := by
  have hn := h.len_le
  by_cases h0 : n = 0
  · have q : ((n : Int) == 0) = true := by simp [h0]
    have HZ : Hid (lnK l = 0) := Lib.hid (by unfold lnK; rw [if_pos (by rw [h.1]; exact h0)])
    clear h h0
    go_enter Try.func35, Try.ntmps35
    go_wp2
    go_ret
    refine ⟨?_, rfl⟩
    rw [HZ.out]
    rfl
  · have q : ((n : Int) == 0) = false := by simp [h0]
    obtain ⟨g, o, A1, n1, c1, rfl, r1, r2, r3⟩ := h.at_ (Below.refl _ _) (k := 0) (by omega)
    have HZ : Hid (lnK l = n1) := Lib.hid (by unfold lnK; rw [if_neg (by rw [h.1]; exact h0)]; exact r3.1)
    have hn0 : 0 < n := by omega
    simp only [Nat.zero_mul, Nat.add_zero] at r2
    clear h h0 r1 r3
    go_enter Try.func35, Try.ntmps35
    go_wp2
    go_ret
    refine ⟨?_, rfl⟩
    rw [HZ.out]
    rfl

theorem xsL_take {l : List (Int × List UInt8)} {k : Nat} (h : k < l.length) : xsL (l.take (k + 1)) = xsL (l.take k) ++ [(gS l k).1] := by
  rw [List.take_succ_eq_append_getElem h, gS_eq h, xsL, xsL, List.map_append]; rfl
set_option maxRecDepth 100000 in
set_option maxHeartbeats 1000000 in
theorem rxs_any (A : Option Addr) (n c : Nat) (l : List (Int × List UInt8)) (w : World) (h : SS w A n c l) (h64 : n ≤ 64) :
    Calls Try.prog 49 #[.slice A n c] w fun e w' => ∃ A' c', e = .returned (.slice A' n c') ∧ IS w' A' n c' (xsL l) ∧ Below w.heap.size w w' := by
  have hn := h.len_le
  have H := Lib.hid h
  have HL := Lib.hid h.1
  have H64 := Lib.hid h64
  clear h h64
  go_enter Try.func49, Try.ntmps49
  go_wp2_with fail
  go_loopw [3, 8] (fun v i wr => ∃ (k m : Nat) (A1 : Option Addr) (c1 : Nat), k ≤ n ∧ i = .int .i64 (k : Int) ∧ m = k ∧ v = .slice A1 m c1 ∧ Hid (wr.ownsRow w.heap.size 3 1 (.slice A1 m c1) m ((xsL (l.take k)).map (Value.int .i64))) ∧ Hid (Below w.heap.size w wr)) (fun _ i _ => n - (intOf i).toNat)
  case atStart => exact ⟨0, 0, none, 0, by omega, rfl, rfl, rfl, Lib.hid (World.ownsRow_nil _ _ _ _), Lib.hid (Below.refl _ _)⟩
  case round =>
    obtain ⟨k, m, A1, c1, hk, rfl, hm, rfl, ho, hb⟩ := hrel
    subst hm
    by_cases hlt : m < n
    · obtain ⟨g1, o1, A2, n2, c2, rfl, q1, q2, q3⟩ := H.out.at_ hb.out hlt
      obtain ⟨y, hy⟩ : ∃ y, y = (gS l m).1 := ⟨_, rfl⟩
      rw [← hy] at q1
      have HT : Hid (xsL (l.take (m + 1)) = xsL (l.take m) ++ [y]) := Lib.hid (by rw [xsL_take (by rw [HL.out]; exact hlt), hy])
      clear q3 hy
      have hb7 : Below wr.heap.size wr ((wr.alloc (.cells #[.int .i64 y, .slice A2 n2 c2] 33)).alloc (.cells #[.int .i64 y] 3)) := below_then (kb1 _ _) (kb1 _ _)
      have HK7 : Hid (Blk ((wr.alloc (.cells #[.int .i64 y, .slice A2 n2 c2] 33)).alloc (.cells #[.int .i64 y] 3)) (wr.heap.size + 1) 3 #[.int .i64 y]) := Lib.hid (blk_at (by simp) _ _)
      have HOT := Lib.hid (Kp.own (S := fun _ => False) (Kp.of_below hb7) ho.out (fun _ _ => id))
      have HBT := Lib.hid (below_then hb.out hb7)
      have HM8 : Hid ((m + 1) * 8 ≤ 140737488355328) := Lib.hid (by have := H64.out; omega)
      have HM9 : Hid (m < 140737488355328) := Lib.hid (by have := H64.out; omega)
      clear hb7
      go_wp2_with (first
        | (at_builtin; refine wpList_app1 _ rfl (.tmp 12) (.tmp 15) 24 3 (.int .i64 0) 8 Try.underlying24 infoInt rfl rfl w.heap.size (.slice A1 m c1) m _ rfl HOT.out (wr.heap.size + 1) 1 3 (.int .i64 y) rfl HK7.out rfl HM8.out HM9.out HBT.out.size ?_; intro v6 w6 hp6))
      obtain ⟨m6, g6, cap6, hm6, rfl⟩ := own_form (by omega) hp6.1
      subst hm6
      have HO6 : Hid (w6.ownsRow w.heap.size 3 1 (.slice (some ⟨g6, 0, none⟩) (m + 1) cap6) (m + 1) ((xsL (l.take (m + 1))).map (Value.int .i64))) := Lib.hid (by rw [HT.out, List.map_append]; exact hp6.1)
      have HB6 : Hid (Below w.heap.size w w6) := Lib.hid (HBT.out.grown hp6.2.1 HBT.out.size (fun b hb' => own_base HOT.out b hb'))
      clear hp6
      go_wp2_with fail
      go_roundw
      case rel => exact ⟨m + 1, m + 1, _, cap6, by omega, by go_num, rfl, rfl, HO6, HB6⟩
      case measure => simp [intOf]; omega
    · obtain rfl : m = n := by omega
      have ho9 := ho.out
      rw [List.take_of_length_le (by rw [HL.out]; exact Nat.le_refl _)] at ho9
      obtain ⟨A9, c9, e9, hi9⟩ := IS.of_own ho9 (by have := H64.out; unfold lim; omega)
      injection e9 with e91 e92 e93
      subst e91 e93
      have HI := Lib.hid hi9
      clear ho9 hi9 e92
      go_wp2_with fail
      go_ret
      exact ⟨A1, c1, rfl, HI.out, hb.out⟩
end Go.Proofs.Ytakedococfklgaa
/- A row of byte slices that the call owns (empty ones too), and the reference kinkeepref10.Through. -/
namespace Go.Proofs.Ytakedococfklgaa
open Go.RowKit Gf

def OwnR (w : World) (base : Nat) (v : Value) (n : Nat) (m : List (List UInt8)) : Prop :=
  m.length = n ∧ ∃ ps : List Value, ps.length = n ∧ w.ownsRow base 22 1 v n ps ∧ ∀ j, j < n → ∃ A k c, ps[j]? = some (.slice A k c) ∧ BS w A k c (gR m j) ∧ (0 < k → AtB A (fun b => v.ownBlock ≠ some b))
theorem OwnR.nil (w : World) (base : Nat) : OwnR w base (.slice none 0 0) 0 [] := ⟨rfl, [], rfl, World.ownsRow_nil _ _ _ _, fun j hj => absurd hj (by omega)⟩
theorem OwnR.ms {w : World} {base : Nat} {v : Value} {n : Nat} {m : List (List UInt8)} (h : OwnR w base v n m) (hn : n * 24 ≤ lim) : ∃ A c, v = .slice A n c ∧ MS w A n c m := by
  obtain ⟨hm, ps, _, hown, hps⟩ := h
  rcases hown.2 with ⟨rfl, rfl⟩ | ⟨g, cap, cur, rfl, _, hh, hnc, _, hsz, htk⟩
  · exact ⟨none, 0, rfl, hm, Nat.le_refl _, hn, fun k hk => absurd hk (by omega)⟩
  · refine ⟨some ⟨g, 0, none⟩, cap, rfl, hm, hnc, hn, fun k hk => ?_⟩
    obtain ⟨A, k', c, h1, h2, _⟩ := hps k hk
    exact ⟨g, 0, A, k', c, rfl, by rw [Nat.zero_add, hown.cellAt k (by omega)]; exact h1, h2⟩
theorem OwnR.kept {w w' : World} {base : Nat} {v : Value} {n : Nat} {m : List (List UInt8)} (h : OwnR w base v n m) (hb : Below w.heap.size w w') : OwnR w' base v n m := by
  obtain ⟨hm, ps, hl, hown, hps⟩ := h
  refine ⟨hm, ps, hl, Kp.own (S := fun _ => False) (Kp.of_below hb) hown (fun _ _ => id), fun j hj => ?_⟩
  obtain ⟨A, k, c, h1, h2, h3⟩ := hps j hj
  exact ⟨A, k, c, h1, h2.kept hb, h3⟩
theorem OwnR.base {w : World} {base : Nat} {v : Value} {n : Nat} {m : List (List UInt8)} (h : OwnR w base v n m) : ∀ k, v.ownBlock = some k → base ≤ k ∧ k < w.heap.size := fun k hk => by
  obtain ⟨_, ps, _, hown, _⟩ := h
  exact hown.lt k hk
theorem gR_app_left {m m' : List (List UInt8)} {j : Nat} (h : j < m.length) : gR (m ++ m') j = gR m j := by
  unfold gR; rw [List.getD_eq_getElem?_getD, List.getD_eq_getElem?_getD, List.getElem?_append_left h]
theorem gR_app_self {m : List (List UInt8)} {l : List UInt8} : gR (m ++ [l]) m.length = l := by
  unfold gR; rw [List.getD_eq_getElem?_getD, List.getElem?_append_right (Nat.le_refl _), Nat.sub_self]; rfl
theorem OwnR.push {w w' : World} {base : Nat} {v v' : Value} {n : Nat} {m : List (List UInt8)} {ps : List Value} (hm : m.length = n) (hpl : ps.length = n)
    (hps : ∀ j, j < n → ∃ A k c, ps[j]? = some (.slice A k c) ∧ BS w A k c (gR m j) ∧ (0 < k → AtB A (fun b => v.ownBlock ≠ some b)))
    {A : Option Addr} {k c : Nat} {l : List UInt8} (hl : BS w A k c l) (hA : 0 < k → AtB A (fun b => v.ownBlock ≠ some b))
    (hp : AppPost base 22 v n 1 (ps ++ [.slice A k c]) v' w w') : OwnR w' base v' (n + 1) (m ++ [l]) := by
  have hK : Kp (fun b => v.ownBlock = some b) w w' := (Kp.refl _ _).grown hp.2.1 (fun _ e => .inl e)
  have hrow : ∀ (A : Option Addr) (k c : Nat) (l : List UInt8), BS w A k c l → (0 < k → AtB A (fun b => v.ownBlock ≠ some b)) → BS w' A k c l ∧ (0 < k → AtB A (fun b => v'.ownBlock ≠ some b)) := by
    intro A k c l hb hA
    refine ⟨⟨hb.1, hb.2.1, hb.2.2.1, fun i hi => ?_⟩, fun h0 a e e' => ?_⟩
    · obtain ⟨g, o, e, hc⟩ := hb.2.2.2 i hi
      exact ⟨g, o, e, hK.cell hc (hA (by omega) ⟨g, o, none⟩ e)⟩
    · rcases hp.2.2 with h1 | h1
      · exact hA h0 a e (h1.symm.trans e')
      · obtain ⟨g', o', e2, hc⟩ := hb.2.2.2 0 h0
        rw [e] at e2
        injection e2 with e2
        have := cell_lt hc
        rw [h1] at e'
        injection e' with e'
        rw [e2] at e'
        simp only at this e'
        omega
  refine ⟨by simp [hm], ps ++ [.slice A k c], by simp [hpl], hp.1, fun j hj => ?_⟩
  by_cases hjn : j < n
  · obtain ⟨A1, k1, c1, h1, h2, h3⟩ := hps j hjn
    obtain ⟨r1, r2⟩ := hrow A1 k1 c1 _ h2 h3
    exact ⟨A1, k1, c1, by rw [List.getElem?_append_left (by omega)]; exact h1, by rw [gR_app_left (by omega)]; exact r1, r2⟩
  · obtain rfl : j = n := by omega
    obtain ⟨r1, r2⟩ := hrow A k c l hl hA
    exact ⟨A, k, c, by rw [List.getElem?_append_right (by omega), hpl, Nat.sub_self]; rfl, by rw [← hm, gR_app_self]; exact r1, r2⟩

/-- The sharing through shares: k polynomials. -/
def shgK (l : List (Int × List UInt8)) (k : Nat) : List (List UInt8) := (List.range k).map fun b => Py.itP (coX l) (coY l b)
theorem shgK_length (l : List (Int × List UInt8)) (k : Nat) : (shgK l k).length = k := by rw [shgK, List.length_map, List.length_range]
theorem shgK_succ (l : List (Int × List UInt8)) (k : Nat) : shgK l (k + 1) = shgK l k ++ [Py.itP (coX l) (coY l k)] := by
  rw [shgK, List.range_succ, List.map_append]; rfl
end Go.Proofs.Ytakedococfklgaa
/- Contract of the reference kinkeepref10.Through. -/
namespace Go.Proofs.Ytakedococfklgaa
open Go.RowKit Gf

theorem coX_take {l : List (Int × List UInt8)} {k : Nat} (h : k < l.length) : (coX l).take (k + 1) = (coX l).take k ++ [gX l k] := by
  have h1 : k < (coX l).length := by rw [coX, tab_length]; exact h
  rw [List.take_succ_eq_append_getElem h1, ← gB_eq h1, coX, gB_tab _ h]
theorem coY_take {l : List (Int × List UInt8)} {b k : Nat} (h : k < l.length) : (coY l b).take (k + 1) = (coY l b).take k ++ [gB (gS l k).2 b] := by
  have h1 : k < (coY l b).length := by rw [coY, tab_length]; exact h
  rw [List.take_succ_eq_append_getElem h1, ← gB_eq h1, coY, gB_tab _ h]
def ThRet (m : List (List UInt8)) (w : World) (e : Ending) (w' : World) : Prop := ∃ v, e = .returned v ∧ OwnR w' w.heap.size v m.length m ∧ Below w.heap.size w w'

set_option maxRecDepth 100000 in
set_option maxHeartbeats 2000000 in
theorem rthrough_any (A : Option Addr) (n c L : Nat) (l : List (Int × List UInt8)) (w : World) (h : SS w A n c l) (h64 : n ≤ 64) (hE : Eql l L) (hL : L ≤ 100000) (hx : ∀ k, k < n → 1 ≤ (gS l k).1 ∧ (gS l k).1 ≤ 255) (hd : Py.Dst (coX l)) :
    Calls Try.prog 51 #[.slice A n c, .int .i64 (L : Int)] w (ThRet (shgK l L) w) := by
  have hn := h.len_le
  have H := Lib.hid h
  have HLn := Lib.hid h.1
  have H64 := Lib.hid h64
  have HE := Lib.hid hE
  have HX := Lib.hid hx
  have HD := Lib.hid hd
  have HLL := Lib.hid hL
  have hLb : (L : Int) ≤ 100000 := by omega
  clear h h64 hE hx hd hL
  go_enter Try.func51, Try.ntmps51
  go_wp2_with fail
  go_loopw [5, 6] (fun v i wr => ∃ k : Nat, k ≤ L ∧ i = .int .i64 (k : Int) ∧ Hid (OwnR wr w.heap.size v k (shgK l k)) ∧ Hid (Below w.heap.size w wr)) (fun _ i _ => L - (intOf i).toNat)
  case atStart => exact ⟨0, by omega, rfl, Lib.hid (OwnR.nil _ _), Lib.hid (Below.refl _ _)⟩
  case round =>
    obtain ⟨b, hb', rfl, ho, hb⟩ := hrel
    by_cases hlt : b < L
    · obtain ⟨w1, rfl⟩ : ∃ w1, w1 = wr := ⟨_, rfl⟩
      go_wp2_with fail
      go_loopw [7, 8, 18] (fun v v' j wr => ∃ (k m1 m2 : Nat) (A1 A2 : Option Addr) (c1 c2 : Nat), k ≤ n ∧ j = .int .i64 (k : Int) ∧ m1 = k ∧ m2 = k ∧ v = .slice A1 m1 c1 ∧ v' = .slice A2 m2 c2 ∧ Hid (R2 w1.heap.size wr (.slice A1 m1 c1) (.slice A2 m2 c2) ((coX l).take k) ((coY l b).take k)) ∧ Hid (Below w1.heap.size w1 wr)) (fun _ _ j _ => n - (intOf j).toNat)
      case atStart => exact ⟨0, 0, 0, none, none, 0, 0, by omega, rfl, rfl, rfl, rfl, rfl, Lib.hid (R2.nil _ _), Lib.hid (Below.refl _ _)⟩
      case round =>
        obtain ⟨k, m1, m2, A1, A2, c1, c2, hk, rfl, hm1, hm2, rfl, rfl, hr, hb2⟩ := hrel
        subst hm1
        subst hm2
        by_cases hlk : m2 < n
        · obtain ⟨g3, o3, A3, n3, c3, rfl, q1, q2, q3⟩ := H.out.at_ (below_then hb.out hb2.out) hlk
          obtain rfl : n3 = L := by rw [← q3.1]; exact HE.out m2 (by rw [HLn.out]; exact hlk)
          obtain ⟨g4, o4, rfl, q4⟩ := q3.at_ (Below.refl _ _) hlt
          obtain ⟨x, hx⟩ : ∃ x, x = gX l m2 := ⟨_, rfl⟩
          obtain ⟨y, hy⟩ : ∃ y, y = gB (gS l m2).2 b := ⟨_, rfl⟩
          have HXV : Hid ((gS l m2).1 = bv x) := Lib.hid (by rw [hx]; exact gX_eq (by have := HX.out m2 hlk; omega) (by have := HX.out m2 hlk; omega))
          rw [HXV.out] at q1
          rw [← hy] at q4
          have HTX : Hid ((coX l).take (m2 + 1) = (coX l).take m2 ++ [x]) := Lib.hid (by rw [coX_take (by rw [HLn.out]; exact hlk), hx])
          have HTY : Hid ((coY l b).take (m2 + 1) = (coY l b).take m2 ++ [y]) := Lib.hid (by rw [coY_take (by rw [HLn.out]; exact hlk), hy])
          have hxw := bv_wrap x
          have hx0 := bv_lo x
          have hx1 := bv_hi x
          have hbs := kb1 wr (.cells #[.int .i64 (bv x), .slice (some ⟨g4, o4, none⟩) n3 c3] 33)
          have ks := Blk.new wr 33 #[.int .i64 (bv x), .slice (some ⟨g4, o4, none⟩) n3 c3]
          have hb6 := kb1 (wr.alloc (.cells #[.int .i64 (bv x), .slice (some ⟨g4, o4, none⟩) n3 c3] 33)) (.cells #[B x] 5)
          have HR6 := Lib.hid ((hr.out.kept hbs).kept hb6)
          have HBb := Lib.hid (below_then hb2.out (below_then hbs hb6))
          have HKS := Lib.hid (ks.kept hb6)
          have HBK : Hid (BS ((wr.alloc (.cells #[.int .i64 (bv x), .slice (some ⟨g4, o4, none⟩) n3 c3] 33)).alloc (.cells #[B x] 5)) (some ⟨wr.heap.size + 1, 0, none⟩) 1 1 [x]) := Lib.hid (bs1 (blk_at (by simp) _ _))
          have HLX : Hid (((coX l).take m2).length = m2) := Lib.hid (by rw [List.length_take, coX, tab_length, HLn.out]; omega)
          have HLY : Hid (((coY l b).take m2).length = m2) := Lib.hid (by rw [List.length_take, coY, tab_length, HLn.out]; omega)
          have HO1 := Lib.hid (HR6.out.o1)
          rw [HLX.out] at HO1
          have HM1 : Hid (m2 + 1 ≤ 140737488355328) := Lib.hid (by have := H64.out; omega)
          have HQ : Hid (∀ w', Below w.heap.size w w' → w'.cell? ⟨g4, o4 + b, none⟩ = some (B y)) := Lib.hid (fun w' hw' => by
            obtain ⟨_, _, A9, n9, c9, e9, s1, s2, s3⟩ := H.out.2.2.2 m2 hlk
            cases e9
            have t2 := cell_kept (below_then hb.out hb2.out) s2
            rw [q2] at t2
            injection t2 with t2
            injection t2 with f1 f2 f3
            subst f1 f2 f3
            obtain ⟨_, _, e8, s8⟩ := s3.at_ hw' hlt
            cases e8
            rw [← hy] at s8
            exact s8)
          have FIN : Hid (∀ v6 w6, AppPost w1.heap.size 5 (.slice A1 m2 c1) m2 1 (((coX l).take m2 ++ [x]).map B) v6 ((wr.alloc (.cells #[.int .i64 (bv x), .slice (some ⟨g4, o4, none⟩) n3 c3] 33)).alloc (.cells #[B x] 5)) w6 → ∃ g6 cap6, v6 = .slice (some ⟨g6, 0, none⟩) (m2 + 1) cap6 ∧ Hid (R2 w1.heap.size (w6.alloc (.cells #[B y] 5)) (.slice (some ⟨g6, 0, none⟩) (m2 + 1) cap6) (.slice A2 m2 c2) ((coX l).take m2 ++ [x]) ((coY l b).take m2)) ∧ Hid ((w6.alloc (.cells #[B y] 5)).ownsRow w1.heap.size 5 1 (.slice A2 m2 c2) m2 (((coY l b).take m2).map B)) ∧ Hid (BS (w6.alloc (.cells #[B y] 5)) (some ⟨w6.heap.size, 0, none⟩) 1 1 [y]) ∧ Hid (Below w1.heap.size w1 (w6.alloc (.cells #[B y] 5))) ∧ w6.cell? ⟨wr.heap.size, 1, none⟩ = some (.slice (some ⟨g4, o4, none⟩) n3 c3) ∧ w6.cell? ⟨g4, o4 + b, none⟩ = some (B y)) := Lib.hid (fun v6 w6 hp6 => by
            have hr7 : R2 w1.heap.size w6 v6 (.slice A2 m2 c2) ((coX l).take m2 ++ [x]) ((coY l b).take m2) := HR6.out.app1 (by rw [HLX.out]; rw [List.map_append] at hp6; exact hp6)
            obtain ⟨m6, g6, cap6, hm6, rfl⟩ := own_form (by omega) hp6.1
            subst hm6
            have hb16 : Below w1.heap.size w1 w6 := HBb.out.grown hp6.2.1 HBb.out.size (fun b hb' => own_base HO1.out b hb')
            have hks6 := grown_blk hp6.2.1 HKS.out (own_ne HO1.out HKS.out (by decide))
            have hb7 := kb1 w6 (.cells #[B y] 5)
            have hr8 := hr7.kept hb7
            have ho2 := hr8.o2
            rw [HLY.out] at ho2
            exact ⟨g6, cap6, rfl, Lib.hid hr8, Lib.hid ho2, Lib.hid (bs1 (Blk.new w6 _ _)), Lib.hid (below_then hb16 hb7), by rw [hks6.cell]; rfl, HQ.out w6 (below_then hb.out hb16)⟩)
          clear hx hy q3 q4 hbs ks hb6
          go_wp2_with (first
            | (at_builtin; refine wpList_appB _ rfl (.tmp 22) (.tmp 26) rfl w1.heap.size (.slice A1 m2 c1) m2 _ rfl HO1.out _ 1 1 [x] rfl HBK.out HM1.out HBb.out.size ?_; intro v6 w6 hp6; obtain ⟨g6, cap6, rfl, HR7, HO2, HBK2, HB7, p1, p2⟩ := FIN.out v6 w6 hp6; clear hp6)
            | (at_builtin; refine wpList_appB _ rfl (.tmp 28) (.tmp 34) rfl w1.heap.size (.slice A2 m2 c2) m2 _ rfl HO2.out _ 1 1 [y] rfl HBK2.out HM1.out HB7.out.size ?_; intro v8 w8 hp8))
          have hr9 : R2 w1.heap.size w8 (.slice (some ⟨g6, 0, none⟩) (m2 + 1) cap6) v8 ((coX l).take m2 ++ [x]) ((coY l b).take m2 ++ [y]) := HR7.out.app2 (by rw [HLY.out]; rw [List.map_append] at hp8; exact hp8)
          obtain ⟨m8, g8, cap8, hm8, rfl⟩ := own_form (by omega) hp8.1
          subst hm8
          have HB8 : Hid (Below w1.heap.size w1 w8) := Lib.hid (HB7.out.grown hp8.2.1 HB7.out.size (fun b hb' => own_base HO2.out b hb'))
          have HR9 : Hid (R2 w1.heap.size w8 (.slice (some ⟨g6, 0, none⟩) (m2 + 1) cap6) (.slice (some ⟨g8, 0, none⟩) (m2 + 1) cap8) ((coX l).take (m2 + 1)) ((coY l b).take (m2 + 1))) := Lib.hid (by rw [HTX.out, HTY.out]; exact hr9)
          clear hp8 hr9 p1 p2
          go_roundw
          case rel => exact ⟨m2 + 1, m2 + 1, m2 + 1, _, _, cap6, cap8, by omega, by go_num, rfl, rfl, rfl, rfl, HR9, HB8⟩
          case measure => simp [intOf]; omega
        · obtain rfl : m2 = n := by omega
          have hr0 := hr.out
          rw [List.take_of_length_le (by rw [coX, tab_length, HLn.out]; exact Nat.le_refl _), List.take_of_length_le (by rw [coY, tab_length, HLn.out]; exact Nat.le_refl _)] at hr0
          have o1 := hr0.o1
          have o2 := hr0.o2
          rw [show (coX l).length = m2 by rw [coX, tab_length, HLn.out]] at o1
          rw [show (coY l b).length = m2 by rw [coY, tab_length, HLn.out]] at o2
          obtain ⟨_, _, e1, b1⟩ := BS.of_own o1 (by have := H64.out; unfold lim; omega)
          cases e1
          obtain ⟨_, _, e2, b2⟩ := BS.of_own o2 (by have := H64.out; unfold lim; omega)
          cases e2
          have HB1 := Lib.hid b1
          have HB2 := Lib.hid b2
          have HOW := Lib.hid (ho.out.kept hb2.out)
          have HOB := Lib.hid ho.out.base
          have HBw := Lib.hid (below_then hb.out hb2.out)
          have HSZ := Lib.hid hb2.out.size
          have H1000 : Hid (m2 ≤ 1000) := Lib.hid (by have := H64.out; omega)
          clear hr0 o1 o2 b1 b2
          go_wp2_with fail
          refine (rinterp_any A1 A2 m2 c1 c2 (coX l) (coY l b) wr HB1.out HB2.out H1000.out HD.out).mono ?_
          rintro e w6 ⟨v6, rfl, A6, n6, c6, rfl, hb6, ha6, hx6⟩
          have hb7 := kb1 w6 (.cells #[.slice A6 n6 c6] 22)
          have hb67 := below_then hx6 hb7
          obtain ⟨hm7, ps, hpl, hown7, hps7⟩ := HOW.out.kept hb67
          have HW7 := Lib.hid hown7
          have HPS7 := Lib.hid hps7
          have HM7 := Lib.hid hm7
          have HPL := Lib.hid hpl
          have H7 := Lib.hid (hb6.kept hb7)
          have HA6 := Lib.hid ha6
          have HB7 := Lib.hid (below_then HBw.out hb67)
          have HK24 : Hid ((b + 1) * 24 ≤ 140737488355328) := Lib.hid (by have := HLL.out; omega)
          have HKb : Hid (b < 140737488355328) := Lib.hid (by have := HLL.out; omega)
          clear hb6 ha6 hx6 hb7 hb67 hm7 hpl hown7 hps7
          go_wp2_with (first
            | (at_builtin; refine wpList_app1 _ rfl (.tmp 37) (.tmp 41) _ 22 (.slice none 0 0) 24 (by kernel_rfl) infoBytes rfl rfl w.heap.size u5 b ps rfl HW7.out w6.heap.size 1 22 (.slice A6 n6 c6) rfl (Blk.new w6 _ _) rfl HK24.out HKb.out HB7.out.size ?_; intro v8 w8 hp8))
          have hfar : 0 < n6 → AtB A6 (fun b => u5.ownBlock ≠ some b) := fun _ a e e' => by
            have h1 := HA6.out a e
            have h2 := (HOB.out a.block e').2
            have h3 := HSZ.out
            omega
          have HO8 : Hid (OwnR w8 w.heap.size v8 (b + 1) (shgK l (b + 1))) := Lib.hid (by
            rw [shgK_succ]
            exact OwnR.push HM7.out HPL.out HPS7.out H7.out hfar hp8)
          have HB8 : Hid (Below w.heap.size w w8) := Lib.hid (HB7.out.grown hp8.2.1 HB7.out.size (fun b hb' => (HOB.out b hb').1))
          clear hp8 hfar
          go_wp2_with fail
          go_roundw
          case rel => exact ⟨b + 1, by omega, by go_num, HO8, HB8⟩
          case measure => simp [intOf]; omega
    · obtain rfl : b = L := by omega
      have HF : Hid (OwnR wr w.heap.size u5 (shgK l b).length (shgK l b)) := Lib.hid (by rw [shgK_length]; exact ho.out)
      go_wp2_with fail
      go_ret
      exact ⟨_, rfl, HF.out, hb.out⟩
end Go.Proofs.Ytakedococfklgaa
/- Contract of the reference kinkeepref10.Share. -/
namespace Go.Proofs.Ytakedococfklgaa
open Go.RowKit Gf

/-- The polynomial of byte b: the secret's byte, then those of j lists. -/
def spP (s : List UInt8) (co : List (List UInt8)) (b : Nat) : List UInt8 := gB s b :: co.map (fun r => gB r b)
/-- The bytes of a share. -/
def spK (s : List UInt8) (co : List (List UInt8)) (X : UInt8) (k : Nat) : List UInt8 := tab k (fun b => rv (spP s co b) X)
theorem spK_length (s : List UInt8) (co : List (List UInt8)) (X : UInt8) (k : Nat) : (spK s co X k).length = k := tab_length _ _
theorem spK_succ (s : List UInt8) (co : List (List UInt8)) (X : UInt8) (k : Nat) : spK s co X (k + 1) = spK s co X k ++ [rv (spP s co k) X] := by
  unfold spK tab; rw [List.range_succ, List.map_append]; rfl

def RShRet (x : Int) (d : List UInt8) (w : World) (e : Ending) (w' : World) : Prop :=
  ∃ A c, e = .returned (.agg #[.int .i64 x, .slice A d.length c]) ∧ BS w' A d.length c d ∧ Below w.heap.size w w' ∧ (0 < d.length → AtB A (fun b => w.heap.size ≤ b))

set_option maxRecDepth 100000 in
set_option maxHeartbeats 1000000 in
theorem rshare_any (As Ac : Option Addr) (n cs nc cc : Nat) (s : List UInt8) (co : List (List UInt8)) (x : Int) (w : World) (hs : BS w As n cs s) (hc : MS w Ac nc cc co) (hr : ∀ j, j < nc → (gR co j).length = n) (hnc : nc ≤ 200) (hn : n ≤ 100000) (hx0 : 0 ≤ x) (hx1 : x ≤ 255) :
    Calls Try.prog 16 #[.slice As n cs, .slice Ac nc cc, .int .i64 x] w (RShRet x (spK s co (UInt8.ofNat x.toNat) n) w) := by
  have HS := Lib.hid hs
  have HC := Lib.hid hc
  have HR := Lib.hid hr
  have HLC := Lib.hid hc.1
  obtain ⟨X, hX⟩ : ∃ X, X = UInt8.ofNat x.toNat := ⟨_, rfl⟩
  have hxX : bv X = x := by rw [hX]; exact bv_ofNat x hx0 (by omega)
  rw [← hX]
  have HNN := Lib.hid hn
  have HNC := Lib.hid hnc
  have HE := Lib.hid (show nc + 1 ≤ 255 by omega)
  have hn2 := hs.len_le
  have hnc2 := hc.len_le
  clear hX hs hc hr hn hnc
  have hXB : Value.int .u8 (IntKind.u8.wrap x) = B X := by rw [← hxX, bv_wrap]
  have HXB := Lib.hid hXB
  clear hXB hxX
  go_enter Try.func16, Try.ntmps16
  go_wp2_with fail
  obtain ⟨gd, hgd⟩ : ∃ gd, gd = w.heap.size + 1 := ⟨_, rfl⟩
  have hgw : w.heap.size ≠ gd := by omega
  have HB0 : Hid (Below w.heap.size w ((w.alloc (.cells #[.int .i64 0, .slice none 0 0] 33)).alloc (.cells #[.int .i64 x, .slice none 0 0] 33))) := Lib.hid (below_then (kb1 w _) (kb1 _ _))
  have HK0 : Hid (Blk ((w.alloc (.cells #[.int .i64 0, .slice none 0 0] 33)).alloc (.cells #[.int .i64 x, .slice none 0 0] 33)) w.heap.size 33 #[.int .i64 0, .slice none 0 0]) := Lib.hid ((blk_at rfl _ _).alloc _)
  have HK1 : Hid (Blk ((w.alloc (.cells #[.int .i64 0, .slice none 0 0] 33)).alloc (.cells #[.int .i64 x, .slice none 0 0] 33)) gd 33 #[.int .i64 x, .slice none 0 0]) := Lib.hid (blk_at (by rw [hgd]; simp) _ _)
  have HGD := Lib.hid hgd
  rw [← hgd]
  clear hgd
  go_loopw [16] (fun i wr => ∃ (k : Nat) (A : Option Addr) (c : Nat), k ≤ n ∧ i = .int .i64 (k : Int) ∧ Hid (Blk wr gd 33 #[.int .i64 x, .slice A k c]) ∧ Hid (wr.ownsRow w.heap.size 5 1 (.slice A k c) k ((spK s co X k).map B)) ∧ Hid (Blk wr w.heap.size 33 #[.int .i64 0, .slice none 0 0]) ∧ Hid (Below w.heap.size w wr)) (fun i _ => n - (intOf i).toNat)
  case atStart => exact ⟨0, none, 0, by omega, rfl, HK1, Lib.hid (World.ownsRow_nil _ _ _ _), HK0, HB0⟩
  case round =>
    clear HB0 HK0 HK1
    obtain ⟨k, A, c, hk, rfl, hd, ho, h0, hb⟩ := hrel
    by_cases hlt : k < n
    · obtain ⟨g, o, rfl, hc⟩ := HS.out.at_ hb.out hlt
      obtain ⟨y, hy⟩ : ∃ y, y = gB s k := ⟨_, rfl⟩
      rw [← hy] at hc
      have HY := Lib.hid hy
      clear hy
      obtain ⟨w1, rfl⟩ : ∃ w1, w1 = wr := ⟨_, rfl⟩
      go_wp2_with fail
      go_loopw [9, 26] (fun v i wr => ∃ (j m : Nat) (A2 : Option Addr) (c2 : Nat), j ≤ nc ∧ i = .int .i64 (j : Int) ∧ m = j + 1 ∧ v = .slice A2 m c2 ∧ Hid (wr.ownsRow w1.heap.size 5 1 (.slice A2 m c2) m ((y :: (co.take j).map (fun r => gB r k)).map B)) ∧ Hid (Below w1.heap.size w1 wr)) (fun _ i _ => nc - (intOf i).toNat)
      case atStart => exact ⟨0, 1, _, 1, by omega, rfl, rfl, rfl, Lib.hid (own_one w1 y), Lib.hid (kb1 _ _)⟩
      case round =>
        obtain ⟨j, m, A2, c2, hj, rfl, hm, rfl, ho2, hb2⟩ := hrel
        by_cases hlj : j < nc
        · obtain ⟨g3, o3, A3, n3, c3, rfl, hc3, hr3⟩ := HC.out.at_ (below_then hb.out hb2.out) hlj
          obtain rfl : n3 = n := by rw [← hr3.1]; exact HR.out j hlj
          obtain ⟨g4, o4, rfl, hc4⟩ := hr3.at_ (Below.refl _ _) hlt
          obtain ⟨z, hz⟩ : ∃ z, z = gB (gR co j) k := ⟨_, rfl⟩
          rw [← hz] at hc4
          have HTK : Hid ((y :: (co.take (j + 1)).map (fun r => gB r k)) = (y :: (co.take j).map (fun r => gB r k)) ++ [z]) := Lib.hid (by
            have hj' : j < co.length := by rw [HLC.out]; exact hlj
            rw [List.take_succ_eq_append_getElem hj', List.map_append, hz, gR_eq hj']; rfl)
          have hbT : Below wr.heap.size wr (wr.alloc (.cells #[B z] 5)) := kb1 _ _
          have HOT := Lib.hid (Kp.own (S := fun _ => False) (Kp.of_below hbT) ho2.out (fun _ _ => id))
          have HBT := Lib.hid (below_then hb2.out hbT)
          have HBK : Hid (BS (wr.alloc (.cells #[B z] 5)) (some ⟨wr.heap.size, 0, none⟩) 1 1 [z]) := Lib.hid (bs1 (Blk.new wr _ _))
          have HMM : Hid (m + 1 ≤ 140737488355328) := Lib.hid (by have := HNC.out; omega)
          clear hbT hr3 hz
          go_wp2_with (first
            | (at_builtin; refine wpList_appB _ rfl (.tmp 30) (.tmp 35) rfl w1.heap.size (.slice A2 m c2) m _ rfl HOT.out _ 1 1 [z] rfl HBK.out HMM.out HBT.out.size ?_; intro v6 w6 hp6))
          obtain ⟨m6, g6, cap6, hm6, rfl⟩ := own_form (by omega) hp6.1
          have HR6 : Hid (w6.ownsRow w1.heap.size 5 1 (.slice (some ⟨g6, 0, none⟩) m6 cap6) m6 ((y :: (co.take (j + 1)).map (fun r => gB r k)).map B)) := Lib.hid (by
            have h1 := hp6.1
            rw [HTK.out]
            rw [← hm6] at h1
            exact h1)
          have HB6 : Hid (Below w1.heap.size w1 w6) := Lib.hid (HBT.out.grown hp6.2.1 HBT.out.size (fun b hb' => own_base HOT.out b hb'))
          have hm6k : m6 = j + 1 + 1 := by omega
          clear hp6 hm6
          go_wp2_with fail
          go_roundw
          case rel => exact ⟨j + 1, m6, _, cap6, by omega, by go_num, hm6k, rfl, HR6, HB6⟩
          case measure => simp [intOf]; omega
        · obtain rfl : j = nc := by omega
          have ho3 := ho2.out
          rw [List.take_of_length_le (by rw [HLC.out]; exact Nat.le_refl _)] at ho3
          have HPS : Hid (y :: co.map (fun r => gB r k) = spP s co k) := Lib.hid (by rw [HY.out]; rfl)
          rw [HPS.out] at ho3
          obtain ⟨A2', c2', e1, b1⟩ := BS.of_own ho3 (by have := HNC.out; unfold lim; omega)
          injection e1 with e11 e12 e13
          subst e11 e13
          subst hm
          have HBP : Hid (BS wr.drew A2 (j + 1) c2 (spP s co k)) := Lib.hid b1.drew
          have hd2 := hd.out.kept hb2.out
          have q5 : wr.cell? ⟨gd, 1, none⟩ = some (.slice A k c) := by rw [hd2.cell]; rfl
          have HD2 := Lib.hid hd2
          have HO2 := Lib.hid (Kp.own (S := fun _ => False) (Kp.of_below hb2.out) ho.out (fun _ _ => id))
          have H02 := Lib.hid (h0.out.kept hb2.out)
          have HBW := Lib.hid (below_then hb.out hb2.out)
          clear hd2 b1 ho3 hd ho h0 ho2 e12
          have hx2 : x < 256 := by omega
          go_wp2_with fail
          refine Text.wp_region_text (fun w' => w'.cell? ⟨gd, 1, none⟩ = some (.slice A k c)) [(0, 4), (2, 4), (3, 4), (4, 4), (1, 0), (5, 2), (6, 2), (7, 2), (8, 4), (9, 3)] (by kernel_rfl) (by kernel_rfl) (fun _ _ _ _ _ h => h) (q5) ?_
          iterate 4 (refine Text.purek rfl rfl (fun K hK => ⟨_, fun w' => by go_simp <;> rfl, ?_⟩); go_simp; refine hK _ ?_; clear hK K)
          (refine Text.heldk rfl rfl (fun K hK => ⟨_, fun w' hw' => by go_simp <;> rfl, ?_⟩); go_simp; refine hK _ ?_; clear hK K)
          refine Text.eff rfl rfl (fun K hK => ?_)
          go_simp
          rw [HXB.out]
          refine (reval_any A2 (j + 1) c2 (spP s co k) X wr.drew HBP.out HE.out).mono ?_
          rintro e w5 ⟨rfl, d, rfl⟩
          refine hK _ _ q5 ?_
          clear hK K
          refine Text.eff rfl rfl (fun K hK => ?_)
          go_simp
          obtain ⟨Y, hY⟩ : ∃ Y, Y = rv (spP s co k) X := ⟨_, rfl⟩
          rw [← hY]
          obtain ⟨W6, hW6⟩ : ∃ W, W = (wr.drewN (1 + d)).alloc (.cells #[B Y] 5) := ⟨_, rfl⟩
          have hb6 : Below wr.heap.size wr W6 := by rw [hW6]; exact (below_drewN (Below.refl _ wr) _).alloc (Nat.le_refl _) _
          have hk6 : Blk W6 wr.heap.size 5 #[B Y] := by rw [hW6]; exact Blk.new (wr.drewN (1 + d)) _ _
          rw [← hW6]
          refine hK _ _ (cell_kept hb6 q5) ?_
          clear hK K
          have q6 := cell_kept hb6 q5
          have HBK6 : Hid (BS W6 (some ⟨wr.heap.size, 0, none⟩) 1 1 [Y]) := Lib.hid (bs1 hk6)
          have HO6 := Lib.hid (Kp.own (S := fun _ => False) (Kp.of_below hb6) HO2.out (fun _ _ => id))
          have HD6 := Lib.hid (HD2.out.kept hb6)
          have H06 := Lib.hid (H02.out.kept hb6)
          have HBW6 := Lib.hid (below_then HBW.out hb6)
          have HYY := Lib.hid hY
          clear hb6 hk6 hW6 hY
          refine Text.eff rfl rfl (fun K hK => ?_)
          have HKK : Hid (k + 1 ≤ 140737488355328) := Lib.hid (by have := HNN.out; omega)
          refine wp_appB W6 (.tmp 39) (.tmp 44) rfl w.heap.size (.slice A k c) k _ rfl HO6.out (some ⟨wr.heap.size, 0, none⟩) 1 1 [Y] rfl HBK6.out HKK.out HBW6.out.size ?_
          intro v7 w7 hp7
          obtain ⟨m7, g7, cap7, hm7, rfl⟩ := own_form (by omega) hp7.1
          subst hm7
          have hne := own_ne HO6.out HD6.out (by decide)
          have hD7 := grown_blk hp7.2.1 HD6.out hne
          have hne0 := own_ne HO6.out H06.out (by decide)
          have H07 := Lib.hid (grown_blk hp7.2.1 H06.out hne0)
          have q7 : w7.cell? ⟨gd, 1, none⟩ = some (.slice A k c) := by rw [hD7.cell]; rfl
          have q8 := hD7.frozen 1
          have HB7 : Hid (Below w.heap.size w w7) := Lib.hid (HBW6.out.grown hp7.2.1 HBW6.out.size (fun b hb' => own_base HO6.out b hb'))
          have HD7 := Lib.hid hD7
          have hK8 : Kp (fun b => b = gd) w7 (w7.setCell ⟨gd, 1, none⟩ (.slice (some ⟨g7, 0, none⟩) (k + 1) cap7)) := (Kp.refl (fun b => b = gd) w7).set (p := ⟨gd, 1, none⟩) (.inl rfl) _
          have HO8 : Hid ((w7.setCell ⟨gd, 1, none⟩ (.slice (some ⟨g7, 0, none⟩) (k + 1) cap7)).ownsRow w.heap.size 5 1 (.slice (some ⟨g7, 0, none⟩) (k + 1) cap7) (k + 1) ((spK s co X (k + 1)).map B)) := Lib.hid (by
            rw [spK_succ, ← HYY.out]
            exact hK8.own hp7.1 (fun g hg e => own_ne hp7.1 HD7.out (by decide) (by rw [hg, e])))
          have HD8 : Hid (Blk (w7.setCell ⟨gd, 1, none⟩ (.slice (some ⟨g7, 0, none⟩) (k + 1) cap7)) gd 33 #[.int .i64 x, .slice (some ⟨g7, 0, none⟩) (k + 1) cap7]) := Lib.hid (HD7.out.set_ 1 _)
          have H08 : Hid (Blk (w7.setCell ⟨gd, 1, none⟩ (.slice (some ⟨g7, 0, none⟩) (k + 1) cap7)) w.heap.size 33 #[.int .i64 0, .slice none 0 0]) := Lib.hid (hK8.blk H07.out hgw)
          have HB8 : Hid (Below w.heap.size w (w7.setCell ⟨gd, 1, none⟩ (.slice (some ⟨g7, 0, none⟩) (k + 1) cap7))) := Lib.hid (HB7.out.setCell (show w.heap.size ≤ gd by have := HGD.out; omega) _)
          refine hK _ _ q7 ?_
          clear hK K hne hne0 hD7 hp7 hK8
          (refine Text.purek rfl rfl (fun K hK => ⟨_, fun w' => by go_simp <;> rfl, ?_⟩); go_simp; refine hK _ ?_; clear hK K)
          refine Text.last rfl rfl (fun K hK => ?_)
          go_simp
          refine hK _ _ ?_
          clear hK K
          refine Text.done ?_
          go_wp2_with fail
          go_roundw
          case rel => exact ⟨k + 1, _, cap7, by omega, by go_num, HD8, HO8, H08, HB8⟩
          case measure => simp [intOf]; omega
    · obtain rfl : k = n := by omega
      have q6 : wr.cell? ⟨gd, 0, none⟩ = some (.int .i64 x) := by rw [hd.out.cell]; rfl
      have q7 : wr.cell? ⟨gd, 1, none⟩ = some (.slice A k c) := by rw [hd.out.cell]; rfl
      have q8 : wr.cell? ⟨w.heap.size, 0, none⟩ = some (.int .i64 0) := by rw [h0.out.cell]; rfl
      have q9 := h0.out.frozen 0
      have h1 := h0.out.set_ 0 (.int .i64 x)
      have q10 : (wr.setCell ⟨w.heap.size, 0, none⟩ (.int .i64 x)).cell? ⟨w.heap.size, 1, none⟩ = some (.slice none 0 0) := by rw [h1.cell]; rfl
      have q11 := h1.frozen 1
      have h2 := h1.set_ 1 (.slice A k c)
      have q12 : ((wr.setCell ⟨w.heap.size, 0, none⟩ (.int .i64 x)).setCell ⟨w.heap.size, 1, none⟩ (.slice A k c)).cell? ⟨w.heap.size, 0, none⟩ = some (.int .i64 x) := by rw [h2.cell]; rfl
      have q13 : ((wr.setCell ⟨w.heap.size, 0, none⟩ (.int .i64 x)).setCell ⟨w.heap.size, 1, none⟩ (.slice A k c)).cell? ⟨w.heap.size, 1, none⟩ = some (.slice A k c) := by rw [h2.cell]; rfl
      clear h1 h2
      go_wp2_with fail
      refine bodyPost_ret (v := .agg #[.int .i64 x, .slice A k c]) (by simp [results, Try.results16, go_sem, q12, q13]) rfl ?_
      have hK : Kp (fun b => b = w.heap.size) wr ((wr.setCell ⟨w.heap.size, 0, none⟩ (.int .i64 x)).setCell ⟨w.heap.size, 1, none⟩ (.slice A k c)) := ((Kp.refl (fun b => b = w.heap.size) wr).set (p := ⟨w.heap.size, 0, none⟩) (.inl rfl) _).set (p := ⟨w.heap.size, 1, none⟩) (.inl rfl) _
      have hO := hK.own ho.out (fun g hg e => own_ne ho.out h0.out (by decide) (by rw [hg, e]))
      obtain ⟨A', c', e1, b1⟩ := BS.of_own hO (by have := HNN.out; unfold lim; omega)
      injection e1 with e11 e12 e13
      subst e11 e13
      refine ⟨A, c, by rw [spK_length], by rw [spK_length]; exact b1, (hb.out.setCell (Nat.le_refl _) _).setCell (Nat.le_refl _) _, fun h0' a ea => ?_⟩
      rw [ea] at hO
      exact own_base hO a.block rfl
end Go.Proofs.Ytakedococfklgaa
/- Contracts of the references Sharing.Below and Sharing.At of kinkeepref10. -/
namespace Go.Proofs.Ytakedococfklgaa
open Go.RowKit Gf

/-- All degrees are less than t. -/
def blB (m : List (List UInt8)) (t : Int) : Bool := (List.range m.length).all fun i => decide ((Py.tl (gR m i) : Int) - 1 < t)

set_option maxRecDepth 100000 in
set_option maxHeartbeats 1000000 in
theorem rbelow_any (A : Option Addr) (n c : Nat) (m : List (List UInt8)) (t : Int) (w : World) (h : MS w A n c m) :
    Calls Try.prog 57 #[.slice A n c, .int .i64 t] w (ChkB (blB m t) w) := by
  have hn := h.len_le
  have H := Lib.hid h
  have HL := Lib.hid h.1
  clear h
  go_enter Try.func57, Try.ntmps57
  go_wp2_with fail
  go_loopw [9] (fun i wr => ∃ k : Nat, k ≤ n ∧ i = .int .i64 (k : Int) ∧ Hid (∀ j, j < k → (Py.tl (gR m j) : Int) - 1 < t) ∧ Hid (Below w.heap.size w wr)) (fun i _ => n - (intOf i).toNat)
  case atStart => exact ⟨0, by omega, rfl, Lib.hid (fun j hj => absurd hj (by omega)), Lib.hid (Below.refl _ _)⟩
  case round =>
    obtain ⟨k, hk, rfl, hall, hb⟩ := hrel
    by_cases hlt : k < n
    · obtain ⟨g1, o1, A1, n1, c1, rfl, r1, r2⟩ := H.out.at_ hb.out hlt
      have HR := Lib.hid r2
      obtain ⟨d, hd⟩ : ∃ d, d = Py.tl (gR m k) := ⟨_, rfl⟩
      have HD := Lib.hid hd
      clear r2 hd
      by_cases e : t ≤ (d : Int) - 1
      · have q : decide (t ≤ (d : Int) - 1) = true := by simpa using e
        have HF : Hid (blB m t = false) := Lib.hid (by unfold blB; rw [List.all_eq_false]; exact ⟨k, List.mem_range.2 (by rw [HL.out]; exact hlt), by rw [← HD.out]; simp; omega⟩)
        clear e
        go_wp2_with fail
        refine (rdegree_any A1 n1 c1 (gR m k) wr HR.out).mono ?_
        rintro e w1 ⟨rfl, hx1⟩
        rw [← HD.out]
        have HB1 := Lib.hid (below_then hb.out hx1)
        clear hx1
        go_wp2_with fail
        go_ret
        exact ⟨ret_bool HF.out.symm, HB1.out⟩
      · have q : decide (t ≤ (d : Int) - 1) = false := by simpa using e
        have HA : Hid (∀ j, j < k + 1 → (Py.tl (gR m j) : Int) - 1 < t) := Lib.hid (fun j hj => by
          by_cases e' : j = k
          · rw [e', ← HD.out]; omega
          · exact hall.out j (by omega))
        clear e
        go_wp2_with fail
        refine (rdegree_any A1 n1 c1 (gR m k) wr HR.out).mono ?_
        rintro e w1 ⟨rfl, hx1⟩
        rw [← HD.out]
        have HB1 := Lib.hid (below_then hb.out hx1)
        clear hx1
        go_wp2_with fail
        go_roundw
        case rel => exact ⟨k + 1, by omega, by go_num, HA, HB1⟩
        case measure => simp [intOf]; omega
    · obtain rfl : k = n := by omega
      have HF : Hid (blB m t = true) := Lib.hid (by unfold blB; rw [List.all_eq_true]; intro i hi; rw [List.mem_range, HL.out] at hi; exact decide_eq_true (hall.out i hi))
      go_wp2_with fail
      go_ret
      exact ⟨ret_bool HF.out.symm, hb.out⟩

/-- The values at X of the first k polynomials. -/
def atK (m : List (List UInt8)) (X : UInt8) (k : Nat) : List UInt8 := tab k (fun b => Py.ev (gR m b) X)
theorem atK_length (m : List (List UInt8)) (X : UInt8) (k : Nat) : (atK m X k).length = k := tab_length _ _
theorem atK_succ (m : List (List UInt8)) (X : UInt8) (k : Nat) : atK m X (k + 1) = atK m X k ++ [Py.ev (gR m k) X] := by
  unfold atK tab; rw [List.range_succ, List.map_append]; rfl

set_option maxRecDepth 100000 in
set_option maxHeartbeats 1000000 in
theorem ratx_any (A : Option Addr) (n cs : Nat) (m : List (List UInt8)) (x : Int) (w : World) (h : MS w A n cs m) (hr : ∀ j, j < n → (gR m j).length ≤ 255) (hn : n ≤ 100000) (hx0 : 0 ≤ x) (hx1 : x ≤ 255) :
    Calls Try.prog 30 #[.slice A n cs, .int .i64 x] w (RShRet x (atK m (UInt8.ofNat x.toNat) n) w) := by
  have hn2 := h.len_le
  have H := Lib.hid h
  have HR := Lib.hid hr
  have HNN := Lib.hid hn
  obtain ⟨X, hX⟩ : ∃ X, X = UInt8.ofNat x.toNat := ⟨_, rfl⟩
  have hxX : bv X = x := by rw [hX]; exact bv_ofNat x hx0 (by omega)
  rw [← hX]
  have hXB : Value.int .u8 (IntKind.u8.wrap x) = B X := by rw [← hxX, bv_wrap]
  have HXB := Lib.hid hXB
  clear hX h hr hn hXB hxX
  go_enter Try.func30, Try.ntmps30
  go_wp2_with fail
  obtain ⟨gd, hgd⟩ : ∃ gd, gd = w.heap.size + 1 := ⟨_, rfl⟩
  have hgw : w.heap.size ≠ gd := by omega
  have HB0 : Hid (Below w.heap.size w ((w.alloc (.cells #[.int .i64 0, .slice none 0 0] 33)).alloc (.cells #[.int .i64 x, .slice none 0 0] 33))) := Lib.hid (below_then (kb1 w _) (kb1 _ _))
  have HK0 : Hid (Blk ((w.alloc (.cells #[.int .i64 0, .slice none 0 0] 33)).alloc (.cells #[.int .i64 x, .slice none 0 0] 33)) w.heap.size 33 #[.int .i64 0, .slice none 0 0]) := Lib.hid ((blk_at rfl _ _).alloc _)
  have HK1 : Hid (Blk ((w.alloc (.cells #[.int .i64 0, .slice none 0 0] 33)).alloc (.cells #[.int .i64 x, .slice none 0 0] 33)) gd 33 #[.int .i64 x, .slice none 0 0]) := Lib.hid (blk_at (by rw [hgd]; simp) _ _)
  have HGD := Lib.hid hgd
  rw [← hgd]
  clear hgd
  go_loopw [12] (fun i wr => ∃ (k : Nat) (A : Option Addr) (c : Nat), k ≤ n ∧ i = .int .i64 (k : Int) ∧ Hid (Blk wr gd 33 #[.int .i64 x, .slice A k c]) ∧ Hid (wr.ownsRow w.heap.size 5 1 (.slice A k c) k ((atK m X k).map B)) ∧ Hid (Blk wr w.heap.size 33 #[.int .i64 0, .slice none 0 0]) ∧ Hid (Below w.heap.size w wr)) (fun i _ => n - (intOf i).toNat)
  case atStart => exact ⟨0, none, 0, by omega, rfl, HK1, Lib.hid (World.ownsRow_nil _ _ _ _), HK0, HB0⟩
  case round =>
    clear HB0 HK0 HK1
    obtain ⟨k, A1, c, hk, rfl, hd, ho, h0, hb⟩ := hrel
    by_cases hlt : k < n
    · obtain ⟨g, o, A2, n2, c2, rfl, r1, r2⟩ := H.out.at_ hb.out hlt
      have HE : Hid (n2 ≤ 255) := Lib.hid (by rw [← r2.1]; exact HR.out k hlt)
      have HBP : Hid (BS wr.drew A2 n2 c2 (gR m k)) := Lib.hid r2.drew
      have q5 : wr.cell? ⟨gd, 1, none⟩ = some (.slice A1 k c) := by rw [hd.out.cell]; rfl
      have hx2 : x < 256 := by omega
      clear r2
      go_wp2_with fail
      refine Text.wp_region_text (fun w' => w'.cell? ⟨gd, 1, none⟩ = some (.slice A1 k c)) [(0, 4), (2, 4), (3, 4), (4, 4), (1, 0), (5, 2), (6, 2), (7, 2), (8, 4), (9, 3)] (by kernel_rfl) (by kernel_rfl) (fun _ _ _ _ _ h => h) (q5) ?_
      iterate 4 (refine Text.purek rfl rfl (fun K hK => ⟨_, fun w' => by go_simp <;> rfl, ?_⟩); go_simp; refine hK _ ?_; clear hK K)
      (refine Text.heldk rfl rfl (fun K hK => ⟨_, fun w' hw' => by go_simp <;> rfl, ?_⟩); go_simp; refine hK _ ?_; clear hK K)
      refine Text.eff rfl rfl (fun K hK => ?_)
      go_simp
      rw [HXB.out]
      refine (reval_any A2 n2 c2 (gR m k) X wr.drew HBP.out HE.out).mono ?_
      rintro e w5 ⟨rfl, d, rfl⟩
      refine hK _ _ q5 ?_
      clear hK K
      refine Text.eff rfl rfl (fun K hK => ?_)
      go_simp
      obtain ⟨Y, hY⟩ : ∃ Y, Y = rv (gR m k) X := ⟨_, rfl⟩
      rw [← hY]
      obtain ⟨W6, hW6⟩ : ∃ W, W = (wr.drewN (1 + d)).alloc (.cells #[B Y] 5) := ⟨_, rfl⟩
      have hb6 : Below wr.heap.size wr W6 := by rw [hW6]; exact (below_drewN (Below.refl _ wr) _).alloc (Nat.le_refl _) _
      have hk6 : Blk W6 wr.heap.size 5 #[B Y] := by rw [hW6]; exact Blk.new (wr.drewN (1 + d)) _ _
      rw [← hW6]
      refine hK _ _ (cell_kept hb6 q5) ?_
      clear hK K
      have q6 := cell_kept hb6 q5
      have HBK6 : Hid (BS W6 (some ⟨wr.heap.size, 0, none⟩) 1 1 [Y]) := Lib.hid (bs1 hk6)
      have HO6 := Lib.hid (Kp.own (S := fun _ => False) (Kp.of_below hb6) ho.out (fun _ _ => id))
      have HD6 := Lib.hid (hd.out.kept hb6)
      have H06 := Lib.hid (h0.out.kept hb6)
      have HBW6 := Lib.hid (below_then hb.out hb6)
      have HYY : Hid (Y = Py.ev (gR m k) X) := Lib.hid (by rw [hY, rv_ev])
      clear hb6 hk6 hW6 hY
      refine Text.eff rfl rfl (fun K hK => ?_)
      have HKK : Hid (k + 1 ≤ 140737488355328) := Lib.hid (by have := HNN.out; omega)
      refine wp_appB W6 (.tmp 17) (.tmp 22) rfl w.heap.size (.slice A1 k c) k _ rfl HO6.out (some ⟨wr.heap.size, 0, none⟩) 1 1 [Y] rfl HBK6.out HKK.out HBW6.out.size ?_
      intro v7 w7 hp7
      obtain ⟨m7, g7, cap7, hm7, rfl⟩ := own_form (by omega) hp7.1
      subst hm7
      have hne := own_ne HO6.out HD6.out (by decide)
      have hD7 := grown_blk hp7.2.1 HD6.out hne
      have hne0 := own_ne HO6.out H06.out (by decide)
      have H07 := Lib.hid (grown_blk hp7.2.1 H06.out hne0)
      have q7 : w7.cell? ⟨gd, 1, none⟩ = some (.slice A1 k c) := by rw [hD7.cell]; rfl
      have q8 := hD7.frozen 1
      have HB7 : Hid (Below w.heap.size w w7) := Lib.hid (HBW6.out.grown hp7.2.1 HBW6.out.size (fun b hb' => own_base HO6.out b hb'))
      have HD7 := Lib.hid hD7
      have hK8 : Kp (fun b => b = gd) w7 (w7.setCell ⟨gd, 1, none⟩ (.slice (some ⟨g7, 0, none⟩) (k + 1) cap7)) := (Kp.refl (fun b => b = gd) w7).set (p := ⟨gd, 1, none⟩) (.inl rfl) _
      have HO8 : Hid ((w7.setCell ⟨gd, 1, none⟩ (.slice (some ⟨g7, 0, none⟩) (k + 1) cap7)).ownsRow w.heap.size 5 1 (.slice (some ⟨g7, 0, none⟩) (k + 1) cap7) (k + 1) ((atK m X (k + 1)).map B)) := Lib.hid (by
        rw [atK_succ, ← HYY.out]
        exact hK8.own hp7.1 (fun g hg e => own_ne hp7.1 HD7.out (by decide) (by rw [hg, e])))
      have HD8 : Hid (Blk (w7.setCell ⟨gd, 1, none⟩ (.slice (some ⟨g7, 0, none⟩) (k + 1) cap7)) gd 33 #[.int .i64 x, .slice (some ⟨g7, 0, none⟩) (k + 1) cap7]) := Lib.hid (HD7.out.set_ 1 _)
      have H08 : Hid (Blk (w7.setCell ⟨gd, 1, none⟩ (.slice (some ⟨g7, 0, none⟩) (k + 1) cap7)) w.heap.size 33 #[.int .i64 0, .slice none 0 0]) := Lib.hid (hK8.blk H07.out hgw)
      have HB8 : Hid (Below w.heap.size w (w7.setCell ⟨gd, 1, none⟩ (.slice (some ⟨g7, 0, none⟩) (k + 1) cap7))) := Lib.hid (HB7.out.setCell (show w.heap.size ≤ gd by have := HGD.out; omega) _)
      refine hK _ _ q7 ?_
      clear hK K hne hne0 hD7 hp7 hK8
      (refine Text.purek rfl rfl (fun K hK => ⟨_, fun w' => by go_simp <;> rfl, ?_⟩); go_simp; refine hK _ ?_; clear hK K)
      refine Text.last rfl rfl (fun K hK => ?_)
      go_simp
      refine hK _ _ ?_
      clear hK K
      refine Text.done ?_
      go_wp2_with fail
      go_roundw
      case rel => exact ⟨k + 1, _, cap7, by omega, by go_num, HD8, HO8, H08, HB8⟩
      case measure => simp [intOf]; omega
    · obtain rfl : k = n := by omega
      have q6 : wr.cell? ⟨gd, 0, none⟩ = some (.int .i64 x) := by rw [hd.out.cell]; rfl
      have q7 : wr.cell? ⟨gd, 1, none⟩ = some (.slice A1 k c) := by rw [hd.out.cell]; rfl
      have q8 : wr.cell? ⟨w.heap.size, 0, none⟩ = some (.int .i64 0) := by rw [h0.out.cell]; rfl
      have q9 := h0.out.frozen 0
      have h1 := h0.out.set_ 0 (.int .i64 x)
      have q10 : (wr.setCell ⟨w.heap.size, 0, none⟩ (.int .i64 x)).cell? ⟨w.heap.size, 1, none⟩ = some (.slice none 0 0) := by rw [h1.cell]; rfl
      have q11 := h1.frozen 1
      have h2 := h1.set_ 1 (.slice A1 k c)
      have q12 : ((wr.setCell ⟨w.heap.size, 0, none⟩ (.int .i64 x)).setCell ⟨w.heap.size, 1, none⟩ (.slice A1 k c)).cell? ⟨w.heap.size, 0, none⟩ = some (.int .i64 x) := by rw [h2.cell]; rfl
      have q13 : ((wr.setCell ⟨w.heap.size, 0, none⟩ (.int .i64 x)).setCell ⟨w.heap.size, 1, none⟩ (.slice A1 k c)).cell? ⟨w.heap.size, 1, none⟩ = some (.slice A1 k c) := by rw [h2.cell]; rfl
      clear h1 h2
      go_wp2_with fail
      refine bodyPost_ret (v := .agg #[.int .i64 x, .slice A1 k c]) (by simp [results, Try.results30, go_sem, q12, q13]) rfl ?_
      have hK : Kp (fun b => b = w.heap.size) wr ((wr.setCell ⟨w.heap.size, 0, none⟩ (.int .i64 x)).setCell ⟨w.heap.size, 1, none⟩ (.slice A1 k c)) := ((Kp.refl (fun b => b = w.heap.size) wr).set (p := ⟨w.heap.size, 0, none⟩) (.inl rfl) _).set (p := ⟨w.heap.size, 1, none⟩) (.inl rfl) _
      have hO := hK.own ho.out (fun g hg e => own_ne ho.out h0.out (by decide) (by rw [hg, e]))
      obtain ⟨A', c', e1, b1⟩ := BS.of_own hO (by have := HNN.out; unfold lim; omega)
      injection e1 with e11 e12 e13
      subst e11 e13
      refine ⟨A1, c, by rw [atK_length], by rw [atK_length]; exact b1, (hb.out.setCell (Nat.le_refl _) _).setCell (Nat.le_refl _) _, fun h0' a ea => ?_⟩
      rw [ea] at hO
      exact own_base hO a.block rfl
end Go.Proofs.Ytakedococfklgaa
/- Contracts of kinkeepref10.Shares and kinkeeplaw10.long. -/
namespace Go.Proofs.Ytakedococfklgaa
open Go.RowKit Gf

theorem shB_eq (l : List (Int × List UInt8)) : shB l = ((List.range l.length).all (dOk l) && (decide (l.length ≤ 64) && dsB (xsL l))) := by
  unfold shB; rw [xsB_eq]
  have : (xsL l).length = l.length := by rw [xsL, List.length_map]
  rw [this]

set_option maxRecDepth 100000 in
set_option maxHeartbeats 1000000 in
theorem rshares_any (A : Option Addr) (n c : Nat) (l : List (Int × List UInt8)) (w : World) (h : SS w A n c l) :
    Calls Try.prog 20 #[.slice A n c] w (ChkB (shB l) w) := by
  have hn := h.len_le
  have H := Lib.hid h
  have HL := Lib.hid h.1
  clear h
  go_enter Try.func20, Try.ntmps20
  go_wp2_with fail
  go_loopw [7] (fun i wr => ∃ k : Nat, k ≤ n ∧ i = .int .i64 (k : Int) ∧ Hid (∀ j, j < k → dOk l j = true) ∧ Hid (Below w.heap.size w wr)) (fun i _ => n - (intOf i).toNat)
  case atStart => exact ⟨0, by omega, rfl, Lib.hid (fun j hj => absurd hj (by omega)), Lib.hid (Below.refl _ _)⟩
  case round =>
    obtain ⟨k, hk, rfl, hall, hb⟩ := hrel
    by_cases hlt : k < n
    · obtain ⟨g1, o1, A1, n1, c1, rfl, q1, q2, q3⟩ := H.out.at_ hb.out hlt
      obtain ⟨g2, o2, A2, n2, c2, e2, r1, r2, r3⟩ := H.out.at_ hb.out (k := 0) (by omega)
      injection e2 with e2
      injection e2 with e21 e22
      subst e21 e22
      simp only [Nat.zero_mul, Nat.add_zero] at r2
      obtain ⟨y, hy⟩ : ∃ y, y = (gS l k).1 := ⟨_, rfl⟩
      rw [← hy] at q1
      have HN1 := Lib.hid q3.1
      have HN2 := Lib.hid r3.1
      have hn0 : 0 < n := by omega
      have hb7 := kb1 wr (.cells #[.int .i64 y, .slice A1 n1 c1] 33)
      have k7 := Blk.new wr 33 #[.int .i64 y, .slice A1 n1 c1]
      have r2' := cell_kept hb7 r2
      obtain ⟨W7, hW7⟩ : ∃ W, W = wr.alloc (.cells #[.int .i64 y, .slice A1 n1 c1] 33) := ⟨_, rfl⟩
      rw [← hW7] at hb7 k7 r2'
      have p1 : W7.cell? ⟨wr.heap.size, 1, none⟩ = some (.slice A1 n1 c1) := by rw [k7.cell]; rfl
      have HB7 := Lib.hid (below_then hb.out hb7)
      clear hy q3 r3 r1
      by_cases e1 : n1 = n2
      · have t1 : ((n1 : Int) != (n2 : Int)) = false := by simp; omega
        by_cases e3 : 1024 < n1
        · have t2 : decide (1024 < (n1 : Int)) = true := by simp; omega
          have HF : Hid (shB l = false) := Lib.hid (shB_false (i := k) (by rw [HL.out]; exact hlt) (by unfold dOk; rw [HN1.out]; exact decide_eq_false fun h => by omega))
          clear e1 e3 hb7 k7
          go_wp2_with fail
          rw [← hW7]
          clear hW7
          refine Text.wp_region_text (fun _ => True) [(0, 4), (3, 4), (4, 4), (5, 4), (1, 1), (2, 4), (6, 1), (7, 4), (8, 4), (9, 4), (10, 4), (11, 1), (12, 4), (13, 4), (14, 4)] (by kernel_rfl) (by kernel_rfl) (fun _ _ _ _ _ h => h) (trivial) ?_
          iterate 4 (refine Text.purek rfl rfl (fun K hK => ⟨_, fun w' => by go_simp <;> rfl, ?_⟩); go_simp; refine hK _ ?_; clear hK K)
          (refine Text.readk rfl rfl (fun K hK => ⟨_, by go_simp <;> rfl, ?_⟩); go_simp; refine hK _ ?_; clear hK K)
          (refine Text.purek rfl rfl (fun K hK => ⟨_, fun w' => by go_simp <;> rfl, ?_⟩); go_simp; refine hK _ ?_; clear hK K)
          (refine Text.readk rfl rfl (fun K hK => ⟨_, by go_simp <;> rfl, ?_⟩); go_simp; refine hK _ ?_; clear hK K)
          iterate 4 (refine Text.purek rfl rfl (fun K hK => ⟨_, fun w' => by go_simp <;> rfl, ?_⟩); go_simp; refine hK _ ?_; clear hK K)
          (refine Text.readk rfl rfl (fun K hK => ⟨_, by go_simp <;> rfl, ?_⟩); go_simp; refine hK _ ?_; clear hK K)
          iterate 3 (refine Text.purek rfl rfl (fun K hK => ⟨_, fun w' => by go_simp <;> rfl, ?_⟩); go_simp; refine hK _ ?_; clear hK K)
          refine Text.done ?_
          go_wp2_with fail
          go_ret
          exact ⟨ret_bool HF.out.symm, HB7.out.drew⟩
        · have t2 : decide (1024 < (n1 : Int)) = false := by simp; omega
          have HA : Hid (∀ j, j < k + 1 → dOk l j = true) := Lib.hid (fun j hj => by
            by_cases e : j = k
            · rw [e]; unfold dOk; rw [HN1.out, HN2.out]; exact decide_eq_true ⟨e1, by omega⟩
            · exact hall.out j (by omega))
          clear e1 e3 hb7 k7
          go_wp2_with fail
          rw [← hW7]
          clear hW7
          refine Text.wp_region_text (fun _ => True) [(0, 4), (3, 4), (4, 4), (5, 4), (1, 1), (2, 4), (6, 1), (7, 4), (8, 4), (9, 4), (10, 4), (11, 1), (12, 4), (13, 4), (14, 4)] (by kernel_rfl) (by kernel_rfl) (fun _ _ _ _ _ h => h) (trivial) ?_
          iterate 4 (refine Text.purek rfl rfl (fun K hK => ⟨_, fun w' => by go_simp <;> rfl, ?_⟩); go_simp; refine hK _ ?_; clear hK K)
          (refine Text.readk rfl rfl (fun K hK => ⟨_, by go_simp <;> rfl, ?_⟩); go_simp; refine hK _ ?_; clear hK K)
          (refine Text.purek rfl rfl (fun K hK => ⟨_, fun w' => by go_simp <;> rfl, ?_⟩); go_simp; refine hK _ ?_; clear hK K)
          (refine Text.readk rfl rfl (fun K hK => ⟨_, by go_simp <;> rfl, ?_⟩); go_simp; refine hK _ ?_; clear hK K)
          iterate 4 (refine Text.purek rfl rfl (fun K hK => ⟨_, fun w' => by go_simp <;> rfl, ?_⟩); go_simp; refine hK _ ?_; clear hK K)
          (refine Text.readk rfl rfl (fun K hK => ⟨_, by go_simp <;> rfl, ?_⟩); go_simp; refine hK _ ?_; clear hK K)
          iterate 3 (refine Text.purek rfl rfl (fun K hK => ⟨_, fun w' => by go_simp <;> rfl, ?_⟩); go_simp; refine hK _ ?_; clear hK K)
          refine Text.done ?_
          go_wp2_with fail
          go_roundw
          case rel => exact ⟨k + 1, by omega, by go_num, HA, Lib.hid HB7.out.drew⟩
          case measure => simp [intOf]; omega
      · have t1 : ((n1 : Int) != (n2 : Int)) = true := by simp; omega
        have HF : Hid (shB l = false) := Lib.hid (shB_false (i := k) (by rw [HL.out]; exact hlt) (by unfold dOk; rw [HN1.out, HN2.out]; exact decide_eq_false fun h => e1 h.1))
        clear e1 hb7 k7
        go_wp2_with fail
        rw [← hW7]
        clear hW7
        refine Text.wp_region_text (fun _ => True) [(0, 4), (3, 4), (4, 4), (5, 4), (1, 1), (2, 4), (6, 1), (7, 4), (8, 4), (9, 4), (10, 4), (11, 4), (12, 4), (13, 4), (14, 4)] (by kernel_rfl) (by kernel_rfl) (fun _ _ _ _ _ h => h) (trivial) ?_
        iterate 4 (refine Text.purek rfl rfl (fun K hK => ⟨_, fun w' => by go_simp <;> rfl, ?_⟩); go_simp; refine hK _ ?_; clear hK K)
        (refine Text.readk rfl rfl (fun K hK => ⟨_, by go_simp <;> rfl, ?_⟩); go_simp; refine hK _ ?_; clear hK K)
        (refine Text.purek rfl rfl (fun K hK => ⟨_, fun w' => by go_simp <;> rfl, ?_⟩); go_simp; refine hK _ ?_; clear hK K)
        (refine Text.readk rfl rfl (fun K hK => ⟨_, by go_simp <;> rfl, ?_⟩); go_simp; refine hK _ ?_; clear hK K)
        iterate 3 (refine Text.purek rfl rfl (fun K hK => ⟨_, fun w' => by go_simp <;> rfl, ?_⟩); go_simp; refine hK _ ?_; clear hK K)
        iterate 4 (refine Text.skipk (.inr (.inr rfl)) rfl rfl (fun K hK => ?_); go_simp; refine hK _ ?_; clear hK K)
        (refine Text.purek rfl rfl (fun K hK => ⟨_, fun w' => by go_simp <;> rfl, ?_⟩); go_simp; refine hK _ ?_; clear hK K)
        refine Text.done ?_
        go_wp2_with fail
        go_ret
        exact ⟨ret_bool HF.out.symm, HB7.out.drew⟩
    · obtain rfl : k = n := by omega
      have HAL : Hid ((List.range l.length).all (dOk l) = true) := Lib.hid (by rw [List.all_eq_true]; intro i hi; exact hall.out i (by rw [List.mem_range, HL.out] at hi; exact hi))
      by_cases h64 : k ≤ 64
      · have t1 : decide ((k : Int) ≤ 64) = true := by simp; omega
        have HR : Hid (shB l = dsB (xsL l)) := Lib.hid (by rw [shB_eq, HAL.out, HL.out, decide_eq_true h64]; rfl)
        have H64 := Lib.hid h64
        clear h64
        go_wp2_with fail
        refine (rxs_any A k c l wr (H.out.kept hb.out) H64.out).mono ?_
        rintro e w1 ⟨A1, c1, rfl, hi1, hx1⟩
        have HI := Lib.hid hi1
        have HB1 := Lib.hid (below_then hb.out hx1)
        clear hi1 hx1
        go_wp2_with fail
        refine (rdist_any A1 k c1 (xsL l) w1 HI.out).mono ?_
        rintro e w' ⟨rfl, rfl⟩
        go_wp2_with fail
        go_ret
        exact ⟨ret_bool HR.out.symm, HB1.out⟩
      · have t1 : decide ((k : Int) ≤ 64) = false := by simp; omega
        have HR : Hid (shB l = false) := Lib.hid (by rw [shB_eq, HL.out, decide_eq_false h64, Bool.false_and, Bool.and_false])
        clear h64
        go_wp2_with fail
        go_ret
        exact ⟨ret_bool HR.out.symm, hb.out⟩
end Go.Proofs.Ytakedococfklgaa
/- Contract of the reference kinkeepref10.Agreed. -/
namespace Go.Proofs.Ytakedococfklgaa
open Go.RowKit Gf

def agE (l : List (Int × List UInt8)) (t : Int) : Int := if shB l && vT t then (if (l.length : Int) < t then 10 else if blB (shgK l (lnK l)) t then 0 else 13) else 1
def agM (l : List (Int × List UInt8)) (t : Int) : List (List UInt8) := if agE l t = 0 then shgK l (lnK l) else []
def AgRet (l : List (Int × List UInt8)) (t : Int) (w : World) (e : Ending) (w' : World) : Prop :=
  ∃ A c, e = .returned (.tuple #[.slice A (agM l t).length c, .int .i64 (agE l t)]) ∧ MS w' A (agM l t).length c (agM l t) ∧ Below w.heap.size w w'
theorem agM_no {l : List (Int × List UInt8)} {t : Int} (h : agE l t ≠ 0) : agM l t = [] := by unfold agM; rw [if_neg h]

set_option maxRecDepth 100000 in
set_option maxHeartbeats 2000000 in
theorem ragreed_any (A : Option Addr) (n c : Nat) (t : Int) (l : List (Int × List UInt8)) (w : World) (h : SS w A n c l) :
    Calls Try.prog 29 #[.slice A n c, .int .i64 t] w (AgRet l t w) := by
  have hn := h.len_le
  have H := Lib.hid h
  have HL := Lib.hid h.1
  clear h
  have no : ∀ E : Int, agE l t = E → E ≠ 0 → ∀ w', Below w.heap.size w w' → AgRet l t w (.returned (.tuple #[.slice none 0 0, .int .i64 E])) w' := fun E h1 h2 w' hb => by
    have h3 := agM_no (l := l) (t := t) (by rw [h1]; exact h2)
    unfold AgRet
    rw [h3, h1]
    exact ⟨none, 0, rfl, MS.nil, hb⟩
  have NO := Lib.hid no
  clear no
  cases hs : shB l with
  | false =>
    have HE : Hid (agE l t = 1) := Lib.hid (by unfold agE; rw [hs]; rfl)
    have HSH := Lib.hid hs
    clear hs
    go_enter Try.func29, Try.ntmps29
    go_wp2_with fail
    refine (rshares_any A n c l w H.out).mono ?_
    rintro e w1 ⟨rfl, hb1⟩
    rw [HSH.out]
    have HB1 := Lib.hid hb1
    clear hb1
    go_wp2_with fail
    go_ret2
    exact NO.out _ HE.out (by decide) _ HB1.out
  | true =>
    have HSH := Lib.hid hs
    cases hv : vT t with
    | false =>
      have HE : Hid (agE l t = 1) := Lib.hid (by unfold agE; rw [hs, hv]; rfl)
      have HV := Lib.hid hv
      clear hs hv
      go_enter Try.func29, Try.ntmps29
      go_wp2_with fail
      refine (rshares_any A n c l w H.out).mono ?_
      rintro e w1 ⟨rfl, hb1⟩
      rw [HSH.out]
      have HB1 := Lib.hid hb1
      clear hb1
      go_wp2_with fail
      refine (rthr_any t w1).mono ?_
      rintro e w' ⟨rfl, rfl⟩
      rw [HV.out]
      go_wp2_with fail
      go_ret2
      exact NO.out _ HE.out (by decide) _ HB1.out
    | true =>
      have HV := Lib.hid hv
      obtain ⟨sp1, sp2, sp3, sp4, sp5⟩ := shB_spec hs
      by_cases hnt : (n : Int) < t
      · have q1 : decide ((n : Int) < t) = true := by simpa using hnt
        have HE : Hid (agE l t = 10) := Lib.hid (by unfold agE; rw [hs, hv, HL.out, Bool.and_self, if_pos rfl, if_pos hnt])
        clear hs hv sp1 sp2 sp3 sp4 sp5 hnt
        go_enter Try.func29, Try.ntmps29
        go_wp2_with fail
        refine (rshares_any A n c l w H.out).mono ?_
        rintro e w1 ⟨rfl, hb1⟩
        rw [HSH.out]
        have HB1 := Lib.hid hb1
        clear hb1
        go_wp2_with fail
        refine (rthr_any t w1).mono ?_
        rintro e w' ⟨rfl, rfl⟩
        rw [HV.out]
        go_wp2_with fail
        go_ret2
        exact NO.out _ HE.out (by decide) _ HB1.out
      · have q1 : decide ((n : Int) < t) = false := by simpa using hnt
        have HE : Hid (agE l t = if blB (shgK l (lnK l)) t then 0 else 13) := Lib.hid (by unfold agE; rw [hs, hv, HL.out, Bool.and_self, if_pos rfl, if_neg hnt])
        have hn0 : 0 < n := by have := (vT_iff.1 hv).1; omega
        obtain ⟨L, hL⟩ : ∃ L, L = lnK l := ⟨_, rfl⟩
        have hL0 : L = (gS l 0).2.length := by rw [hL, lnK, if_neg (by rw [HL.out]; omega)]
        have HLK := Lib.hid hL
        have HEQ : Hid (Eql l L) := Lib.hid (by rw [hL0]; exact sp2)
        have HL1 : Hid (L ≤ 100000) := Lib.hid (by have := sp3 0 (by rw [HL.out]; exact hn0); omega)
        have H64 : Hid (n ≤ 64) := Lib.hid (by rw [HL.out] at sp1; exact sp1)
        have HX : Hid (∀ k, k < n → 1 ≤ (gS l k).1 ∧ (gS l k).1 ≤ 255) := Lib.hid (fun k hk => sp4 k (by rw [HL.out]; exact hk))
        have HD : Hid (Py.Dst (coX l)) := Lib.hid (fun i j hij hj e => by
          rw [coX, tab_length] at hj
          rw [coX, gB_tab _ (by omega), gB_tab _ hj] at e
          have h1 := sp4 i (by omega)
          have h2 := sp4 j hj
          exact sp5 j i hij hj (by rw [gX_eq (l := l) (k := i) (by omega) (by omega), gX_eq (l := l) (k := j) (by omega) (by omega), e]))
        have HT3 : Hid (L * 24 ≤ lim) := Lib.hid (by have := HL1.out; unfold lim; omega)
        rw [← hL] at HE
        clear hs hv sp1 sp2 sp3 sp4 sp5 hnt hL hL0
        go_enter Try.func29, Try.ntmps29
        go_wp2_with fail
        refine (rshares_any A n c l w H.out).mono ?_
        rintro e w1 ⟨rfl, hb1⟩
        rw [HSH.out]
        have HB1 := Lib.hid hb1
        have H1 := Lib.hid (H.out.kept hb1)
        clear hb1
        go_wp2_with fail
        refine (rthr_any t w1).mono ?_
        rintro e w' ⟨rfl, rfl⟩
        rw [HV.out]
        go_wp2_with fail
        refine (rlen_any A n c l w1 H1.out).mono ?_
        rintro e w' ⟨rfl, rfl⟩
        rw [← HLK.out]
        go_wp2_with fail
        refine (rthrough_any A n c L l w1 H1.out H64.out HEQ.out HL1.out HX.out HD.out).mono ?_
        rintro e w2 ⟨v2, rfl, ho2, hx2⟩
        rw [shgK_length] at ho2
        obtain ⟨A2, c2, rfl, hm2⟩ := ho2.ms HT3.out
        have H2 := Lib.hid hm2
        have HB2 := Lib.hid (below_then HB1.out hx2)
        clear ho2 hm2 hx2
        go_wp2_with fail
        refine (rbelow_any A2 L c2 (shgK l L) t w2 H2.out).mono ?_
        rintro e w3 ⟨rfl, hx3⟩
        have HB3 := Lib.hid (below_then HB2.out hx3)
        have H3 := Lib.hid (H2.out.kept hx3)
        clear hx3
        cases hbl : blB (shgK l L) t with
        | false =>
          have HE' : Hid (agE l t = 13) := Lib.hid (by rw [HE.out, hbl]; rfl)
          clear hbl
          go_wp2_with fail
          go_ret2
          exact NO.out _ HE'.out (by decide) _ HB3.out
        | true =>
          have HE' : Hid (agE l t = 0) := Lib.hid (by rw [HE.out, hbl]; rfl)
          have HF : Hid (AgRet l t w (.returned (.tuple #[.slice A2 L c2, .int .i64 0])) w3) := Lib.hid (by
            have h3 : agM l t = shgK l L := by unfold agM; rw [if_pos HE'.out, HLK.out]
            unfold AgRet
            rw [h3, HE'.out, shgK_length]
            exact ⟨A2, c2, rfl, H3.out, HB3.out⟩)
          clear hbl
          go_wp2_with fail
          go_ret2
          exact HF.out
end Go.Proofs.Ytakedococfklgaa
