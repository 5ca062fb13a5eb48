/- Contracts of the references kinkeepref02.Inv and kinkeepref06 Trim, Degree, At. -/
import Derived.Test.YtakedococfklgaaRe0m
namespace Go.Proofs.Ytakedococfklgaa
open Go.RowKit Gf

attribute [local go_sem] Gf.eq_one_iff Gf.eq_zero_iff

/-- The first of 1.. whose product is 1. -/
theorem rinv_first (a : UInt8) (k : Nat) (h : mul a (UInt8.ofNat k) = 1) : inv a = UInt8.ofNat k := by
  have ha : a ≠ 0 := by intro e; rw [e, zero_mul] at h; exact absurd h (by decide)
  have h1 := mul_inv a ha
  calc inv a = mul (inv a) (mul a (UInt8.ofNat k)) := by rw [h, mul_one]
    _ = mul (mul a (inv a)) (UInt8.ofNat k) := by rw [← mul_assoc, mul_comm (inv a) a]
    _ = UInt8.ofNat k := by rw [h1, one_mul]
theorem inv_ne_zero (a : UInt8) (ha : a ≠ 0) : inv a ≠ 0 := fun e => by
  have := mul_inv a ha; rw [e, mul_zero] at this; exact absurd this (by decide)
theorem inv_none (a : UInt8) (h : ∀ k, 1 ≤ k → k < 256 → mul a (UInt8.ofNat k) ≠ 1) : a = 0 := by
  apply Classical.byContradiction; intro ha
  have h1 := mul_inv a ha
  have h2 := inv_ne_zero a ha
  have h3 : UInt8.ofNat (inv a).toNat = inv a := by simp
  refine h (inv a).toNat ?_ (inv a).toNat_lt (by rw [h3]; exact h1)
  rcases Nat.eq_zero_or_pos (inv a).toNat with e | e
  · exact absurd (UInt8.toNat_inj.1 (by rw [e]; rfl)) h2
  · exact e
theorem inv_zero_eq : inv 0 = 0 := by decide +kernel

theorem rmul_nat (a : UInt8) (k : Nat) (w : World) (hk : k < 256) :
    Calls Try.prog 64 #[B a, .int .u8 (k : Int)] w fun e w' => e = .returned (B (mul a (UInt8.ofNat k))) ∧ w = w' := by
  have h : (k : Int) = bv (UInt8.ofNat k) := by unfold bv; simp; omega
  rw [h]
  exact rmul_any _ _ _

def NoInv (a : UInt8) (k : Nat) : Prop := ∀ j, 1 ≤ j → j < k → mul a (UInt8.ofNat j) ≠ 1
set_option maxHeartbeats 400000 in
theorem rinv_any (a : UInt8) (w : World) :
    Calls Try.prog 80 #[B a] w fun e w' => e = .returned (B (inv a)) ∧ w = w' := by
  go_enter Try.func80, Try.ntmps80
  go_wp2
  go_loop [3] (fun i => ∃ k : Nat, 1 ≤ k ∧ k ≤ 256 ∧ i = .int .i64 (k : Int) ∧ NoInv a k) (fun i => 256 - (intOf i).toNat)
  case atStart => exact ⟨1, by omega, by omega, rfl, fun j h1 h2 => absurd h2 (by omega)⟩
  case round =>
    obtain ⟨k, h1, hk, rfl, hm⟩ := hrel
    by_cases hlt : k < 256
    · have HK : Hid ((k : Int) = bv (UInt8.ofNat k)) := Lib.hid (by unfold bv; simp; omega)
      obtain ⟨p, hp⟩ : ∃ p, p = mul a (UInt8.ofNat k) := ⟨_, rfl⟩
      have HC : Hid (Calls Try.prog 64 #[B a, .int .u8 (k : Int)] w fun e w' => e = .returned (B p) ∧ w = w') := Lib.hid (by rw [hp]; exact rmul_nat a k w hlt)
      have hlt' : (k : Int) < 256 := by omega
      have HLT := Lib.hid hlt
      clear hlt hk
      cases hb : p == 1 with
      | true =>
        have HR : Hid (inv a = UInt8.ofNat k) := Lib.hid (rinv_first a k (by rw [← hp]; simpa using hb))
        clear hp hm
        go_wp2_with (go_at_call 64; refine HC.out.mono ?_; rintro e w' ⟨rfl, rfl⟩)
        go_ret
        refine ⟨?_, rfl⟩
        rw [HR.out]
        show Ending.returned (.int .u8 (k : Int)) = _
        rw [HK.out]
      | false =>
        have HM : NoInv a (k + 1) := (fun j h2 h3 => by
          by_cases e : j = k
          · rw [e, ← hp]; simpa using hb
          · exact hm j h2 (by omega))
        clear hp hm
        go_wp2_with (go_at_call 64; refine HC.out.mono ?_; rintro e w' ⟨rfl, rfl⟩)
        go_round
        case rel => exact ⟨k + 1, by omega, by have := HLT.out; omega, by go_num, HM⟩
        case measure => simp [intOf]; omega
    · obtain rfl : k = 256 := by omega
      have HZ : Hid (inv a = 0) := Lib.hid (by rw [inv_none a (fun j h2 h3 => hm j h2 h3)]; exact inv_zero_eq)
      go_wp2
      go_ret
      refine ⟨?_, rfl⟩
      rw [HZ.out]
      rfl

/-- The coefficient of number i; 0 beyond the end. -/
theorem rat_any (A : Option Addr) (n c : Nat) (l : List UInt8) (i : Nat) (w : World) (h : BS w A n c l) :
    Calls Try.prog 59 #[.slice A n c, .int .i64 (i : Int)] w fun e w' => e = .returned (B (gB l i)) ∧ w = w' := by
  have hn := h.len_le
  by_cases hi : i < n
  · obtain ⟨g, o, rfl, hc⟩ := h.at_ (Below.refl _ _) hi
    clear h
    go_enter Try.func59, Try.ntmps59
    go_wp2
    go_ret
    exact ⟨rfl, rfl⟩
  · have HZ : Hid (gB l i = 0) := Lib.hid (gB_ge (by rw [h.1]; omega))
    clear h
    go_enter Try.func59, Try.ntmps59
    go_wp2
    go_ret
    refine ⟨?_, rfl⟩
    rw [HZ.out]
    rfl

theorem own_empty (w : World) : (w.alloc (.cells #[] 5)).ownsRow w.heap.size 5 1 (.slice (some ⟨w.heap.size, 0, none⟩) 0 0) 0 (([] : List UInt8).map B) := World.ownsRow_lit w #[] 0 (Nat.le_refl _) (by simp [maxLen]) rfl
theorem BS.takeN {w : World} {A : Option Addr} {n c k : Nat} {l : List UInt8} (h : BS w A n c l) (hk : k ≤ n) : BS w A k c (l.take k) :=
  ⟨by rw [List.length_take, h.1]; omega, by have := h.2.1; omega, by have := h.2.2.1; omega, fun i hi => by
    obtain ⟨g, o, e, hc⟩ := h.2.2.2 i (by omega)
    exact ⟨g, o, e, by show _ = some (B (gB (l.take k) i)); rw [gB_take hi]; exact hc⟩⟩
theorem trim_src {w : World} {A : Option Addr} {n c k : Nat} {l : List UInt8} (h : BS w A n c l) (hk : k ≤ n) : BS (w.alloc (.cells #[] 5)) A k c (l.take k) := (h.takeN hk).kept ((Below.refl _ _).alloc (Nat.le_refl _) _)
theorem trim_end {w : World} {A : Option Addr} {n c k : Nat} {l : List UInt8} (h : BS w A n c l) (ht : Py.tl l = k) (hk : k ≤ n) : ∀ v6 w6, AppPost w.heap.size 5 (.slice (some ⟨w.heap.size, 0, none⟩) 0 0) 0 k (([] ++ l.take k).map B) v6 (w.alloc (.cells #[] 5)) w6 → GvB (Py.trim l) w v6 w6 := fun v6 w6 hp => by
  have hb0 : Below w.heap.size w (w.alloc (.cells #[] 5)) := (Below.refl _ _).alloc (Nat.le_refl _) _
  have h1 := hp.1
  rw [Nat.zero_add, List.nil_append, ← ht] at h1
  obtain ⟨A6, c6, rfl, b6⟩ := BS.of_own h1 (by have := h.2.2.1; omega)
  refine ⟨A6, _, c6, rfl, b6, fun a ea => ?_, hb0.grown hp.2.1 hb0.size (fun b hb' => own_base (own_empty w) b hb')⟩
  rw [ea] at h1
  exact own_base h1 a.block rfl

set_option maxRecDepth 100000 in
set_option maxHeartbeats 400000 in
theorem rtrim_any (A : Option Addr) (n c : Nat) (l : List UInt8) (w : World) (h : BS w A n c l) :
    Calls Try.prog 82 #[.slice A n c] w (Rets (GvB (Py.trim l)) w) := by
  have hn := h.len_le
  have HL := Lib.hid h.1
  have H := Lib.hid h
  have hcap := h.2.1
  clear h
  go_enter Try.func82, Try.ntmps82
  go_wp2
  go_loop [3] (fun i => ∃ k : Nat, k ≤ n ∧ i = .int .i64 (k : Int) ∧ Hid (∀ j, k ≤ j → gB l j = 0)) (fun i => (intOf i).toNat)
  case atStart => exact ⟨n, Nat.le_refl _, rfl, Lib.hid (fun j hj => gB_ge (by rw [HL.out]; exact hj))⟩
  case round =>
    obtain ⟨k, hk, rfl, hz⟩ := hrel
    by_cases h0 : 0 < k
    · obtain ⟨j, rfl⟩ : ∃ j, k = j + 1 := ⟨k - 1, by omega⟩
      obtain ⟨g, o, rfl, hc⟩ := H.out.at_ (Below.refl _ _) (k := j) (by omega)
      obtain ⟨b, hb⟩ : ∃ b, b = gB l j := ⟨_, rfl⟩
      rw [← hb] at hc
      have HBB := Lib.hid hb
      clear hb
      have s1 : ((j : Int) + 1) - 1 = j := by omega
      cases hb0 : b == 0 with
      | true =>
        have HZ : Hid (∀ i, j ≤ i → gB l i = 0) := Lib.hid (fun i hi => by
          by_cases e : i = j
          · rw [e, ← HBB.out]; simpa using hb0
          · exact hz.out i (by omega))
        go_wp2
        go_round
        case rel => exact ⟨j, by omega, by go_num, HZ⟩
        case measure => simp [intOf]
      | false =>
        have HT : Hid (Py.tl l = j + 1) := Lib.hid (Py.tl_of l (j + 1) (fun i hi => hz.out i hi) (fun _ => by rw [Nat.add_sub_cancel, ← HBB.out]; simpa using hb0))
        have HEX := Lib.hid (trim_end H.out HT.out hk)
        have HBS := Lib.hid (trim_src H.out hk)
        have HK : Hid (0 + (j + 1) ≤ 140737488355328) := Lib.hid (by omega)
        clear hz
        go_wp2_with (first
          | (at_builtin; refine wpList_appB _ rfl (.tmp 18) (.tmp 21) rfl w.heap.size (.slice (some ⟨w.heap.size, 0, none⟩) 0 0) 0 [] rfl (own_empty w) (some ⟨g, o, none⟩) (j + 1) c (l.take (j + 1)) rfl HBS.out HK.out (by simp) ?_; intro v6 w6 hp6))
        have hf := HEX.out v6 w6 hp6
        obtain ⟨A6, n6, c6, rfl, _, _, _⟩ := id hf
        have HF := Lib.hid hf
        clear hp6 hf
        go_wp2_with fail
        go_ret
        exact ⟨_, rfl, HF.out⟩
    · obtain rfl : k = 0 := by omega
      have HT : Hid (Py.tl l = 0) := Lib.hid (Py.tl_of l 0 (fun i hi => hz.out i hi) (fun h => absurd h (by omega)))
      have HE0 : Hid (GvB (Py.trim l) w (.slice (some ⟨w.heap.size, 0, none⟩) 0 0) (w.alloc (.cells #[] 5))) := Lib.hid (by
        have e0 : Py.trim l = [] := List.eq_nil_of_length_eq_zero (by rw [Py.trim_length, HT.out])
        rw [e0]
        exact ⟨_, 0, 0, rfl, ⟨rfl, Nat.le_refl _, by decide, fun i hi => absurd hi (by omega)⟩, fun a ea => by cases ea; exact Nat.le_refl _, (Below.refl _ _).alloc (Nat.le_refl _) _⟩)
      clear hz
      cases A with
      | none =>
        go_wp2_with fail
        go_ret
        exact ⟨_, rfl, HE0.out⟩
      | some a =>
        go_wp2_with fail
        go_ret
        exact ⟨_, rfl, HE0.out⟩

set_option maxHeartbeats 400000 in
theorem rdegree_any (A : Option Addr) (n c : Nat) (l : List UInt8) (w : World) (h : BS w A n c l) :
    Calls Try.prog 78 #[.slice A n c] w fun e w' => e = .returned (.int .i64 ((Py.tl l : Int) - 1)) ∧ Below w.heap.size w w' := by
  have htl := Py.tl_le l
  have hn := h.len_le
  have hd : Py.tl l ≤ 140737488355328 := by rw [h.1] at htl; omega
  have H := Lib.hid h
  clear h htl
  obtain ⟨t, ht⟩ : ∃ t, t = Py.tl l := ⟨_, rfl⟩
  have HT := Lib.hid ht
  rw [← ht] at hd ⊢
  clear ht
  go_enter Try.func78, Try.ntmps78
  go_wp2_with fail
  refine (rtrim_any A n c l w H.out).mono ?_
  rintro e w1 ⟨v, rfl, A1, n1, c1, rfl, hb, _, hx⟩
  obtain rfl : n1 = t := by rw [HT.out, ← Py.trim_length]; exact hb.1.symm
  have HX := Lib.hid hx
  clear hb hx
  go_wp2_with fail
  go_ret
  exact ⟨rfl, HX.out⟩
end Go.Proofs.Ytakedococfklgaa
