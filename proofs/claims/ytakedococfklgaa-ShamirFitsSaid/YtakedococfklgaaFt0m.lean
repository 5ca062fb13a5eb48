/- ShamirFits: the reference's Count; shamir.Fits where it refuses. -/
import Derived.Test.YtakedococfklgaaAw0m
import Derived.Test.YtakedococfklgaaFi1m
namespace Go.Proofs.Ytakedococfklgaa
open Go.RowKit Gf

/-- The reference's count after k rounds. -/
def rnK : Nat → Int
  | 0 => 1
  | k + 1 => min (256 * rnK k) 1099511627776
theorem rnK_bd : ∀ k, 1 ≤ rnK k ∧ rnK k ≤ 1099511627776
  | 0 => by decide
  | k + 1 => by have := rnK_bd k; unfold rnK; omega
theorem rn_ct : ∀ k, k < 20 → rnK k = ctK k := by decide +kernel

set_option maxRecDepth 100000 in
set_option maxHeartbeats 1000000 in
theorem rcount_false (s t : Int) (f : Nat) (w : World) (hs0 : 0 ≤ s) (hs : s ≤ 65) (ht0 : 1 ≤ t) (ht : t ≤ 16) (hf : f = (t - (s)).toNat) :
    Calls Try.prog 34 #[.int .i64 s, .int .i64 t, .bool false] w fun e w' => e = .returned (.int .i64 (rnK f)) ∧ w = w' := by
  go_enter Try.func34, Try.ntmps34
  go_wp2_with fail
  go_loopw [0, 7] (fun v i wr => ∃ (k : Nat) (z : Int), k ≤ f ∧ v = .int .i64 (s + k) ∧ i = .int .i64 z ∧ 1 ≤ z ∧ z ≤ 1099511627776 ∧ Hid (z = rnK k) ∧ wr = w) (fun v _ _ => (t - intOf v).toNat)
  case atStart => exact ⟨0, 1, by omega, by simp, rfl, by omega, by omega, Lib.hid rfl, rfl⟩
  case round =>
    obtain ⟨k, z, hk, rfl, rfl, hz1, hz2, hz, rfl⟩ := hrel
    by_cases hlt : k < f
    · have q : decide (s + (k : Int) < t) = true := by simp; omega
      have HZ : Hid (min (256 * z) 1099511627776 = rnK (k + 1)) := Lib.hid (by rw [rnK, hz.out])
      go_wp2_with fail
      go_roundw
      case rel => exact ⟨k + 1, min (256 * z) 1099511627776, by omega, by go_num, rfl, by omega, by omega, HZ, trivial⟩
      case measure => simp [intOf]; omega
    · have q : decide (s + (k : Int) < t) = false := by simp; omega
      have HK : Hid (k = f) := Lib.hid (by omega)
      go_wp2_with fail
      go_ret
      exact ⟨ret_int (by rw [hz.out, HK.out]), rfl⟩
set_option maxRecDepth 100000 in
set_option maxHeartbeats 1000000 in
theorem rcount_true (s t : Int) (f : Nat) (w : World) (hs0 : 0 ≤ s) (hs : s ≤ 65) (ht0 : 1 ≤ t) (ht : t ≤ 16) (hf : f = (t - (s + 1)).toNat) :
    Calls Try.prog 34 #[.int .i64 s, .int .i64 t, .bool true] w fun e w' => e = .returned (.int .i64 (rnK f)) ∧ w = w' := by
  go_enter Try.func34, Try.ntmps34
  go_wp2_with fail
  go_loopw [0, 7] (fun v i wr => ∃ (k : Nat) (z : Int), k ≤ f ∧ v = .int .i64 (s + 1 + k) ∧ i = .int .i64 z ∧ 1 ≤ z ∧ z ≤ 1099511627776 ∧ Hid (z = rnK k) ∧ wr = w) (fun v _ _ => (t - intOf v).toNat)
  case atStart => exact ⟨0, 1, by omega, by simp, rfl, by omega, by omega, Lib.hid rfl, rfl⟩
  case round =>
    obtain ⟨k, z, hk, rfl, rfl, hz1, hz2, hz, rfl⟩ := hrel
    by_cases hlt : k < f
    · have q : decide (s + 1 + (k : Int) < t) = true := by simp; omega
      have HZ : Hid (min (256 * z) 1099511627776 = rnK (k + 1)) := Lib.hid (by rw [rnK, hz.out])
      go_wp2_with fail
      go_roundw
      case rel => exact ⟨k + 1, min (256 * z) 1099511627776, by omega, by go_num, rfl, by omega, by omega, HZ, trivial⟩
      case measure => simp [intOf]; omega
    · have q : decide (s + 1 + (k : Int) < t) = false := by simp; omega
      have HK : Hid (k = f) := Lib.hid (by omega)
      go_wp2_with fail
      go_ret
      exact ⟨ret_int (by rw [hz.out, HK.out]), rfl⟩
theorem rcount_any (s t : Int) (kn : Bool) (w : World) (h : ctE s t = 0) :
    Calls Try.prog 34 #[.int .i64 s, .int .i64 t, .bool kn] w fun e w' => e = .returned (.int .i64 (ctV s t kn)) ∧ w = w' := by
  have hc : 0 ≤ s ∧ s ≤ 64 ∧ vT t = true := by
    unfold ctE at h
    by_cases h1 : 0 ≤ s ∧ s ≤ 64 ∧ vT t = true
    · exact h1
    · rw [if_neg h1] at h; cases h
  obtain ⟨h1, h2, h3⟩ := hc
  obtain ⟨t1, t2⟩ := vT_iff.1 h3
  have hV : ctV s t kn = ctK (ctF s t kn) := by unfold ctV; rw [if_pos h]
  rw [hV, ← rn_ct _ (by unfold ctF; split <;> omega)]
  cases kn with
  | false => exact rcount_false s t _ w h1 (by omega) t1 t2 (by unfold ctF; simp)
  | true => exact rcount_true s t _ w h1 (by omega) t1 t2 (by unfold ctF; simp; omega)

/-! ### refusals of Fits -/
def FNo (w : World) (e : Ending) (w' : World) : Prop := e = .returned (.tuple #[.slice none 0 0, .int .i64 1]) ∧ Below w.heap.size w w'
set_option maxRecDepth 100000 in
set_option maxHeartbeats 1000000 in
theorem fits_bad (As A : Option Addr) (ns cs n c : Nat) (t : Int) (s : List UInt8) (l : List (Int × List UInt8)) (w : World) (hs : BS w As ns cs s) (h : SS w A n c l) (hb : (shB l && vT t && decide ((n : Int) = t - 1) && decide (ns ≤ 1024)) = false) :
    Calls Try.prog 24 #[.slice As ns cs, .slice A n c, .int .i64 t] w (FNo w) := by
  have H := Lib.hid h
  have hn := h.len_le
  have hns := hs.len_le
  clear h hs
  cases hs : shB l with
  | false =>
    have HSH := Lib.hid hs
    clear hs hb
    go_enter Try.func24, Try.ntmps24
    go_wp2_with fail
    refine (validShares_any _ _ _ _ _ H.out).mono ?_
    rintro e w1 ⟨rfl, hb1⟩
    have HB1 := Lib.hid hb1
    clear hb1
    rw [HSH.out]
    go_wp2_with fail
    go_ret2
    exact ⟨rfl, HB1.out⟩
  | true =>
    have HSH := Lib.hid hs
    cases hv : vT t with
    | false =>
      have HV := Lib.hid hv
      clear hs hb hv
      go_enter Try.func24, Try.ntmps24
      go_wp2_with fail
      refine (validShares_any _ _ _ _ _ H.out).mono ?_
      rintro e w1 ⟨rfl, hb1⟩
      have HB1 := Lib.hid hb1
      clear hb1
      rw [HSH.out]
      go_wp2_with fail
      refine (validT_any _ _).mono ?_
      rintro e w' ⟨rfl, rfl⟩
      rw [HV.out]
      go_wp2_with fail
      go_ret2
      exact ⟨rfl, HB1.out⟩
    | true =>
      have HV := Lib.hid hv
      have ht : IntKind.i64.wrap (t - 1) = t - 1 := by have := vT_iff.1 hv; rw [IntKind.wrap_i64]; omega
      by_cases hnt : (n : Int) = t - 1
      · have q1 : ((n : Int) != t - 1) = false := by simpa using hnt
        have q2 : decide ((1024 : Int) < (ns : Int)) = true := by
          rw [hs, hv, decide_eq_true hnt] at hb
          simp at hb ⊢; omega
        clear hs hv hnt hb
        go_enter Try.func24, Try.ntmps24
        go_wp2_with fail
        refine (validShares_any _ _ _ _ _ H.out).mono ?_
        rintro e w1 ⟨rfl, hb1⟩
        have HB1 := Lib.hid hb1
        clear hb1
        rw [HSH.out]
        go_wp2_with fail
        refine (validT_any _ _).mono ?_
        rintro e w' ⟨rfl, rfl⟩
        rw [HV.out]
        go_wp2_with fail
        go_ret2
        exact ⟨rfl, HB1.out⟩
      · have q1 : ((n : Int) != t - 1) = true := by simpa using hnt
        clear hs hv hnt hb
        go_enter Try.func24, Try.ntmps24
        go_wp2_with fail
        refine (validShares_any _ _ _ _ _ H.out).mono ?_
        rintro e w1 ⟨rfl, hb1⟩
        have HB1 := Lib.hid hb1
        clear hb1
        rw [HSH.out]
        go_wp2_with fail
        refine (validT_any _ _).mono ?_
        rintro e w' ⟨rfl, rfl⟩
        rw [HV.out]
        go_wp2_with fail
        go_ret2
        exact ⟨rfl, HB1.out⟩
set_option maxRecDepth 100000 in
set_option maxHeartbeats 1000000 in
theorem fits_len (As A : Option Addr) (ns cs n c : Nat) (t : Int) (s : List UInt8) (l : List (Int × List UInt8)) (w : World) (hs : BS w As ns cs s) (h : SS w A n c l) (hsh : shB l = true) (hv : vT t = true) (hnt : (n : Int) = t - 1) (h1024 : ns ≤ 1024) (h0 : 0 < n) (hne : (gS l 0).2.length ≠ ns) :
    Calls Try.prog 24 #[.slice As ns cs, .slice A n c, .int .i64 t] w (FNo w) := by
  have H := Lib.hid h
  have hn := h.len_le
  have hns := hs.len_le
  have HSH := Lib.hid hsh
  have HV := Lib.hid hv
  have HNE := Lib.hid hne
  have q1 : ((n : Int) != t - 1) = false := by simpa using hnt
  have q2 : decide ((1024 : Int) < (ns : Int)) = false := by simp; omega
  have hmk := make_rows n (by have := vT_iff.1 hv; omega)
  have ht : IntKind.i64.wrap (t - 1) = t - 1 := by have := vT_iff.1 hv; rw [IntKind.wrap_i64]; omega
  clear h hs hsh hv hnt hne
  go_enter Try.func24, Try.ntmps24
  go_wp2_with fail
  refine (validShares_any _ _ _ _ _ H.out).mono ?_
  rintro e w1 ⟨rfl, hb1⟩
  have HB1 := Lib.hid hb1
  clear hb1
  rw [HSH.out]
  go_wp2_with fail
  refine (validT_any _ _).mono ?_
  rintro e w' ⟨rfl, rfl⟩
  rw [HV.out]
  go_wp2_with fail
  clear q1 q2 hmk ht
  obtain ⟨w2, hw2⟩ : ∃ w2, w2 = (w1.alloc (.cells #[.int .u8 0] 5)).alloc (.cells (Array.replicate n (.slice none 0 0)) 22) := ⟨_, rfl⟩
  have hb2 : Below w1.heap.size w1 w2 := by rw [hw2]; exact ((Below.refl _ _).alloc (Nat.le_refl _) _).alloc (by simp) _
  have HB2 := Lib.hid (below_then HB1.out hb2)
  rw [← hw2]
  clear hw2 hb2
  obtain ⟨g1, o1, A1, n1, c1, rfl, y1, y2, y3⟩ := H.out.at_ HB2.out h0
  have hn1 : n1 ≠ ns := by rw [← y3.1]; exact HNE.out
  have q3 : ((n1 : Int) != (ns : Int)) = true := by simp; omega
  have q4 : decide ((0 : Int) < (n : Int)) = true := by simp; omega
  obtain ⟨y, hy⟩ : ∃ y, y = (gS l 0).1 := ⟨_, rfl⟩
  rw [← hy] at y1
  clear hn1 y3 hy h1024
  go_loopw [8, 46] (fun _ i wr => i = .int .i64 0 ∧ wr = w2) (fun _ _ _ => 0)
  case atStart => exact ⟨rfl, rfl⟩
  case round =>
    obtain ⟨rfl, rfl⟩ := hrel
    have HB3 := Lib.hid (below_then HB2.out ((Below.refl _ wr).alloc (Nat.le_refl _) (.cells #[.int .i64 y, .slice A1 n1 c1] 33)))
    rw [Nat.zero_mul, Nat.add_zero] at y1 y2
    go_wp2_with fail
    go_ret2
    exact ⟨rfl, HB3.out⟩
end Go.Proofs.Ytakedococfklgaa
