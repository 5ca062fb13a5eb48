/- Contracts of package reedsolomon: factors, Row, oneLength; slices.Clone of rows. -/
import Derived.Test.YtoeeklkebcgmaaaRs2
namespace Go.Proofs.Ytoeeklkebcgmaaa
open Go.RowKit Gf

attribute [local go_sem] Gf.xor_bits Gf.and_bits Gf.or_bits Gf.ne_zero_iff Gf.eq_zero_iff Gf.eq_one_iff Gf.beq_bytes Gf.bne_bytes Gf.bv_toNat

theorem redS_rect {m : List (List UInt8)} {L np col : Nat} (h : Rect m L) : Rect (redS m np col).1 L ∧ (redS m np col).1.length = m.length := by
  cases hp : pvF m np col with
  | none => rw [redS_none hp]; exact ⟨h, rfl⟩
  | some f =>
    rw [redS_some hp]
    obtain ⟨h1, h2, _⟩ := pvF_spec hp
    exact ⟨clr_rect _ L np col _ (swp_rect m L np f h (by omega) h2) (by rw [swp_length]; omega), by rw [clr_length, swp_length]⟩
theorem red_rect {m : List (List UInt8)} {L : Nat} (h : Rect m L) : ∀ k, Rect (red m k).1 L ∧ (red m k).1.length = m.length
  | 0 => ⟨h, rfl⟩
  | k + 1 => by
    have ih := red_rect h k
    have := redS_rect (np := (red m k).2) (col := k) ih.1
    exact ⟨this.1, this.2.trans ih.2⟩
theorem invM_rect {m : List (List UInt8)} {n : Nat} (h : Rect m n) (hl : m.length = n) : Rect (invM m n) n := by
  intro i hi
  rw [invM_length] at hi
  rw [gR_eq (by rw [invM_length]; exact hi)]
  have hj : Rect (jmat m (idm n) n) (n + n) := fun k hk => by
    rw [jmat_length] at hk
    rw [jmat_get _ _ _ _ hk]
    exact jrow_length m (idm n) n k h (idm_rect n) (by rw [hl]; exact hk) (by rw [idm_length]; exact hk)
  have hr := red_rect hj n
  have := hr.1 i (by rw [hr.2, jmat_length]; exact hi)
  simp only [invM, List.getElem_map, List.getElem_range, invrow, elimI, List.length_drop, this]
  omega
theorem invT_rect {d : Nat} {z : List Nat} (h : d ≤ z.length) : Rect (invT d z) d := invM_rect (ofM_rect d _) (by rw [ofM_length, List.length_take]; omega)
theorem invT_length (d : Nat) (z : List Nat) : (invT d z).length = d := invM_length _ _

/-- The factors with which the first d of the pieces z give the pieces y. -/
def facM (d : Nat) (z y : List Nat) : List (List UInt8) := cmat (ofM d y) (invT d z) d y.length 0
theorem facM_length (d : Nat) (z y : List Nat) : (facM d z y).length = y.length := by rw [facM, cmat_length, ofM_length]

set_option maxHeartbeats 4000000 in
theorem factors_any (gt d : Nat) (A A' : Option Addr) (n n' c c' : Nat) (z y : List Nat) (w : World) (ht : Blk w gt 80 (tblA d 16 0)) (hd : d ≤ 8) (hd0 : 0 < d) (h : IS w A n c (ints z)) (hz : ∀ i, i < n → gN z i < 16) (hn : d ≤ n)
    (h' : IS w A' n' c' (ints y)) (hy : ∀ i, i < n' → gN y i < 16) (hn' : 0 < n') (hn64 : n' ≤ 64) (hreg : Reg d z) :
    Calls Try.prog 41 #[.pointer (some ⟨gt, 0, none⟩), .slice A n c, .slice A' n' c'] w (Rets (NewM 22 (facM d z y)) w) := by
  have hq : ((n' : Int) == 0) = false := by simp; omega
  have hyl : y.length = n' := by rw [← ints_length, h'.1]
  have hzl : z.length = n := by rw [← ints_length, h.1]
  have HY := Lib.hid hyl
  have HZL := Lib.hid hzl
  clear hyl hzl
  go_enter Try.func41, Try.ntmps41
  go_wp2_with fail
  refine (of_any gt d A' n' c' y w ht hd h' hy (by omega)).mono ?_
  rintro e w1 ⟨v, rfl, hv⟩
  obtain ⟨g1, n1, rfl, hn1, hms, hb1⟩ := hv.ms (by rw [ofM_length, HY.out]; unfold lim; omega)
  obtain rfl : n1 = n' := by rw [← hn1, ofM_length, HY.out]
  clear hv hn1
  go_wp2_with fail
  refine (inverse_t gt d A n c z w1 (ht.kept hb1) hd hd0 (h.kept hb1) hz hn hreg).mono ?_
  rintro e w2 ⟨v2, rfl, hv2⟩
  obtain ⟨g2, n2, rfl, hn2, hms2, hb2⟩ := hv2.ms (by rw [invT_length]; unfold lim; omega)
  obtain rfl : n2 = d := by rw [← hn2, invT_length]
  clear hv2 hn2
  go_wp2_with fail
  refine (mmul_any _ _ n1 n2 n1 n2 (ofM n2 y) (invT n2 z) n2 w2 (hms.kept hb2) hms2 (ofM_rect _ _) (invT_rect (by rw [HZL.out]; exact hn)) (by omega) hn' hn64 hd0 (by omega)).mono ?_
  rintro e w3 ⟨v3, rfl, g3, cs3, n3, rfl, hn3, hg3, hr3, hb3⟩
  have HR : Hid (NewM 22 (facM n2 z y) w (.slice (some ⟨g3, 0, none⟩) n3 n3) w3) := by
    unfold facM
    rw [HY.out]
    exact Lib.hid ⟨g3, cs3, n3, rfl, hn3, Nat.le_trans hb1.size (Nat.le_trans hb2.size hg3), hr3, below_then (below_then hb1 hb2) hb3⟩
  clear hn3 hr3 hb1 hb2 hb3 hms hms2
  go_wp2
  go_ret
  exact ⟨_, rfl, HR.out⟩

set_option maxHeartbeats 4000000 in
theorem factors_none (gt : Nat) (A A' : Option Addr) (n c c' : Nat) (w : World) :
    Calls Try.prog 41 #[.pointer (some ⟨gt, 0, none⟩), .slice A n c, .slice A' 0 c'] w fun e w' => e = .returned (.slice none 0 0) ∧ w = w' := by
  go_enter Try.func41, Try.ntmps41
  go_wp2_with fail
  go_ret
  exact ⟨rfl, rfl⟩

/-- v is a slice that reads as l, wherever it lies; nothing old has turned. -/
def GivesB (l : List UInt8) (w : World) (v : Value) (w' : World) : Prop := ∃ A n c, v = .slice A n c ∧ BS w' A n c l ∧ Below w.heap.size w w'

set_option maxHeartbeats 4000000 in
theorem row_ok (d t i : Nat) (w : World) (hd : 1 ≤ d) (hd8 : d ≤ 8) (hdt : d ≤ t) (ht : t ≤ 16) (hi : i < t) :
    Calls Try.prog 10 #[.int .i64 (d : Int), .int .i64 (t : Int), .int .i64 (i : Int)] w (Rets0 (GivesB (crw d i)) w) := by
  have hv : vldB d t = true := vld_iff.2 (by omega)
  have q1 : decide ((i : Int) < 0) = false := by simp
  have q2 : decide ((t : Int) ≤ (i : Int)) = false := by simp; omega
  go_enter Try.func10, Try.ntmps10
  go_wp2_with fail
  refine (rsvalid_any _ _ _).mono ?_
  rintro e w' ⟨rfl, rfl⟩
  rw [hv]
  go_wp2_with fail
  refine (newTable_any d _ hd8).mono ?_
  rintro e w1 ⟨rfl, htab, hb1⟩
  go_wp2_with fail
  have hbA : Below w1.heap.size w1 (w1.alloc (.cells #[.int .i64 (i : Int)] 3)) := (Below.refl _ _).alloc (Nat.le_refl _) _
  have hIS : IS (w1.alloc (.cells #[.int .i64 (i : Int)] 3)) (some ⟨w1.heap.size, 0, none⟩) 1 1 (ints [i]) := ⟨rfl, Nat.le_refl _, by unfold lim; omega, fun k hk => by
    obtain rfl : k = 0 := by omega
    exact ⟨w1.heap.size, 0, rfl, by rw [(Blk.new w1 _ _).cell]; rfl⟩⟩
  have hz1 : ∀ k, k < 1 → gN [i] k < 16 := fun k hk => by
    obtain rfl : k = 0 := by omega
    show i < 16
    omega
  refine (of_any w.heap.size d _ 1 1 [i] _ (htab.kept hbA) hd8 hIS hz1 (by omega)).mono ?_
  rintro e w2 ⟨v, rfl, g, cs, n, rfl, hn, hg, hr, hb2⟩
  obtain rfl : n = 1 := by rw [← hn]; rfl
  obtain ⟨A, k, c, hc, hbs⟩ := hr.cell (i := 0) (by rw [ofM_length]; simp)
  have HR : Hid (GivesB (crw d i) w (.slice A k c) w2) := Lib.hid ⟨A, k, c, rfl, hbs, below_then (below_then hb1 hbA) hb2⟩
  clear hr hbs hIS htab hbA hb2 hb1 hn hg
  go_wp2_with fail
  go_ret2
  exact ⟨_, rfl, HR.out⟩

set_option maxHeartbeats 4000000 in
theorem row_bad (d t i : Int) (w : World) (h : ¬ (vldB d t = true ∧ 0 ≤ i ∧ i < t)) :
    Calls Try.prog 10 #[.int .i64 d, .int .i64 t, .int .i64 i] w fun e w' => e = .returned (.tuple #[.slice none 0 0, .int .i64 1]) ∧ w = w' := by
  cases hv : vldB d t with
  | false =>
    go_enter Try.func10, Try.ntmps10
    go_wp2_with (go_at_call 11; refine (rsvalid_any _ _ _).mono ?_; rintro e w' ⟨rfl, rfl⟩; rw [hv])
    go_ret2
    exact ⟨rfl, rfl⟩
  | true =>
    by_cases h1 : i < 0
    · have q1 : decide (i < 0) = true := by simpa using h1
      go_enter Try.func10, Try.ntmps10
      go_wp2_with (go_at_call 11; refine (rsvalid_any _ _ _).mono ?_; rintro e w' ⟨rfl, rfl⟩; rw [hv])
      go_ret2
      exact ⟨rfl, rfl⟩
    · have q1 : decide (i < 0) = false := by simpa using h1
      have q2 : decide (t ≤ i) = true := by simp; rw [hv] at h; simp at h; omega
      go_enter Try.func10, Try.ntmps10
      go_wp2_with (go_at_call 11; refine (rsvalid_any _ _ _).mono ?_; rintro e w' ⟨rfl, rfl⟩; rw [hv])
      go_ret2
      exact ⟨rfl, rfl⟩
end Go.Proofs.Ytoeeklkebcgmaaa
