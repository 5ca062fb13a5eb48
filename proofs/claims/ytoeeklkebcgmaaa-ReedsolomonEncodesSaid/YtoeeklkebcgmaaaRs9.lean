/- Contracts of package reedsolomon: the refusals of Encode, Repair, Coefficients. -/
import Derived.Test.YtoeeklkebcgmaaaRs8
namespace Go.Proofs.Ytoeeklkebcgmaaa
open Go.RowKit Gf

attribute [local go_sem] Gf.xor_bits Gf.and_bits Gf.or_bits Gf.ne_zero_iff Gf.eq_zero_iff Gf.eq_one_iff Gf.beq_bytes Gf.bne_bytes Gf.bv_toNat

set_option maxHeartbeats 4000000 in
theorem encode_bad (d t : Int) (A : Option Addr) (n c : Nat) (blocks : List (List UInt8)) (w : World) (h : MS w A n c blocks) (hbad : ¬ (vldB d t = true ∧ 0 < n ∧ (n : Int) ≤ d ∧ oneB blocks = true)) :
    Calls Try.prog 16 #[.int .i64 d, .int .i64 t, .slice A n c] w fun e w' => e = .returned (.tuple #[.slice none 0 0, .int .i64 1]) ∧ w = w' := by
  have hn := h.len_le
  cases hv : vldB d t with
  | false =>
    go_enter Try.func16, Try.ntmps16
    go_wp2_with (go_at_call 11; refine (rsvalid_any _ _ _).mono ?_; rintro e w' ⟨rfl, rfl⟩; rw [hv])
    go_ret2
    exact ⟨rfl, rfl⟩
  | true =>
    by_cases h1 : n = 0
    · have q1 : ((n : Int) == 0) = true := by simp [h1]
      have H1 := Lib.hid h1
      clear h1 hbad h
      go_enter Try.func16, Try.ntmps16
      go_wp2_with (go_at_call 11; refine (rsvalid_any _ _ _).mono ?_; rintro e w' ⟨rfl, rfl⟩; rw [hv])
      go_ret2
      exact ⟨rfl, rfl⟩
    · have q1 : ((n : Int) == 0) = false := by simp; omega
      by_cases h2 : d < (n : Int)
      · have q2 : decide (d < (n : Int)) = true := by simpa using h2
        clear hbad h
        go_enter Try.func16, Try.ntmps16
        go_wp2_with (go_at_call 11; refine (rsvalid_any _ _ _).mono ?_; rintro e w' ⟨rfl, rfl⟩; rw [hv])
        go_ret2
        exact ⟨rfl, rfl⟩
      · have q2 : decide (d < (n : Int)) = false := by simpa using h2
        have ho : oneB blocks = false := by
          cases ho : oneB blocks with
          | false => rfl
          | true => exact absurd ⟨hv, by omega, by omega, ho⟩ hbad
        have H := Lib.hid h
        clear hbad h
        go_enter Try.func16, Try.ntmps16
        go_wp2_with fail
        refine (rsvalid_any _ _ _).mono ?_
        rintro e w' ⟨rfl, rfl⟩
        rw [hv]
        go_wp2_with fail
        refine (oneLength_any A n c blocks _ H.out).mono ?_
        rintro e w' ⟨rfl, rfl⟩
        rw [ho]
        go_wp2_with fail
        go_ret2
        exact ⟨rfl, rfl⟩

set_option maxHeartbeats 4000000 in
theorem coeff_ok (d t i : Nat) (A : Option Addr) (n c : Nat) (z : List Nat) (w : World) (h : IS w A n c (ints z))
    (hok : ixE d t (ints z) = 0) (hd : 1 ≤ d) (hd8 : d ≤ 8) (ht : t ≤ 16) (hi : i < t) (hz : ∀ i, i < n → gN z i < 16) (hn : d ≤ n) (hreg : Reg d z) :
    Calls Try.prog 29 #[.int .i64 (d : Int), .int .i64 (t : Int), .slice A n c, .int .i64 (i : Int)] w (Rets0 (GivesB (fac1 d z i)) w) := by
  have q1 : decide ((i : Int) < 0) = false := by simp
  have q2 : decide ((t : Int) ≤ (i : Int)) = false := by simp; omega
  have q3 : decide ((n : Int) < (d : Int)) = false := by simp; omega
  have HZ : Hid (z.length = n) := Lib.hid (by rw [← ints_length, h.1])
  have HI := Lib.hid h
  clear h
  go_enter Try.func29, Try.ntmps29
  go_wp2_with fail
  refine (checkIndices_any d t A n c (ints z) w HI.out).mono ?_
  rintro e w1 ⟨rfl, hb1⟩
  rw [hok]
  go_wp2_with fail
  refine (newTable_any d _ hd8).mono ?_
  rintro e w2 ⟨rfl, htab, hb2⟩
  go_wp2_with fail
  have hbA : Below w2.heap.size w2 (w2.alloc (.cells #[.int .i64 (i : Int)] 3)) := (Below.refl _ _).alloc (Nat.le_refl _) _
  refine (factors_any w1.heap.size d A _ n 1 c 1 z [i] _ (htab.kept hbA) hd8 hd (((HI.out.kept hb1).kept hb2).kept hbA) hz hn (one_int w2 i) (fun k hk => by
    obtain rfl : k = 0 := by omega
    show i < 16
    omega) (by omega) (by omega) hreg).mono ?_
  rintro e w3 ⟨v, rfl, g3, cs3, n3, rfl, hn3, hg3, hr3, hb3⟩
  obtain rfl : n3 = 1 := by rw [← hn3, facM_length]; rfl
  obtain ⟨A4, k4, c4, hc4, hbs⟩ := hr3.cell (i := 0) (by rw [facM_length]; simp)
  have HR : Hid (GivesB (fac1 d z i) w (.slice A4 k4 c4) w3) := Lib.hid ⟨A4, k4, c4, rfl, hbs, below_then (below_then (below_then hb1 hb2) hbA) hb3⟩
  clear hn3 hr3 hbs hb1 hb2 hbA hb3 htab hg3 HI
  go_wp2_with fail
  go_ret2
  exact ⟨_, rfl, HR.out⟩
end Go.Proofs.Ytoeeklkebcgmaaa
