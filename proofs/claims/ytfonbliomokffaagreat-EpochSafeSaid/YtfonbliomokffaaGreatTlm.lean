/- The reference's take, plainly: it gives what num gives, up to a bound. -/
import Derived.Test.YtfonbliomokffaaGreatTkm
namespace Go.Proofs.YtfonbliomokffaaGreat
open Go Gf

/-- Where the first byte under 128 stands, counted from 1. -/
def firstK : List UInt8 → Option Nat
 | [] => none
 | b :: r => if b.toNat < 128 then some 1 else (firstK r).map (· + 1)
def valL (l : List UInt8) : Nat := l.foldr (fun y a => y.toNat % 128 + 128 * a) 0
/-- The reference's take: the number, the other bytes, whether it counts. -/
def takeS (b : List UInt8) (most : Nat) : Nat × List UInt8 × Bool :=
 match firstK b with
 | some k => if k ≤ 6 then (valL (b.take k), b.drop k, decide (valL (b.take k) ≤ most) && decide (uv (valL (b.take k)) = b.take k)) else (0, [], false)
 | none => (0, [], false)
theorem first_uvf : ∀ (f n : Nat) (t : List UInt8), n < 128 ^ (f + 1) → firstK (uvf f n ++ t) = some (uvf f n).length
 | f, n, t, h => by
  by_cases hlt : n < 128
  ·
   rw [uvf_small f n hlt]
   show firstK (UInt8.ofNat n :: t) = _
   rw [firstK, if_pos (by rw [UInt8.toNat_ofNat']; omega)]; rfl
  ·
   cases f with
   | zero => exfalso; simp at h; omega
   | succ f =>
    rw [uvf_more f n hlt]
    show firstK ((UInt8.ofNat n ||| 128) :: (uvf f (n >>> 7) ++ t)) = _
    rw [firstK, if_neg (by rw [or_nat]; omega), first_uvf f (n >>> 7) t (by
     rw [Nat.shiftRight_eq_div_pow]
     rw [Nat.pow_succ] at h
     exact Nat.div_lt_of_lt_mul (by rw [Nat.mul_comm]; exact h))]
    rfl
theorem val_uvf : ∀ (f n : Nat), n < 128 ^ (f + 1) → valL (uvf f n) = n
 | f, n, h => by
  by_cases hlt : n < 128
  ·
   rw [uvf_small f n hlt]
   show (UInt8.ofNat n).toNat % 128 + 128 * 0 = n
   rw [UInt8.toNat_ofNat']; omega
  ·
   cases f with
   | zero => exfalso; simp at h; omega
   | succ f =>
    rw [uvf_more f n hlt]
    show (UInt8.ofNat n ||| 128).toNat % 128 + 128 * valL (uvf f (n >>> 7)) = n
    rw [or_nat, val_uvf f (n >>> 7) (by
     rw [Nat.shiftRight_eq_div_pow]
     rw [Nat.pow_succ] at h
     exact Nat.div_lt_of_lt_mul (by rw [Nat.mul_comm]; exact h)), Nat.shiftRight_eq_div_pow, show (2 : Nat) ^ 7 = 128 from rfl]
    omega
theorem uvf_short : ∀ (j f n : Nat), j ≤ f → n < 128 ^ (j + 1) → (uvf f n).length ≤ j + 1
 | j, f, n, hj, h => by
  by_cases hlt : n < 128
  ·
   rw [uvf_small f n hlt]; simp
  ·
   cases j with
   | zero => exfalso; simp at h; omega
   | succ j =>
    cases f with
    | zero => omega
    | succ f =>
     rw [uvf_more f n hlt, List.length_cons]
     have := uvf_short j f (n >>> 7) (by omega) (by
      rw [Nat.shiftRight_eq_div_pow]
      rw [Nat.pow_succ] at h
      exact Nat.div_lt_of_lt_mul (by rw [Nat.mul_comm]; exact h))
     omega
/-- take counts just where a number up to the bound is read, and gives that number and the rest. -/
theorem takeS_yes {b : List UInt8} {v k most : Nat} (h : num b = some (v, k)) (hm : most ≤ 1099511627776) (hv : v ≤ most) : takeS b most = (v, b.drop k, true) := by
 have h1 := num_enc h (by omega)
 have hk : k = (uv v).length := by
  have e : b = uv v ++ b.drop k := by rw [← h1, List.take_append_drop]
  have h2 := num_of v (b.drop k) (by omega)
  rw [← e, h] at h2
  exact (Prod.mk.inj (Option.some.inj h2)).2
 have hvv : v < 128 ^ (5 + 1) := Nat.lt_of_le_of_lt (Nat.le_trans hv hm) (by decide)
 have hf : firstK b = some k := by
  have h2 := first_uvf 10 v (b.drop k) (Nat.lt_of_lt_of_le hvv (by decide))
  rw [show uvf 10 v = uv v from rfl, ← hk] at h2
  rw [← h1, List.take_append_drop] at h2
  exact h2
 have h6 : k ≤ 6 := by rw [hk]; exact uvf_short 5 10 v (by decide) hvv
 have hval : valL (uv v) = v := val_uvf 10 v (Nat.lt_of_lt_of_le hvv (by decide))
 simp only [takeS, hf, if_pos h6, h1]
 simp [hval, hv]
theorem takeS_some {b : List UInt8} {most : Nat} (hm : most ≤ 1099511627776) (h : (takeS b most).2.2 = true) : ∃ v k, num b = some (v, k) ∧ v ≤ most ∧ takeS b most = (v, b.drop k, true) := by
 cases hf : firstK b with
 | none => simp [takeS, hf] at h
 | some k =>
  by_cases h6 : k ≤ 6
  ·
   simp only [takeS, hf, if_pos h6, Bool.and_eq_true, decide_eq_true_eq] at h
   obtain ⟨h1, h2⟩ := h
   have e : b = uv (valL (b.take k)) ++ b.drop k := by rw [h2, List.take_append_drop]
   have h3 := num_of (valL (b.take k)) (b.drop k) (by omega)
   rw [← e] at h3
   exact ⟨_, _, h3, h1, takeS_yes h3 hm h1⟩
  ·
   simp [takeS, hf, h6] at h
end Go.Proofs.YtfonbliomokffaaGreat
