/- A number is read exactly from its encoding: plainly. -/
import Derived.Test.YtfonbliomokffaaGreatBpm
namespace Go.Proofs.YtfonbliomokffaaGreat
open Go Gf

theorem byte_or : ∀ b : UInt8, 128 ≤ b.toNat → ∀ q : Nat, UInt8.ofNat (b.toNat % 128 + 128 * q) ||| 128 = b := by
 intro b hb q
 rw [← low_of]
 have h1 : (b.toNat % 128 + 128 * q) % 128 = b.toNat % 128 := by omega
 rw [h1]
 apply UInt8.toNat_inj.1
 rw [UInt8.toNat_add, UInt8.toNat_ofNat']
 have := b.toNat_lt
 show (b.toNat % 128 % 256 + 128) % 256 = b.toNat
 omega
theorem numG_uvf : ∀ (f i n : Nat) (r : List UInt8) (v k : Nat), numG (f + 1) i n r = some (v, k) → ∃ m, v = n + m * 2 ^ (7 * i) ∧ i < k ∧ r.take (k - i) = uvf f m ∧ (0 < i → 0 < m)
 | f, i, n, [], v, k, h => by cases h
 | f, i, n, b :: r, v, k, h => by
  unfold numG at h
  split at h
  ·
   rename_i hb
   cases f with
   | zero => cases r <;> cases h
   | succ f =>
    obtain ⟨m, h1, h2, h3, h4⟩ := numG_uvf f (i + 1) _ r v k h
    have hm := h4 (by omega)
    refine ⟨b.toNat % 128 + 128 * m, ?_, by omega, ?_, fun _ => by omega⟩
    ·
     rw [h1, show 7 * (i + 1) = 7 * i + 7 by omega, Nat.pow_add, Nat.add_mul, Nat.add_assoc]
     congr 2
     rw [show (2 : Nat) ^ 7 = 128 from rfl, Nat.mul_comm (2 ^ (7 * i)) 128, ← Nat.mul_assoc, Nat.mul_comm m 128]
    ·
     rw [uvf_more f _ (by omega), byte_or b hb m, Nat.shiftRight_eq_div_pow, show (b.toNat % 128 + 128 * m) / 2 ^ 7 = m by rw [show (2 : Nat) ^ 7 = 128 from rfl]; omega]
     rw [show k - i = (k - (i + 1)) + 1 by omega, List.take_succ_cons, h3]
  ·
   rename_i hb
   split at h
   ·
    cases h
   ·
    rename_i hc
    injection h with h
    injection h with h1 h2
    refine ⟨b.toNat, by rw [← h1, show b.toNat % 128 = b.toNat by omega], by omega, ?_, fun hi => by omega⟩
    rw [← h2, show i + 1 - i = 1 by omega, uvf_small f _ (by omega), UInt8.ofNat_toNat]
    rfl
theorem or_nat (m : Nat) : (UInt8.ofNat m ||| 128).toNat = m % 128 + 128 := by
 rw [← low_of, UInt8.toNat_add, UInt8.toNat_ofNat']
 show (m % 128 % 256 + 128) % 256 = _
 omega
theorem numG_of : ∀ (f i n m : Nat) (t : List UInt8), i + f = 9 → (0 < i → 0 < m) → m < 2 ^ (64 - 7 * i) → numG (f + 1) i n (uvf f m ++ t) = some (n + m * 2 ^ (7 * i), i + (uvf f m).length)
 | f, i, n, m, t, hf, h0, hm => by
  by_cases hlt : m < 128
  ·
   rw [uvf_small f m hlt]
   have hb : (UInt8.ofNat m).toNat = m := by rw [UInt8.toNat_ofNat']; omega
   show numG (f + 1) i n (UInt8.ofNat m :: t) = _
   unfold numG
   rw [hb, if_neg (by omega), if_neg, show m % 128 = m by omega]
   ·
    rfl
   ·
    rintro (⟨h1, h2⟩ | ⟨h1, h2⟩)
    ·
     have := h0 h1; omega
    ·
     subst h1
     have h3 : (2 : Nat) ^ (64 - 7 * 9) = 2 := rfl
     omega
  ·
   cases f with
   | zero =>
    exfalso
    obtain rfl : i = 9 := by omega
    have h3 : (2 : Nat) ^ (64 - 7 * 9) = 2 := rfl
    omega
   | succ f =>
    rw [uvf_more f m hlt]
    show numG (f + 1 + 1) i n ((UInt8.ofNat m ||| 128) :: (uvf f (m >>> 7) ++ t)) = _
    have hdiv : m >>> 7 = m / 128 := by rw [Nat.shiftRight_eq_div_pow]
    rw [numG, or_nat, if_pos (by omega), numG_of f (i + 1) _ (m >>> 7) t (by omega) (fun _ => by rw [hdiv]; omega) (by
     rw [hdiv]
     have h4 : 64 - 7 * i = (64 - 7 * (i + 1)) + 7 := by omega
     rw [h4, Nat.pow_add] at hm
     exact Nat.div_lt_of_lt_mul (by rw [Nat.mul_comm]; exact hm))]
    rw [hdiv, List.length_cons]
    congr 2
    ·
     rw [show 7 * (i + 1) = 7 * i + 7 by omega, Nat.pow_add, show (2 : Nat) ^ 7 = 128 from rfl, Nat.add_assoc, show (m % 128 + 128) % 128 = m % 128 by omega]
     congr 1
     rw [Nat.mul_comm (2 ^ (7 * i)) 128, ← Nat.mul_assoc, ← Nat.add_mul]
     congr 1
     omega
    ·
     omega
theorem uvf_next : ∀ (f n : Nat), n < 128 ^ (f + 1) → uvf f n = uvf (f + 1) n
 | 0, n, h => by rw [uvf_small 0 n (by simpa using h), uvf_small 1 n (by simpa using h)]
 | f + 1, n, h => by
  by_cases hlt : n < 128
  ·
   rw [uvf_small _ n hlt, uvf_small _ n hlt]
  ·
   rw [uvf_more f n hlt, uvf_more (f + 1) n hlt, uvf_next f (n >>> 7) (by
    rw [Nat.shiftRight_eq_div_pow]
    rw [Nat.pow_succ] at h
    exact Nat.div_lt_of_lt_mul (by rw [Nat.mul_comm]; exact h))]
theorem uv_nine {n : Nat} (h : n < 18446744073709551616) : uvf 9 n = uv n := uvf_next 9 n (Nat.lt_of_lt_of_le h (by decide))
/-- What is read is what encodes to the bytes. -/
theorem num_enc {r : List UInt8} {v k : Nat} (h : num r = some (v, k)) (hv : v < 18446744073709551616) : r.take k = uv v := by
 obtain ⟨m, h1, h2, h3, _⟩ := numG_uvf 9 0 0 r v k h
 have e : v = m := by simpa using h1
 subst e
 rw [← uv_nine hv, ← h3]; rfl
theorem num_of (v : Nat) (t : List UInt8) (hv : v < 18446744073709551616) : num (uv v ++ t) = some (v, (uv v).length) := by
 rw [← uv_nine hv]
 have := numG_of 9 0 0 v t rfl (fun h => by omega) (by simpa using hv)
 simpa [num] using this
end Go.Proofs.YtfonbliomokffaaGreat
