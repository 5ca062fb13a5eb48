/- Plain: the reference's products and its interpolation by Lagrange's formula; it is Newton's. -/
import Derived.Test.YtakedococfklgaaRe5m
import Derived.Test.YtakedococfklgaaPam
namespace Go.Proofs.Ytakedococfklgaa
open Go.RowKit Gf

namespace Py
theorem ev_shift (q : List UInt8) (x : UInt8) : ∀ o, ev (zeros o ++ q) x = mul (pw x o) (ev q x)
  | 0 => by show ev q x = mul 1 (ev q x); rw [one_mul]
  | o + 1 => by
    have e : zeros (o + 1) ++ q = 0 :: (zeros o ++ q) := by simp [zeros, List.replicate_succ]
    rw [e, ev_cons, ev_shift q x o, xor_z, pw, mul_comm (mul (pw x o) (ev q x)) x, ← mul_assoc, mul_comm x]
theorem gB_shift (q : List UInt8) (o k : Nat) : gB (zeros o ++ q) k = if o ≤ k then gB q (k - o) else 0 := by
  by_cases h : o ≤ k
  · rw [if_pos h]
    unfold gB
    rw [List.getD_eq_getElem?_getD, List.getD_eq_getElem?_getD, List.getElem?_append_right (by rw [zeros_length]; exact h), zeros_length]
  · rw [if_neg h]
    unfold gB
    rw [List.getD_eq_getElem?_getD, List.getElem?_append_left (by rw [zeros_length]; omega)]
    simp [zeros, show k < o by omega]
theorem ev_addAt {l q : List UInt8} (o : Nat) (a x : UInt8) (h : o + q.length ≤ l.length) : ev (addAt l o q a) x = ev l x ^^^ mul a (mul (pw x o) (ev q x)) := by
  rw [← ev_shift]
  refine ev_lin a x fun k => ?_
  rw [gB_shift]
  by_cases hk : k < l.length
  · rw [gB_addAt _ _ _ _ hk]
    by_cases ho : o ≤ k
    · rw [if_pos ho, if_pos ho]
    · rw [if_neg ho, if_neg ho, mul_zero, xor_z]
  · rw [gB_ge (by rw [addAt_length]; omega), gB_ge (l := l) (by omega)]
    by_cases ho : o ≤ k
    · rw [if_pos ho, gB_ge (l := q) (by omega), mul_zero]; rfl
    · rw [if_neg ho, mul_zero]; rfl
theorem ev_rcK (p q : List UInt8) (x : UInt8) : ∀ i, i ≤ p.length → ev (rcK p q i) x = mul (rvK p x i) (ev q x)
  | 0, _ => by rw [rcK, ev_zeros]; show 0 = mul 0 (ev q x); rw [zero_mul]
  | i + 1, h => by rw [rcK, ev_addAt _ _ _ (by rw [rcK_length]; omega), ev_rcK p q x i (by omega), rvK, xor_mul, mul_assoc]
theorem ev_rmP (p q : List UInt8) (x : UInt8) : ev (rmP p q) x = mul (ev p x) (ev q x) := by
  rw [rmP, ev_trim, ev_rcK p q x _ (Nat.le_refl _), ev_rvK p x (Nat.le_refl _)]
theorem rcK_zero (p q : List UInt8) : ∀ i, i ≤ p.length → ∀ j, i + q.length ≤ j + 1 → gB (rcK p q i) j = 0
  | 0, _, j, _ => by
    rw [rcK]
    by_cases h : j < p.length + q.length
    · rw [gB_eq (by rw [zeros_length]; exact h)]; simp [zeros]
    · exact gB_ge (by rw [zeros_length]; omega)
  | i + 1, h, j, hj => by
    rw [rcK]
    by_cases hl : j < (rcK p q i).length
    · rw [gB_addAt _ _ _ _ hl, rcK_zero p q i (by omega) j (by omega)]
      by_cases ho : i ≤ j
      · rw [if_pos ho, gB_ge (l := q) (by omega), mul_zero]; rfl
      · rw [if_neg ho]
    · exact gB_ge (by rw [addAt_length]; omega)
theorem tl_le_of {p : List UInt8} {n : Nat} (h : ∀ k, n ≤ k → gB p k = 0) : tl p ≤ n := by
  rcases Nat.lt_or_ge n (tl p) with h1 | h1
  · exact absurd (h (tl p - 1) (by omega)) (tl_top p (by omega))
  · exact h1
theorem rmP_length (p q : List UInt8) (hq : 1 ≤ q.length) : (rmP p q).length ≤ p.length + q.length - 1 := by
  rw [rmP, trim_length]
  exact tl_le_of fun k hk => rcK_zero p q _ (Nat.le_refl _) k (by omega)
theorem rmP_len {p q : List UInt8} {n : Nat} (hq : 1 ≤ q.length) (h : p.length + q.length ≤ n + 1) : (rmP p q).length ≤ n := by
  have := rmP_length p q hq; omega
theorem addP_length (p q : List UInt8) : (addP p q).length ≤ max p.length q.length := by
  rw [addP, trim_length]
  have := tl_le (xorL p q)
  rw [xorL, tab_length] at this; exact this
theorem ev_addP (p q : List UInt8) (x : UInt8) : ev (addP p q) x = ev p x ^^^ ev q x := by rw [addP, ev_trim, ev_xorL]

/-- Lagrange's basis after k rounds. -/
def bsK (xs : List UInt8) (i : Nat) : Nat → List UInt8
  | 0 => [1]
  | k + 1 => if k = i then bsK xs i k else rmP (rmP (bsK xs i k) [gB xs k, 1]) [inv (gB xs i ^^^ gB xs k)]
def riK (xs ys : List UInt8) : Nat → List UInt8
  | 0 => []
  | i + 1 => addP (riK xs ys i) (rmP (bsK xs i xs.length) [gB ys i])
theorem bsK_length (xs : List UInt8) (i : Nat) : ∀ k, (bsK xs i k).length ≤ (if i < k then k else k + 1)
  | 0 => by simp [bsK]
  | k + 1 => by
    have ih := bsK_length xs i k
    rw [bsK]
    by_cases e : k = i
    · rw [if_pos e, if_pos (by omega)]
      rw [if_neg (by omega)] at ih; exact ih
    · rw [if_neg e]
      by_cases h : i < k
      · rw [if_pos h] at ih
        rw [if_pos (by omega)]
        exact rmP_len (by simp) (by have := rmP_len (p := bsK xs i k) (q := [gB xs k, 1]) (n := k + 1) (by simp) (by simp; omega); simp; omega)
      · rw [if_neg h] at ih
        rw [if_neg (by omega)]
        exact rmP_len (by simp) (by have := rmP_len (p := bsK xs i k) (q := [gB xs k, 1]) (n := k + 1 + 1) (by simp) (by simp; omega); simp; omega)
theorem ev_one (c x : UInt8) : ev [c] x = c := by rw [ev_cons, ev_nil, zero_mul, z_xor]
theorem ev_lin2 (r x : UInt8) : ev [r, 1] x = x ^^^ r := by rw [ev_cons, ev_one, one_mul]
theorem bs_other {xs : List UInt8} {i j : Nat} (hij : j ≠ i) : ∀ {k}, j < k → ev (bsK xs i k) (gB xs j) = 0
  | k + 1, h => by
    rw [bsK]
    by_cases e : k = i
    · rw [if_pos e]; exact bs_other hij (by omega)
    · rw [if_neg e, ev_rmP, ev_rmP, ev_lin2]
      by_cases e2 : j = k
      · rw [e2, xor_ss, mul_zero, zero_mul]
      · rw [bs_other hij (by omega : j < k), zero_mul, zero_mul]
theorem bs_self {xs : List UInt8} (hd : Dst xs) {i : Nat} (hi : i < xs.length) : ∀ k, k ≤ xs.length → ev (bsK xs i k) (gB xs i) = 1
  | 0, _ => ev_one 1 _
  | k + 1, h => by
    rw [bsK]
    by_cases e : k = i
    · rw [if_pos e]; exact bs_self hd hi k (by omega)
    · have hne : gB xs i ^^^ gB xs k ≠ 0 := xor_ne0 (by
        rcases Nat.lt_or_gt_of_ne e with h1 | h1
        · exact fun e' => hd k i h1 hi e'.symm
        · exact hd i k h1 (by omega))
      rw [if_neg e, ev_rmP, ev_rmP, ev_lin2, ev_one, bs_self hd hi k (by omega), one_mul, mul_inv _ hne]
theorem riK_length (xs ys : List UInt8) : ∀ i, i ≤ xs.length → (riK xs ys i).length ≤ xs.length
  | 0, _ => Nat.zero_le _
  | i + 1, h => by
    have h1 := riK_length xs ys i (by omega)
    have h2 := bsK_length xs i xs.length
    rw [if_pos (by omega)] at h2
    have h3 := rmP_len (p := bsK xs i xs.length) (q := [gB ys i]) (n := xs.length) (by simp) (by simp; omega)
    have h4 := addP_length (riK xs ys i) (rmP (bsK xs i xs.length) [gB ys i])
    rw [riK]; omega
theorem riK_value {xs ys : List UInt8} (hd : Dst xs) {j : Nat} (hj : j < xs.length) : ∀ i, i ≤ xs.length → ev (riK xs ys i) (gB xs j) = if j < i then gB ys j else 0
  | 0, _ => by rw [if_neg (by omega)]; rfl
  | i + 1, h => by
    rw [riK, ev_addP, ev_rmP, ev_one, riK_value hd hj i (by omega)]
    by_cases e : j = i
    · subst e
      rw [bs_self hd hj _ (Nat.le_refl _), one_mul, if_neg (by omega), if_pos (by omega), z_xor]
    · rw [bs_other e hj, zero_mul, xor_z]
      by_cases h1 : j < i
      · rw [if_pos h1, if_pos (by omega)]
      · rw [if_neg h1, if_neg (by omega)]
theorem ri_it {xs ys : List UInt8} (hd : Dst xs) : trim (riK xs ys xs.length) = itP xs ys := by
  have h1 := unique (p := riK xs ys xs.length) (q := itP xs ys) hd (riK_length xs ys _ (Nat.le_refl _)) (itP_length xs ys) (fun i hi => by
    rw [riK_value hd hi _ (Nat.le_refl _), if_pos hi, itP_value hd hi])
  rw [trim_congr h1, itP, trim_trim]
end Py
end Go.Proofs.Ytakedococfklgaa
