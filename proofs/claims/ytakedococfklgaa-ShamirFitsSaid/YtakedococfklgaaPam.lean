/- Plain polynomials over the bytes: values, roots, uniqueness, Newton's and Lagrange's interpolation. -/
import Derived.Test.YtakedococfklgaaRe0m
import Derived.Test.YtakedococfklgaaB2
namespace Go.Proofs.Ytakedococfklgaa
open Go.RowKit Gf

namespace Py
theorem xor_z (a : UInt8) : a ^^^ 0 = a := by simp
theorem z_xor (a : UInt8) : 0 ^^^ a = a := by simp
theorem xor_ss (a : UInt8) : a ^^^ a = 0 := by simp
theorem xor_eq {a b : UInt8} (h : a ^^^ b = 0) : a = b := by
  have := congrArg (· ^^^ b) h
  simpa [xor_assoc] using this
theorem xor_ne0 {a b : UInt8} (h : a ≠ b) : a ^^^ b ≠ 0 := fun e => h (xor_eq e)
theorem mul_ne0 {a b : UInt8} (ha : a ≠ 0) (hb : b ≠ 0) : mul a b ≠ 0 := fun e => hb (by
  have h1 := congrArg (mul (inv a)) e
  rw [← mul_assoc, mul_comm (inv a) a, mul_inv a ha, one_mul, mul_zero] at h1
  exact h1)
theorem mul_z {a b : UInt8} (h : mul a b = 0) (ha : a ≠ 0) : b = 0 := Classical.byContradiction fun hb => mul_ne0 ha hb h
theorem xor4c (a b c d : UInt8) : (a ^^^ b) ^^^ (c ^^^ d) = (a ^^^ c) ^^^ (b ^^^ d) := by
  rw [xor_assoc, xor_assoc, ← xor_assoc b, xor_comm b c, xor_assoc c]

theorem mul_rot (a i y : UInt8) : mul (mul i y) a = mul (mul a i) y := by rw [mul_comm (mul i y) a, mul_assoc]

/-! ### values through the coefficients -/
theorem rvK_more (p : List UInt8) (x : UInt8) : ∀ k, rvK p x (p.length + k) = rvK p x p.length
  | 0 => rfl
  | k + 1 => by rw [← Nat.add_assoc, rvK, rvK_more p x k, gB_ge (by omega), zero_mul, xor_z]
theorem ev_rvK (p : List UInt8) (x : UInt8) {n : Nat} (h : p.length ≤ n) : ev p x = rvK p x n := by
  obtain ⟨k, rfl⟩ : ∃ k, n = p.length + k := ⟨n - p.length, by omega⟩
  rw [rvK_more, ← rv_ev]; rfl
theorem rvK_congr {p q : List UInt8} (x : UInt8) : ∀ n, (∀ k, k < n → gB p k = gB q k) → rvK p x n = rvK q x n
  | 0, _ => rfl
  | n + 1, h => by rw [rvK, rvK, rvK_congr x n (fun k hk => h k (by omega)), h n (by omega)]
theorem ev_congr {p q : List UInt8} (h : ∀ k, gB p k = gB q k) (x : UInt8) : ev p x = ev q x := by
  rw [ev_rvK p x (Nat.le_max_left p.length q.length), ev_rvK q x (Nat.le_max_right p.length q.length)]
  exact rvK_congr x _ (fun k _ => h k)
theorem ev_trim (p : List UInt8) (x : UInt8) : ev (trim p) x = ev p x := ev_congr (gB_trim p) x
theorem rvK_lin {r p q : List UInt8} (a x : UInt8) : ∀ n, (∀ k, k < n → gB r k = gB p k ^^^ mul a (gB q k)) → rvK r x n = rvK p x n ^^^ mul a (rvK q x n)
  | 0, _ => by show (0 : UInt8) = 0 ^^^ mul a 0; rw [mul_zero]; rfl
  | n + 1, h => by
    rw [rvK, rvK, rvK, rvK_lin a x n (fun k hk => h k (by omega)), h n (by omega), xor_mul, mul_xor, ← mul_assoc, xor4c]
theorem ev_lin {r p q : List UInt8} (a x : UInt8) (h : ∀ k, gB r k = gB p k ^^^ mul a (gB q k)) : ev r x = ev p x ^^^ mul a (ev q x) := by
  have h1 : r.length ≤ r.length + p.length + q.length := by omega
  have h2 : p.length ≤ r.length + p.length + q.length := by omega
  have h3 : q.length ≤ r.length + p.length + q.length := by omega
  rw [ev_rvK r x h1, ev_rvK p x h2, ev_rvK q x h3]
  exact rvK_lin a x _ (fun k _ => h k)
theorem gB_addAt0 {l q : List UInt8} (a : UInt8) (h : q.length ≤ l.length) (k : Nat) : gB (addAt l 0 q a) k = gB l k ^^^ mul a (gB q k) := by
  by_cases hk : k < l.length
  · rw [gB_addAt _ _ _ _ hk, if_pos (Nat.zero_le _), Nat.sub_zero]
  · rw [gB_ge (by rw [addAt_length]; omega), gB_ge (l := l) (by omega), gB_ge (l := q) (by omega), mul_zero, xor_z]
theorem ev_addAt0 {l q : List UInt8} (a x : UInt8) (h : q.length ≤ l.length) : ev (addAt l 0 q a) x = ev l x ^^^ mul a (ev q x) := ev_lin a x (gB_addAt0 a h)
theorem ev_tr (p : List UInt8) (r x : UInt8) : ev (tr p r) x = mul (x ^^^ r) (ev p x) := by
  rw [tr, ev_addAt0 r x (by simp), ev_cons, xor_z, xor_mul, mul_comm (ev p x) x]
theorem ev_zeros (n : Nat) (x : UInt8) : ev (zeros n) x = 0 := by
  rw [ev_congr (q := []) (fun k => by
    by_cases h : k < n
    · rw [gB_eq (by rw [zeros_length]; exact h), gB_ge (l := []) (by simp)]; simp [zeros]
    · rw [gB_ge (by rw [zeros_length]; omega), gB_ge (l := []) (by simp)]) x]
  rfl
theorem ev_xorL (p q : List UInt8) (x : UInt8) : ev (xorL p q) x = ev p x ^^^ ev q x := by
  have := ev_lin (r := xorL p q) (p := p) (q := q) 1 x (fun k => by rw [gB_xorL, one_mul])
  rw [one_mul] at this; exact this

/-! ### roots -/
/-- p through x + r. -/
def sd (p : List UInt8) (r : UInt8) : List UInt8 := tab (p.length - 1) (fun k => ev (p.drop (k + 1)) r)
theorem sd_length (p : List UInt8) (r : UInt8) : (sd p r).length = p.length - 1 := tab_length _ _
theorem gB_sd (p : List UInt8) (r : UInt8) (k : Nat) : gB (sd p r) k = ev (p.drop (k + 1)) r := by
  by_cases h : k < p.length - 1
  · exact gB_tab _ h
  · rw [gB_ge (by rw [sd_length]; omega), List.drop_of_length_le (by omega)]; rfl
theorem sd_coef (p : List UInt8) (r : UInt8) (h : ev p r = 0) (k : Nat) : gB p k = gB (tr (sd p r) r) k := by
  rw [tr, gB_addAt0 r (by simp)]
  by_cases hk : k < p.length
  · have h1 := ev_drop p r k hk
    have h2 : gB p k = ev (p.drop k) r ^^^ mul (ev (p.drop (k + 1)) r) r := by rw [h1, xor_comm, ← xor_assoc, xor_ss, z_xor]
    rw [h2, gB_sd, mul_comm]
    congr 1
    cases k with
    | zero => simpa [gB] using h
    | succ k => rw [gB_cons_succ, gB_sd]
  · rw [gB_ge (by omega), gB_sd, List.drop_of_length_le (by omega), ev_nil, mul_zero, xor_z]
    cases k with
    | zero => rfl
    | succ k => rw [gB_cons_succ, gB_sd, List.drop_of_length_le (by omega), ev_nil]
theorem roots_zero : ∀ (xs p : List UInt8), Dst xs → p.length ≤ xs.length → (∀ i, i < xs.length → ev p (gB xs i) = 0) → ∀ k, gB p k = 0
  | [], p, _, hl, _, k => gB_ge (by have h0 : p.length ≤ 0 := hl; omega)
  | r :: xs, p, hd, hl, hz, k => by
    have h0 : ev p r = 0 := by have := hz 0 (by simp); simpa [gB] using this
    have ih := roots_zero xs (sd p r) (fun i j hij hj => by
      have := hd (i + 1) (j + 1) (by omega) (by simpa using hj)
      rw [gB_cons_succ, gB_cons_succ] at this; exact this) (by rw [sd_length]; simp at hl; omega) (fun i hi => by
      have h1 := hz (i + 1) (by simpa using hi)
      rw [gB_cons_succ, ev_congr (sd_coef p r h0), ev_tr] at h1
      refine mul_z h1 (xor_ne0 fun e => ?_)
      have h2 := hd 0 (i + 1) (by omega) (by simpa using hi)
      rw [gB_cons_succ] at h2
      exact h2 (by rw [e]; simp [gB]))
    rw [sd_coef p r h0, tr, gB_addAt0 r (by simp), ih, mul_zero, xor_z]
    cases k with
    | zero => rfl
    | succ k => rw [gB_cons_succ, ih]
theorem unique {xs p q : List UInt8} (hd : Dst xs) (hp : p.length ≤ xs.length) (hq : q.length ≤ xs.length) (h : ∀ i, i < xs.length → ev p (gB xs i) = ev q (gB xs i)) : ∀ k, gB p k = gB q k := fun k => by
  have h1 := roots_zero xs (xorL p q) hd (by rw [xorL, tab_length]; omega) (fun i hi => by rw [ev_xorL, h i hi, xor_ss]) k
  rw [gB_xorL] at h1
  exact xor_eq h1
theorem unique_ev {xs p q : List UInt8} (hd : Dst xs) (hp : p.length ≤ xs.length) (hq : q.length ≤ xs.length) (h : ∀ i, i < xs.length → ev p (gB xs i) = ev q (gB xs i)) (x : UInt8) : ev p x = ev q x := ev_congr (unique hd hp hq h) x

/-! ### Newton -/
def prX (xs : List UInt8) (x : UInt8) : Nat → UInt8
  | 0 => 1
  | k + 1 => mul (x ^^^ gB xs k) (prX xs x k)
theorem prX_zero {xs : List UInt8} {i : Nat} : ∀ {k}, i < k → prX xs (gB xs i) k = 0
  | k + 1, h => by
    rw [prX]
    by_cases e : i = k
    · rw [e, xor_ss, zero_mul]
    · rw [prX_zero (by omega : i < k), mul_zero]
theorem prX_ne {xs : List UInt8} {x : UInt8} : ∀ k, (∀ i, i < k → gB xs i ≠ x) → prX xs x k ≠ 0
  | 0, _ => by show (1 : UInt8) ≠ 0; decide
  | k + 1, h => mul_ne0 (xor_ne0 fun e => h k (by omega) e.symm) (prX_ne k fun i hi => h i (by omega))
theorem it_basis (xs ys : List UInt8) (x : UInt8) : ∀ k, ev (itK xs ys k).2 x = prX xs x k
  | 0 => by show mul 0 x ^^^ 1 = 1; rw [zero_mul]; rfl
  | k + 1 => by rw [itK, prX, ← it_basis xs ys x k]; exact ev_tr _ _ _
theorem it_step (xs ys : List UInt8) (x : UInt8) (k : Nat) (hk : k < xs.length) : ev (itK xs ys (k + 1)).1 x = ev (itK xs ys k).1 x ^^^ mul (dv (gB ys k ^^^ ev (itK xs ys k).1 (gB xs k)) (prX xs (gB xs k) k)) (prX xs x k) := by
  rw [← it_basis xs ys (gB xs k) k, ← it_basis xs ys x k]
  exact ev_addAt0 _ _ (by rw [itK_length1, itK_length2]; omega)
theorem it_value {xs ys : List UInt8} (hd : Dst xs) : ∀ k, k ≤ xs.length → ∀ i, i < k → ev (itK xs ys k).1 (gB xs i) = gB ys i
  | k + 1, hk, i, hi => by
    rw [it_step xs ys _ k (by omega)]
    by_cases e : i = k
    · subst e
      have h1 : prX xs (gB xs i) i ≠ 0 := prX_ne i fun j hj => hd j i hj (by omega)
      rw [dv, if_neg h1, mul_assoc, mul_comm (inv _), mul_inv _ h1, mul_one, xor_comm (gB ys i), ← xor_assoc, xor_ss, z_xor]
    · rw [prX_zero (by omega : i < k), mul_zero, xor_z]
      exact it_value hd k (by omega) i (by omega)
theorem itP_length (xs ys : List UInt8) : (itP xs ys).length ≤ xs.length := by
  rw [itP, trim_length]
  have := tl_le (itK xs ys xs.length).1
  rw [itK_length1] at this
  exact this
theorem itP_value {xs ys : List UInt8} (hd : Dst xs) {i : Nat} (hi : i < xs.length) : ev (itP xs ys) (gB xs i) = gB ys i := by
  rw [itP, ev_trim]; exact it_value hd _ (Nat.le_refl _) i hi

/-! ### Lagrange -/
/-- The product over the others is the value of a polynomial. -/
theorem lg_poly (l : List (Int × List UInt8)) (i : Nat) : ∀ k, ∃ q : List UInt8, q.length ≤ (if i < k then k else k + 1) ∧ ∀ x, ev q x = lgA l x i k
  | 0 => ⟨[1], by simp, fun x => by show mul 0 x ^^^ 1 = 1; rw [zero_mul]; rfl⟩
  | k + 1 => by
    obtain ⟨q, h1, h2⟩ := lg_poly l i k
    by_cases e : k = i
    · refine ⟨q, ?_, fun x => by rw [lgA, if_pos e, h2]⟩
      rw [if_neg (by omega)] at h1
      rw [if_pos (by omega)]; exact h1
    · refine ⟨tr q (gX l k), ?_, fun x => by rw [lgA, if_neg e, ev_tr, h2, mul_comm]⟩
      rw [tr_length]
      by_cases h3 : i < k
      · rw [if_pos h3] at h1; rw [if_pos (by omega)]; omega
      · rw [if_neg h3] at h1; rw [if_neg (by omega)]; omega
theorem lgA_zero (l : List (Int × List UInt8)) {i j : Nat} (hij : j ≠ i) : ∀ {k}, j < k → lgA l (gX l j) i k = 0
  | k + 1, h => by
    rw [lgA]
    by_cases e : k = i
    · rw [if_pos e]; exact lgA_zero l hij (by omega)
    · rw [if_neg e]
      by_cases e2 : j = k
      · rw [e2, xor_ss, mul_zero]
      · rw [lgA_zero l hij (by omega : j < k), zero_mul]
theorem lgA_ne (l : List (Int × List UInt8)) {i : Nat} : ∀ k, (∀ j, j < k → j ≠ i → gX l j ≠ gX l i) → lgA l (gX l i) i k ≠ 0
  | 0, _ => by show (1 : UInt8) ≠ 0; decide
  | k + 1, h => by
    rw [lgA]
    by_cases e : k = i
    · rw [if_pos e]; exact lgA_ne l k fun j hj => h j (by omega)
    · rw [if_neg e]
      exact mul_ne0 (lgA_ne l k fun j hj => h j (by omega)) (xor_ne0 fun e' => h k (by omega) e e'.symm)
/-- The elements of shares. -/
def xsU (l : List (Int × List UInt8)) : List UInt8 := tab l.length (gX l)
theorem xsU_length (l : List (Int × List UInt8)) : (xsU l).length = l.length := tab_length _ _
theorem gB_xsU {l : List (Int × List UInt8)} {k : Nat} (h : k < l.length) : gB (xsU l) k = gX l k := gB_tab _ h
theorem dst_ne {l : List (Int × List UInt8)} (hd : Dst (xsU l)) {i j : Nat} (hi : i < l.length) (hj : j < l.length) (hij : j ≠ i) : gX l j ≠ gX l i := fun e => by
  rcases Nat.lt_or_gt_of_ne hij with h | h
  · have := hd j i h (by rw [xsU_length]; exact hi)
    rw [gB_xsU hi, gB_xsU hj] at this; exact this e
  · have := hd i j h (by rw [xsU_length]; exact hj)
    rw [gB_xsU hi, gB_xsU hj] at this; exact this e.symm
theorem gB_mad {dst src : List UInt8} {c : UInt8} {i : Nat} (h : dst.length = src.length) (hi : i < src.length) : gB (muladd dst src c) i = mul c (gB src i) ^^^ gB dst i := by
  have h1 : i < (muladd dst src c).length := by rw [muladd_length _ _ _ h]; exact hi
  rw [gB_eq h1, gB_eq hi, gB_eq (by omega)]
  simp [muladd]
theorem vl_poly {l : List (Int × List UInt8)} {L b : Nat} (hE : Eql l L) (hb : b < L) : ∀ k, k ≤ l.length → ∃ s : List UInt8, s.length ≤ l.length ∧ ∀ x, ev s x = gB (vlK l x L k) b
  | 0, _ => ⟨[], Nat.zero_le _, fun x => by
    show (0 : UInt8) = gB (zeros L) b
    rw [gB_eq (by rw [zeros_length]; exact hb)]; simp [zeros]⟩
  | k + 1, h => by
    obtain ⟨s, h1, h2⟩ := vl_poly hE hb k (by omega)
    obtain ⟨q, h3, h4⟩ := lg_poly l k l.length
    rw [if_pos (by omega)] at h3
    by_cases hz : lgA l (gX l k) k l.length = 0
    · refine ⟨s, h1, fun x => ?_⟩
      rw [vlK, gB_mad (by rw [vlK_length hE x k (by omega), hE k (by omega)]) (by rw [hE k (by omega)]; exact hb), lgF, dv, if_pos hz, zero_mul, z_xor, h2]
    · refine ⟨xorL s (xorL [] (addAt (zeros l.length) 0 q (mul (inv (lgA l (gX l k) k l.length)) (gB (gS l k).2 b)))), ?_, fun x => ?_⟩
      · rw [xorL, tab_length, xorL, tab_length, addAt_length, zeros_length, List.length_nil]; omega
      · rw [ev_xorL, ev_xorL, ev_nil, z_xor, ev_addAt0 _ _ (by rw [zeros_length]; exact h3), ev_zeros, z_xor, h2, h4, vlK, gB_mad (by rw [vlK_length hE x k (by omega), hE k (by omega)]) (by rw [hE k (by omega)]; exact hb), lgF, dv, if_neg hz, xor_comm, mul_rot]
theorem vl_at {l : List (Int × List UInt8)} {L b : Nat} (hE : Eql l L) (hb : b < L) (hd : Dst (xsU l)) {j : Nat} (hj : j < l.length) : ∀ k, k ≤ l.length → gB (vlK l (gX l j) L k) b = if j < k then gB (gS l j).2 b else 0
  | 0, _ => by
    rw [if_neg (by omega)]
    show gB (zeros L) b = 0
    rw [gB_eq (by rw [zeros_length]; exact hb)]; simp [zeros]
  | k + 1, h => by
    rw [vlK, gB_mad (by rw [vlK_length hE _ k (by omega), hE k (by omega)]) (by rw [hE k (by omega)]; exact hb), vl_at hE hb hd hj k (by omega), lgF]
    by_cases e : j = k
    · subst e
      have h1 := lgA_ne l (i := j) l.length fun i hi hij => dst_ne hd hj hi hij
      rw [if_neg (by omega), if_pos (by omega), dv, if_neg h1, mul_inv _ h1, one_mul, xor_z]
    · rw [lgA_zero l e hj, dv]
      have : (if lgA l (gX l k) k l.length = 0 then (0 : UInt8) else mul 0 (inv (lgA l (gX l k) k l.length))) = 0 := by split; rfl; exact zero_mul _
      rw [this, zero_mul, z_xor]
      by_cases h2 : j < k
      · rw [if_pos h2, if_pos (by omega)]
      · rw [if_neg h2, if_neg (by omega)]
/-- Lagrange's value is that of the polynomial through the shares. -/
theorem vl_ev {l : List (Int × List UInt8)} {L b : Nat} (hE : Eql l L) (hb : b < L) (hd : Dst (xsU l)) {p : List UInt8} (hp : p.length ≤ l.length) (hv : ∀ j, j < l.length → ev p (gX l j) = gB (gS l j).2 b) (x : UInt8) : gB (vlK l x L l.length) b = ev p x := by
  obtain ⟨s, h1, h2⟩ := vl_poly hE hb l.length (Nat.le_refl _)
  rw [← h2]
  refine unique_ev hd (by rw [xsU_length]; exact h1) (by rw [xsU_length]; exact hp) (fun i hi => ?_) x
  rw [xsU_length] at hi
  rw [gB_xsU hi, h2, hv i hi, vl_at hE hb hd hi _ (Nat.le_refl _), if_pos hi]
end Py
end Go.Proofs.Ytakedococfklgaa
