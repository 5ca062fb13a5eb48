/- Several texts in one: Cau, Ker, Alg, Alg2. -/
import Derived.Test.YtoeeklkebcgmaaaA1
import Derived.Test.YtoeeklkebcgmaaaA2
import Derived.Test.YtoeeklkebcgmaaaA4
/- Sums over GF(256), and that the rows of a Cauchy matrix are independent: plain. -/
namespace Go.Proofs.Ytoeeklkebcgmaaa
open Gf

/-- The sum of f over a list. -/
def sumL (S : List UInt8) (f : UInt8 → UInt8) : UInt8 := (S.map f).foldr (· ^^^ ·) 0
theorem sumL_nil (f : UInt8 → UInt8) : sumL [] f = 0 := rfl
theorem sumL_cons (c : UInt8) (S : List UInt8) (f : UInt8 → UInt8) : sumL (c :: S) f = f c ^^^ sumL S f := rfl
theorem sumL_congr {S : List UInt8} {f g : UInt8 → UInt8} (h : ∀ c ∈ S, f c = g c) : sumL S f = sumL S g := by
  induction S with
  | nil => rfl
  | cons c S ih =>
    rw [sumL_cons, sumL_cons, h c (by simp), ih (fun x hx => h x (by simp [hx]))]
theorem sumL_xor (S : List UInt8) (f g : UInt8 → UInt8) : sumL S (fun c => f c ^^^ g c) = sumL S f ^^^ sumL S g := by
  induction S with
  | nil => simp [sumL_nil]
  | cons c S ih => rw [sumL_cons, sumL_cons, sumL_cons, ih, xor4]
theorem sumL_mul (S : List UInt8) (a : UInt8) (f : UInt8 → UInt8) : sumL S (fun c => mul a (f c)) = mul a (sumL S f) := by
  induction S with
  | nil => simp [sumL_nil, mul_zero]
  | cons c S ih => rw [sumL_cons, sumL_cons, ih, mul_xor]

theorem xor_ne {a b : UInt8} (h : a ≠ b) : a ^^^ b ≠ 0 := fun e => h (by
  have : a ^^^ b ^^^ b = b := by rw [e]; simp
  rwa [xor_assoc, xor_cancel, UInt8.xor_zero] at this)
theorem mul_eq_zero {a b : UInt8} (h : mul a b = 0) (ha : a ≠ 0) : b = 0 := by
  have : mul (inv a) (mul a b) = 0 := by rw [h, mul_zero]
  rwa [← mul_assoc, mul_comm (inv a) a, mul_inv a ha, one_mul] at this
theorem inv_ne {a : UInt8} (ha : a ≠ 0) : inv a ≠ 0 := fun e => by
  have := mul_inv a ha; rw [e, mul_zero] at this; exact absurd this (by decide)

/-- (r + c0) / (r + c) = 1 + (c + c0) / (r + c). -/
theorem frac (r c c0 : UInt8) (h : r ≠ c) : mul (r ^^^ c0) (inv (r ^^^ c)) = 1 ^^^ mul (c ^^^ c0) (inv (r ^^^ c)) := by
  have e : r ^^^ c0 = (r ^^^ c) ^^^ (c ^^^ c0) := by
    rw [xor_assoc, ← xor_assoc c c c0, xor_cancel, UInt8.zero_xor]
  conv => lhs; rw [e]
  rw [xor_mul, mul_inv _ (xor_ne h)]
/-- 1 / (r + c) + 1 / (r0 + c) = (r + r0) / ((r + c) (r0 + c)). -/
theorem frac2 (r r0 c : UInt8) (h : r ≠ c) (h0 : r0 ≠ c) : inv (r ^^^ c) ^^^ inv (r0 ^^^ c) = mul (r ^^^ r0) (mul (inv (r ^^^ c)) (inv (r0 ^^^ c))) := by
  have e : r ^^^ r0 = (r ^^^ c) ^^^ (r0 ^^^ c) := by
    rw [xor_comm r0 c, xor_assoc, ← xor_assoc c c r0, xor_cancel, UInt8.zero_xor]
  rw [e, xor_mul, ← mul_assoc, mul_inv _ (xor_ne h), one_mul, mul_comm (inv (r ^^^ c)), ← mul_assoc, mul_inv _ (xor_ne h0), one_mul, xor_comm]

theorem cauchy : ∀ (S R : List UInt8) (x : UInt8 → UInt8), S.Nodup → R.Nodup → (∀ r ∈ R, r ∉ S) → S.length ≤ R.length →
    (∀ r ∈ R, sumL S (fun c => mul (x c) (inv (r ^^^ c))) = 0) → ∀ c ∈ S, x c = 0 := by
  intro S
  induction S with
  | nil => intro R x _ _ _ _ _ c hc; cases hc
  | cons c0 S ih =>
    intro R x hS hR hd hl hE
    match R with
    | [] => simp at hl
    | r0 :: R =>
      rw [List.nodup_cons] at hS hR
      have hr0c0 : r0 ≠ c0 := fun e => hd r0 (by simp) (by simp [e])
      have hr0S : ∀ c ∈ S, r0 ≠ c := fun c hc e => hd r0 (by simp) (by simp [e, hc])
      have hE0 := hE r0 (by simp)
      rw [sumL_cons] at hE0
      -- the smaller system
      have key : ∀ c ∈ S, mul (x c) (mul (c ^^^ c0) (inv (r0 ^^^ c))) = 0 := by
        refine ih R (fun c => mul (x c) (mul (c ^^^ c0) (inv (r0 ^^^ c)))) hS.2 hR.2 (fun r hr hrS => hd r (by simp [hr]) (by simp [hrS])) (by simp at hl; omega) (fun r hr => ?_)
        have hrc0 : r ≠ c0 := fun e => hd r (by simp [hr]) (by simp [e])
        have hrS : ∀ c ∈ S, r ≠ c := fun c hc e => hd r (by simp [hr]) (by simp [e, hc])
        have hrr0 : r ≠ r0 := fun e => hR.1 (by rw [← e]; exact hr)
        have hEr := hE r (by simp [hr])
        rw [sumL_cons] at hEr
        -- (r + c0) E_r + (r0 + c0) E_r0 = 0
        have h1 : mul (r ^^^ c0) (sumL S (fun c => mul (x c) (inv (r ^^^ c)))) = x c0 := by
          have e1 : sumL S (fun c => mul (x c) (inv (r ^^^ c))) = mul (x c0) (inv (r ^^^ c0)) := by
            have := congrArg (fun t => mul (x c0) (inv (r ^^^ c0)) ^^^ t) hEr
            simp only [← xor_assoc, xor_cancel, UInt8.zero_xor, UInt8.xor_zero] at this
            exact this
          rw [e1, ← mul_assoc, mul_comm (r ^^^ c0), mul_assoc, mul_inv _ (xor_ne hrc0), mul_one]
        have h2 : mul (r0 ^^^ c0) (sumL S (fun c => mul (x c) (inv (r0 ^^^ c)))) = x c0 := by
          have e1 : sumL S (fun c => mul (x c) (inv (r0 ^^^ c))) = mul (x c0) (inv (r0 ^^^ c0)) := by
            have := congrArg (fun t => mul (x c0) (inv (r0 ^^^ c0)) ^^^ t) hE0
            simp only [← xor_assoc, xor_cancel, UInt8.zero_xor, UInt8.xor_zero] at this
            exact this
          rw [e1, ← mul_assoc, mul_comm (r0 ^^^ c0), mul_assoc, mul_inv _ (xor_ne hr0c0), mul_one]
        have h3 : mul (r ^^^ r0) (sumL S (fun c => mul (mul (x c) (mul (c ^^^ c0) (inv (r0 ^^^ c)))) (inv (r ^^^ c)))) = 0 := by
          have e2 : sumL S (fun c => mul (r ^^^ r0) (mul (mul (x c) (mul (c ^^^ c0) (inv (r0 ^^^ c)))) (inv (r ^^^ c)))) = sumL S (fun c => mul (r ^^^ c0) (mul (x c) (inv (r ^^^ c))) ^^^ mul (r0 ^^^ c0) (mul (x c) (inv (r0 ^^^ c)))) := by
            refine sumL_congr fun c hc => ?_
            have f1 := frac r c c0 (hrS c hc)
            have f2 := frac r0 c c0 (hr0S c hc)
            have f3 := frac2 r r0 c (hrS c hc) (hr0S c hc)
            have g1 : mul (r ^^^ c0) (mul (x c) (inv (r ^^^ c))) = mul (x c) (mul (r ^^^ c0) (inv (r ^^^ c))) := by rw [← mul_assoc, mul_comm (r ^^^ c0), mul_assoc]
            have g2 : mul (r0 ^^^ c0) (mul (x c) (inv (r0 ^^^ c))) = mul (x c) (mul (r0 ^^^ c0) (inv (r0 ^^^ c))) := by rw [← mul_assoc, mul_comm (r0 ^^^ c0), mul_assoc]
            rw [g1, g2, f1, f2, ← mul_xor]
            have g3 : (1 : UInt8) ^^^ mul (c ^^^ c0) (inv (r ^^^ c)) ^^^ (1 ^^^ mul (c ^^^ c0) (inv (r0 ^^^ c))) = mul (c ^^^ c0) (inv (r ^^^ c) ^^^ inv (r0 ^^^ c)) := by
              rw [xor4, xor_cancel, UInt8.zero_xor, mul_xor]
            rw [g3, f3]
            generalize inv (r ^^^ c) = p
            generalize inv (r0 ^^^ c) = q
            generalize c ^^^ c0 = s
            generalize r ^^^ r0 = u
            generalize x c = y
            have a1 : mul u (mul (mul y (mul s q)) p) = mul y (mul u (mul (mul s q) p)) := by
              rw [mul_assoc y, ← mul_assoc u y, mul_comm u y, mul_assoc]
            have a2 : mul u (mul (mul s q) p) = mul s (mul u (mul p q)) := by
              rw [mul_assoc s, mul_comm q p, ← mul_assoc u s, mul_comm u s, mul_assoc]
            rw [a1, a2]
          rw [sumL_mul] at e2
          rw [e2, sumL_xor, sumL_mul, sumL_mul, h1, h2, xor_cancel]
        exact mul_eq_zero h3 (xor_ne hrr0)
      have hxS : ∀ c ∈ S, x c = 0 := fun c hc => by
        have hne : c ≠ c0 := fun e => hS.1 (by rw [← e]; exact hc)
        have h4 := key c hc
        have h5 : mul (c ^^^ c0) (inv (r0 ^^^ c)) ≠ 0 := fun e => inv_ne (xor_ne (hr0S c hc)) (mul_eq_zero e (xor_ne hne))
        rw [mul_comm] at h4
        exact mul_eq_zero h4 h5
      intro c hc
      rcases List.mem_cons.1 hc with rfl | hc
      · have h6 : sumL S (fun c' => mul (x c') (inv (r0 ^^^ c'))) = 0 := by
          rw [sumL_congr (g := fun _ => 0) (fun c' hc' => by rw [hxS c' hc', zero_mul])]
          clear hE0 key hxS hE hd hl ih hS hr0S hc
          induction S with
          | nil => rfl
          | cons a S ih => rw [sumL_cons, ih]; simp
        rw [h6, UInt8.xor_zero, mul_comm] at hE0
        exact mul_eq_zero hE0 (inv_ne (xor_ne hr0c0))
      · exact hxS c hc
end Go.Proofs.Ytoeeklkebcgmaaa
/- Row reduction keeps the kernel; where the left part is injective every column has its pivot: plain. -/
namespace Go.Proofs.Ytoeeklkebcgmaaa
open Gf

def dot (r : List UInt8) (v : Nat → UInt8) : Nat → UInt8
  | 0 => 0
  | k + 1 => dot r v k ^^^ mul (gB r k) (v k)
theorem dot_congr {r r' : List UInt8} {v v' : Nat → UInt8} : ∀ {n : Nat}, (∀ k, k < n → mul (gB r k) (v k) = mul (gB r' k) (v' k)) → dot r v n = dot r' v' n
  | 0, _ => rfl
  | n + 1, h => by rw [dot, dot, h n (by omega), dot_congr (fun k hk => h k (by omega))]
theorem dot_map (r : List UInt8) (a : UInt8) (v : Nat → UInt8) : ∀ n, n ≤ r.length → dot (r.map (mul a)) v n = mul a (dot r v n)
  | 0, _ => by simp [dot, mul_zero]
  | n + 1, h => by
    have e : gB (r.map (mul a)) n = mul a (gB r n) := by rw [gB_eq (by simp; omega), gB_eq (by omega)]; simp
    rw [dot, dot, dot_map r a v n (by omega), e, mul_xor, mul_assoc]
theorem gB_muladd {dst src : List UInt8} {c : UInt8} {i : Nat} (h : dst.length = src.length) (hi : i < src.length) : gB (muladd dst src c) i = mul c (gB src i) ^^^ gB dst i := by
  rw [gB_eq (by rw [muladd_length _ _ _ h]; exact hi), gB_eq hi, gB_eq (by omega)]
  simp [muladd]
theorem dot_muladd {dst src : List UInt8} (c : UInt8) (v : Nat → UInt8) (h : dst.length = src.length) : ∀ n, n ≤ src.length → dot (muladd dst src c) v n = mul c (dot src v n) ^^^ dot dst v n
  | 0, _ => by simp [dot, mul_zero]
  | n + 1, hn => by
    rw [dot, dot, dot, dot_muladd c v h n (by omega), gB_muladd h (by omega), xor_mul, mul_xor, mul_assoc, xor4]
theorem dot_zero_v (r : List UInt8) (v : Nat → UInt8) : ∀ n, (∀ k, k < n → v k = 0) → dot r v n = 0
  | 0, _ => rfl
  | n + 1, h => by rw [dot, dot_zero_v r v n (fun k hk => h k (by omega)), h n (by omega), mul_zero]; simp
theorem dot_tail (r : List UInt8) (v : Nat → UInt8) (n : Nat) : ∀ j, (∀ k, n ≤ k → v k = 0) → dot r v (n + j) = dot r v n
  | 0, _ => rfl
  | j + 1, h => by rw [← Nat.add_assoc, dot, dot_tail r v n j h, h (n + j) (by omega), mul_zero]; simp
theorem gB_append_left {a b : List UInt8} {k : Nat} (h : k < a.length) : gB (a ++ b) k = gB a k := by
  simp [gB, List.getD, List.getElem?_append_left h]
theorem gB_append_right {a b : List UInt8} {k : Nat} : gB (a ++ b) (a.length + k) = gB b k := by
  rw [gB, gB, List.getD_eq_getElem?_getD, List.getD_eq_getElem?_getD, List.getElem?_append_right (by omega), Nat.add_sub_cancel_left]
theorem dot_append {a b : List UInt8} {v : Nat → UInt8} : ∀ n, dot (a ++ b) v (a.length + n) = dot a v a.length ^^^ dot b (fun k => v (a.length + k)) n
  | 0 => by
    rw [Nat.add_zero, dot_congr (r' := a) (v' := v) (fun k hk => by rw [gB_append_left hk])]
    simp [dot]
  | n + 1 => by rw [← Nat.add_assoc, dot, dot, dot_append n, gB_append_right, xor_assoc]
/-- The first columns are those of the identity. -/
theorem dot_delta (r : List UInt8) (v : Nat → UInt8) (i : Nat) : ∀ n, (∀ c, c < n → gB r c = if c = i then 1 else 0) → dot r v n = if i < n then v i else 0
  | 0, _ => rfl
  | n + 1, h => by
    rw [dot, dot_delta r v i n (fun c hc => h c (by omega)), h n (by omega)]
    by_cases e : n = i
    · subst e
      rw [if_pos rfl, if_neg (by omega), if_pos (by omega), one_mul]; simp
    · rw [if_neg e, zero_mul]
      by_cases h2 : i < n
      · rw [if_pos h2, if_pos (by omega)]; simp
      · rw [if_neg h2, if_neg (by omega)]; simp

def Ker (m : List (List UInt8)) (W : Nat) (v : Nat → UInt8) : Prop := ∀ i, i < m.length → dot (gR m i) v W = 0

theorem ker_swp {m : List (List UInt8)} {W i j : Nat} {v : Nat → UInt8} (hi : i < m.length) (hj : j < m.length) : Ker (swp m i j) W v ↔ Ker m W v := by
  constructor
  · intro h k hk
    by_cases e1 : k = i
    · subst e1
      have := h j (by rw [swp_length]; exact hj)
      rwa [swp_get _ _ _ _ hi hj hj, if_pos rfl] at this
    · by_cases e2 : k = j
      · subst e2
        have := h i (by rw [swp_length]; exact hi)
        rw [swp_get _ _ _ _ hi hj hi, if_neg (fun e => e1 e.symm), if_pos rfl] at this
        exact this
      · have := h k (by rw [swp_length]; exact hk)
        rwa [swp_get _ _ _ _ hi hj hk, if_neg e2, if_neg e1] at this
  · intro h k hk
    rw [swp_length] at hk
    rw [swp_get _ _ _ _ hi hj hk]
    split
    · exact h i hi
    · split
      · exact h j hj
      · exact h k hk

theorem dot_prow {m : List (List UInt8)} {W top col : Nat} (hr : Rect m W) (ht : top < m.length) (v : Nat → UInt8) : dot (prow m top col) v W = mul (inv (gB (gR m top) col)) (dot (gR m top) v W) := by
  rw [prow, dot_map _ _ _ _ (by rw [hr top ht]; exact Nat.le_refl _)]

theorem ker_clr {m : List (List UInt8)} {W top col : Nat} {v : Nat → UInt8} (hr : Rect m W) (ht : top < m.length) (hp : gB (gR m top) col ≠ 0) : Ker (clr m top col m.length) W v ↔ Ker m W v := by
  have hpl : (prow m top col).length = W := by rw [prow_length, hr top ht]
  constructor
  · intro h
    have h0 := h top (by rw [clr_length]; exact ht)
    rw [clr_get _ _ _ _ _ ht, clrow, if_pos rfl, dot_prow hr ht] at h0
    have ht0 : dot (gR m top) v W = 0 := mul_eq_zero h0 (inv_ne hp)
    intro k hk
    by_cases e : k = top
    · rw [e]; exact ht0
    · have h1 := h k (by rw [clr_length]; exact hk)
      rw [clr_get _ _ _ _ _ hk, clrow, if_neg e] at h1
      split at h1
      · rw [dot_muladd _ _ (by rw [hpl, hr k hk]) _ (by rw [hpl]; exact Nat.le_refl _), dot_prow hr ht, ht0, mul_zero, mul_zero, UInt8.zero_xor] at h1
        exact h1
      · exact h1
  · intro h k hk
    rw [clr_length] at hk
    rw [clr_get _ _ _ _ _ hk, clrow]
    split
    · rw [dot_prow hr ht, h top ht, mul_zero]
    · split
      · rw [dot_muladd _ _ (by rw [hpl, hr k hk]) _ (by rw [hpl]; exact Nat.le_refl _), dot_prow hr ht, h top ht, mul_zero, mul_zero, UInt8.zero_xor]
        exact h k hk
      · exact h k hk

theorem redS_keeps {m : List (List UInt8)} {W np col : Nat} (hr : Rect m W) : Rect (redS m np col).1 W ∧ (redS m np col).1.length = m.length := by
  cases hp : pvF m np col with
  | none => rw [redS_none hp]; exact ⟨hr, rfl⟩
  | some f =>
    obtain ⟨h1, h2, h3⟩ := pvF_spec hp
    rw [redS_some hp]
    exact ⟨clr_rect _ _ _ _ _ (swp_rect _ _ _ _ hr (by omega) h2) (by rw [swp_length]; omega), by rw [clr_length, swp_length]⟩
theorem ker_redS {m : List (List UInt8)} {W np col : Nat} {v : Nat → UInt8} (hr : Rect m W) : Ker (redS m np col).1 W v ↔ Ker m W v := by
  cases hp : pvF m np col with
  | none => rw [redS_none hp]
  | some f =>
    obtain ⟨h1, h2, h3⟩ := pvF_spec hp
    rw [redS_some hp]
    show Ker (clr (swp m np f) np col m.length) W v ↔ _
    have hpv : gB (gR (swp m np f) np) col ≠ 0 := by
      rw [swp_get _ _ _ _ (by omega) h2 (by omega)]
      by_cases e : np = f
      · rw [if_pos e, e]; exact h3
      · rw [if_neg e, if_pos rfl]; exact h3
    have := ker_clr (v := v) (swp_rect _ _ _ _ hr (by omega) h2) (by rw [swp_length]; omega) hpv
    rw [swp_length] at this
    rw [this, ker_swp (by omega) h2]
theorem red_keeps {m : List (List UInt8)} {W : Nat} (hr : Rect m W) : ∀ k, Rect (red m k).1 W ∧ (red m k).1.length = m.length
  | 0 => ⟨hr, rfl⟩
  | k + 1 => by
    have ih := red_keeps hr k
    have := redS_keeps (np := (red m k).2) (col := k) ih.1
    exact ⟨this.1, by rw [red, this.2, ih.2]⟩
theorem ker_red {m : List (List UInt8)} {W : Nat} {v : Nat → UInt8} (hr : Rect m W) : ∀ k, Ker (red m k).1 W v ↔ Ker m W v
  | 0 => Iff.rfl
  | k + 1 => by rw [red, ker_redS (red_keeps hr k).1, ker_red hr k]

/-- The columns before k are those of the identity. -/
def Unit' (m : List (List UInt8)) (k : Nat) : Prop := ∀ i, i < m.length → ∀ c, c < k → gB (gR m i) c = if c = i then 1 else 0

theorem unit_step {m : List (List UInt8)} {W k : Nat} (hr : Rect m W) (hkW : k < W) (hU : Unit' m k) {f : Nat} (hp : pvF m k k = some f) : Unit' (redS m k k).1 (k + 1) := by
  obtain ⟨h1, h2, h3⟩ := pvF_spec hp
  have hk : k < m.length := by omega
  rw [redS_some hp]
  show Unit' (clr (swp m k f) k k m.length) (k + 1)
  have hs := swp_rect _ _ _ _ hr hk h2
  have hsl : (swp m k f).length = m.length := swp_length _ _ _
  have hU' : Unit' (swp m k f) k := by
    intro i hi c hc
    rw [hsl] at hi
    rw [swp_get _ _ _ _ hk h2 hi]
    split
    · rename_i e
      rw [hU k hk c hc, if_neg (by omega), if_neg (by omega)]
    · split
      · rename_i e
        rw [hU f h2 c hc, if_neg (by omega), if_neg (by omega)]
      · exact hU i hi c hc
  have hpv : gB (gR (swp m k f) k) k ≠ 0 := by
    rw [swp_get _ _ _ _ hk h2 hk]
    by_cases e : k = f
    · rw [if_pos e]; rw [e]; rw [e] at h3; exact h3
    · rw [if_neg e, if_pos rfl]; exact h3
  generalize swp m k f = s at hs hsl hU' hpv
  have hkl : (gR s k).length = W := hs k (by omega)
  have hpg : ∀ c, c < W → gB (prow s k k) c = mul (inv (gB (gR s k) k)) (gB (gR s k) c) := fun c hc => by
    rw [prow]
    generalize inv (gB (gR s k) k) = q
    rw [gB_eq (by simp; omega), gB_eq (by omega)]; simp
  have hpl : (prow s k k).length = W := by rw [prow_length, hkl]
  intro i hi c hc
  rw [clr_length, hsl] at hi
  rw [clr_get _ _ _ _ _ (by omega), clrow]
  have hcW : c < W := by omega
  by_cases e : i = k
  · rw [if_pos e, hpg c hcW]
    by_cases ec : c = k
    · rw [ec, e, if_pos rfl, mul_comm, mul_inv _ hpv]
    · rw [hU' k (by omega) c (by omega), if_neg ec, mul_zero, e, if_neg ec]
  · rw [if_neg e]
    by_cases ec : c = k
    · rw [ec]
      rw [if_neg (show ¬ k = i from fun h => e h.symm)]
      by_cases hz : gB (gR s i) k = 0
      · rw [if_neg (fun h => h.2 hz)]; exact hz
      · rw [if_pos ⟨by omega, hz⟩, gB_muladd (by rw [hpl, hs i (by omega)]) (by rw [hpl]; exact hkW), hpg k hkW, mul_comm (inv _), mul_inv _ hpv, mul_one, xor_cancel]
    · have hcs : gB (gR s k) c = 0 := by rw [hU' k (by omega) c (by omega), if_neg ec]
      split
      · rw [gB_muladd (by rw [hpl, hs i (by omega)]) (by rw [hpl]; exact hcW), hpg c hcW, hcs, mul_zero, mul_zero, UInt8.zero_xor]
        exact hU' i (by omega) c (by omega)
      · exact hU' i (by omega) c (by omega)

theorem pvF_none_spec {m : List (List UInt8)} {top col : Nat} (h : pvF m top col = none) : ∀ j, top ≤ j → j < m.length → gB (gR m j) col = 0 := by
  intro j h1 h2
  unfold pvF at h
  rw [List.find?_eq_none] at h
  have := h j (List.mem_range.2 h2)
  simp only [Bool.and_eq_true, decide_eq_true_eq, not_and, bne_iff_ne, ne_eq, Decidable.not_not] at this
  exact this h1

/-- Where the left part is injective, every column has its pivot. -/
theorem reg_gen {m : List (List UInt8)} {W d : Nat} (hr : Rect m W) (hl : m.length = d) (hd : d ≤ W) (hinj : ∀ v : Nat → UInt8, (∀ c, d ≤ c → v c = 0) → Ker m W v → ∀ c, c < d → v c = 0) :
    ∀ k, k ≤ d → (red m k).2 = k ∧ Unit' (red m k).1 k := by
  intro k
  induction k with
  | zero => intro _; exact ⟨rfl, fun _ _ c hc => absurd hc (by omega)⟩
  | succ k ih =>
    intro hk
    obtain ⟨h1, h2⟩ := ih (by omega)
    obtain ⟨hR, hL⟩ := red_keeps hr k
    rw [hl] at hL
    cases hp : pvF (red m k).1 k k with
    | some f =>
      refine ⟨?_, ?_⟩
      · rw [red, h1, redS_some hp]
      · rw [red, h1]; exact unit_step hR (by omega) h2 hp
    | none =>
      exfalso
      have hz := pvF_none_spec hp
      let v : Nat → UInt8 := fun c => if c < k then gB (gR (red m k).1 c) k else if c = k then 1 else 0
      have hv : ∀ c, k + 1 ≤ c → v c = 0 := fun c hc => by show (if c < k then _ else if c = k then (1 : UInt8) else 0) = 0; rw [if_neg (by omega), if_neg (by omega)]
      have hvk : v k = 1 := by show (if k < k then _ else if k = k then (1 : UInt8) else 0) = 1; rw [if_neg (by omega), if_pos rfl]
      have hK : Ker (red m k).1 W v := by
        intro i hi
        have e : W = (k + 1) + (W - (k + 1)) := by omega
        rw [e, dot_tail _ _ _ _ hv, dot, dot_delta _ _ i k (fun c hc => h2 i hi c hc), hvk, mul_one]
        by_cases hik : i < k
        · rw [if_pos hik]
          show (if i < k then gB (gR (red m k).1 i) k else if i = k then (1 : UInt8) else 0) ^^^ _ = 0
          rw [if_pos hik, xor_cancel]
        · rw [if_neg hik, hz i (by omega) hi]; simp
      have := hinj v (fun c hc => hv c (by omega)) ((ker_red hr k).1 hK) k (by omega)
      rw [hvk] at this
      exact absurd this (by decide)
end Go.Proofs.Ytoeeklkebcgmaaa
/- The code's algebra: any data pieces with different indices give the blocks. Plain. -/
namespace Go.Proofs.Ytoeeklkebcgmaaa
open Gf

def sumN (l : List Nat) (f : Nat → UInt8) : UInt8 := (l.map f).foldr (· ^^^ ·) 0
theorem sumN_cons (c : Nat) (l : List Nat) (f : Nat → UInt8) : sumN (c :: l) f = f c ^^^ sumN l f := rfl
theorem sumN_append (a b : List Nat) (f : Nat → UInt8) : sumN (a ++ b) f = sumN a f ^^^ sumN b f := by
  induction a with
  | nil => simp [sumN]
  | cons c a ih => rw [List.cons_append, sumN_cons, sumN_cons, ih, xor_assoc]
theorem sumN_filter (p : Nat → Bool) (f : Nat → UInt8) (l : List Nat) (h : ∀ c ∈ l, p c = false → f c = 0) : sumN (l.filter p) f = sumN l f := by
  induction l with
  | nil => rfl
  | cons c l ih =>
    have ih' := ih (fun x hx => h x (by simp [hx]))
    cases hp : p c with
    | true => rw [List.filter_cons_of_pos hp, sumN_cons, sumN_cons, ih']
    | false => rw [List.filter_cons_of_neg (by simp [hp]), sumN_cons, h c (by simp) hp, ih']; simp
theorem dot_sumN (r : List UInt8) (v : Nat → UInt8) : ∀ n, dot r v n = sumN (List.range n) (fun c => mul (gB r c) (v c))
  | 0 => rfl
  | n + 1 => by
    rw [dot, dot_sumN r v n, List.range_succ, sumN_append]
    simp [sumN]
theorem sumL_map (l : List Nat) (g : UInt8 → UInt8) : sumL (l.map UInt8.ofNat) g = sumN l (fun c => g (UInt8.ofNat c)) := by
  unfold sumL sumN; rw [List.map_map]; rfl
theorem sumN_congr {l : List Nat} {f g : Nat → UInt8} (h : ∀ c ∈ l, f c = g c) : sumN l f = sumN l g := by
  unfold sumN; rw [List.map_congr_left h]

theorem length_le_of_subset {l1 : List Nat} : ∀ {l2 : List Nat}, l1.Nodup → (∀ x ∈ l1, x ∈ l2) → l1.length ≤ l2.length := by
  induction l1 with
  | nil => intro l2 _ _; simp
  | cons a l1 ih =>
    intro l2 hn hs
    rw [List.nodup_cons] at hn
    have ha : a ∈ l2 := hs a (by simp)
    have h1 := ih (l2 := l2.erase a) hn.2 (fun x hx => (List.mem_erase_of_ne (fun e => hn.1 (by rw [← e]; exact hx))).2 (hs x (by simp [hx])))
    rw [List.length_erase_of_mem ha] at h1
    have h2 : 0 < l2.length := List.length_pos_of_mem ha
    simp only [List.length_cons]
    omega
theorem nodup_bytes {l : List Nat} (h : l.Nodup) (hl : ∀ x ∈ l, x < 256) : (l.map UInt8.ofNat).Nodup := by
  unfold List.Nodup at h ⊢
  rw [List.pairwise_map]
  refine List.Pairwise.imp_of_mem (fun {a b} ha hb hab e => hab ?_) h
  have := congrArg UInt8.toNat e
  have h1 := hl a ha
  have h2 := hl b hb
  simp at this
  omega
theorem filter_sum (l : List Nat) (p : Nat → Bool) : (l.filter p).length + (l.filter (fun x => !p x)).length = l.length := by
  induction l with
  | nil => rfl
  | cons a l ih => cases hp : p a <;> simp [hp] <;> omega

theorem crw_get {d r c : Nat} (hc : c < d) : gB (crw d r) c = coef d r c := by
  rw [gB_eq (by rw [crw_length]; exact hc)]; simp [crw]
theorem ofNat_xor' (a b : Nat) : UInt8.ofNat (a ^^^ b) = UInt8.ofNat a ^^^ UInt8.ofNat b := by simp

theorem code_inj {d : Nat} {T : List Nat} (hT : T.Nodup) (hl : T.length = d) (h16 : ∀ r ∈ T, r < 16) (hd : d ≤ 8) (v : Nat → UInt8) (h : ∀ r ∈ T, dot (crw d r) v d = 0) : ∀ c, c < d → v c = 0 := by
  have hunit : ∀ r ∈ T, r < d → v r = 0 := fun r hr hrd => by
    have h1 := h r hr
    rw [dot_delta _ _ r d (fun c hc => by
      rw [crw_get hc, coef, if_neg (by omega)]
      by_cases e : r = c
      · rw [if_pos e, if_pos e.symm]
      · rw [if_neg e, if_neg (fun e' => e e'.symm)]), if_pos hrd] at h1
    exact h1
  let S0 := (List.range d).filter (fun c => !T.contains c)
  let R0 := T.filter (fun r => !decide (r < d))
  have hS0 : ∀ c, c ∈ S0 ↔ c < d ∧ c ∉ T := fun c => by simp [S0]
  have hR0 : ∀ r, r ∈ R0 ↔ r ∈ T ∧ d ≤ r := fun r => by simp [R0]
  have hlen : S0.length ≤ R0.length := by
    have h1 := filter_sum (List.range d) (fun c => T.contains c)
    have h2 := filter_sum T (fun r => decide (r < d))
    have h3 : (T.filter (fun r => decide (r < d))).length ≤ ((List.range d).filter (fun c => T.contains c)).length :=
      length_le_of_subset (hT.filter _) (fun x hx => by
        obtain ⟨hx1, hx2⟩ := List.mem_filter.1 hx
        exact List.mem_filter.2 ⟨List.mem_range.2 (by simpa using hx2), by simpa using hx1⟩)
    rw [List.length_range] at h1
    show ((List.range d).filter (fun c => !T.contains c)).length ≤ (T.filter (fun r => !decide (r < d))).length
    omega
  have key := cauchy (S0.map UInt8.ofNat) (R0.map UInt8.ofNat) (fun b => v b.toNat) (nodup_bytes (List.nodup_range.filter _) (fun x hx => by have := (hS0 x).1 hx; omega)) (nodup_bytes (hT.filter _) (fun x hx => by have := h16 x ((hR0 x).1 hx).1; omega))
    (fun b hb hb' => by
      obtain ⟨r, hr, rfl⟩ := List.mem_map.1 hb
      obtain ⟨c, hc, e⟩ := List.mem_map.1 hb'
      have h1 := (hR0 r).1 hr
      have h2 := (hS0 c).1 hc
      have h3 := h16 r h1.1
      have := congrArg UInt8.toNat e
      simp at this
      omega) (by simpa using hlen) (fun b hb => by
      obtain ⟨r, hr, rfl⟩ := List.mem_map.1 hb
      have h1 := (hR0 r).1 hr
      have h2 := h r h1.1
      rw [dot_sumN, ← sumN_filter (fun c => !T.contains c) _ _ (fun c hc hp => by
        have hcT : c ∈ T := by simpa using hp
        rw [hunit c hcT (List.mem_range.1 hc), mul_zero])] at h2
      rw [sumL_map]
      refine Eq.trans (sumN_congr fun c hc => ?_) h2
      have hc' := (hS0 c).1 hc
      have hcn : (UInt8.ofNat c).toNat = c := by simp; omega
      rw [hcn, crw_get hc'.1, coef, if_pos h1.2, mul_comm, ofNat_xor'])
  intro c hc
  by_cases hcT : c ∈ T
  · exact hunit c hcT hc
  · have h1 : v (UInt8.ofNat c).toNat = 0 := key (UInt8.ofNat c) (List.mem_map.2 ⟨c, (hS0 c).2 ⟨hc, hcT⟩, rfl⟩)
    have hcn : (UInt8.ofNat c).toNat = c := by simp; omega
    rwa [hcn] at h1

theorem unit_get {d i c : Nat} (hc : c < d) : gB (unit d i) c = if c = i then 1 else 0 := by
  rw [gB_eq (by rw [unit_length]; exact hc)]
  simp only [unit, List.getElem_set]
  by_cases e : i = c
  · rw [if_pos e, if_pos e.symm]
  · rw [if_neg e, if_neg (fun e' => e e'.symm)]; simp [zeros]
theorem ofM_take_get {d : Nat} {z : List Nat} (hl : d ≤ z.length) {i : Nat} (hi : i < d) : gR (ofM d (z.take d)) i = crw d (gN z i) := by
  rw [gR_eq (by simp [ofM]; omega)]
  simp [ofM, gN, List.getD, List.getElem?_eq_getElem (show i < z.length by omega)]
theorem jm_row {d : Nat} {z : List Nat} (hl : d ≤ z.length) {i : Nat} (hi : i < d) : gR (jmat (ofM d (z.take d)) (idm d) d) i = crw d (gN z i) ++ unit d i := by
  rw [jmat_get _ _ _ _ hi, jrow, ofM_take_get hl hi, idm_get _ _ hi]
theorem jm_rect {d : Nat} {z : List Nat} (hl : d ≤ z.length) : Rect (jmat (ofM d (z.take d)) (idm d) d) (d + d) := fun i hi => by
  rw [jmat_length] at hi
  rw [jm_row hl hi, List.length_append, crw_length, unit_length]

/-! The inverse. -/
section
variable {d : Nat} {z : List Nat} (hz : (z.take d).Nodup) (h16 : ∀ r ∈ z.take d, r < 16) (hd : d ≤ 8) (hl : d ≤ z.length)
include hz h16 hd hl

theorem left_inj (M : List (List UInt8)) (W : Nat) (hM : M.length = d) (hW : d ≤ W) (hrow : ∀ i, i < d → ∃ b, gR M i = crw d (gN z i) ++ b) (v : Nat → UInt8) (hv : ∀ c, d ≤ c → v c = 0) (hK : Ker M W v) : ∀ c, c < d → v c = 0 := by
  refine code_inj hz (by rw [List.length_take]; omega) h16 hd v (fun r hr => ?_)
  obtain ⟨i, hi, rfl⟩ := List.getElem_of_mem hr
  have hid : i < d := by rw [List.length_take] at hi; omega
  have e : (z.take d)[i] = gN z i := by rw [gN_eq (by omega)]; simp
  obtain ⟨b, hb⟩ := hrow i hid
  have h1 := hK i (by omega)
  rw [show W = d + (W - d) by omega, dot_tail _ _ _ _ hv, hb] at h1
  rw [e]
  rw [dot_congr (r' := crw d (gN z i)) (v' := v) (fun k hk => by rw [gB_append_left (by rw [crw_length]; exact hk)])] at h1
  exact h1
theorem reg_all : Reg d z := by
  unfold Reg elimI
  exact (reg_gen (jm_rect hl) (jmat_length _ _ _) (by omega) (left_inj hz h16 hd hl _ _ (jmat_length _ _ _) (by omega) (fun i hi => ⟨_, jm_row hl hi⟩)) d (Nat.le_refl _)).1
theorem elim_unit : Unit' (red (jmat (ofM d (z.take d)) (idm d) d) d).1 d :=
  (reg_gen (jm_rect hl) (jmat_length _ _ _) (by omega) (left_inj hz h16 hd hl _ _ (jmat_length _ _ _) (by omega) (fun i hi => ⟨_, jm_row hl hi⟩)) d (Nat.le_refl _)).2

/-- C x = y just where x = T y. -/
theorem inv_iff (x y : Nat → UInt8) : (∀ i, i < d → dot (crw d (gN z i)) x d = y i) ↔ (∀ i, i < d → x i = dot (gR (invT d z) i) y d) := by
  let v : Nat → UInt8 := fun k => if k < d then x k else y (k - d)
  have vlo : ∀ k, k < d → v k = x k := fun k hk => by show (if k < d then x k else y (k - d)) = x k; rw [if_pos hk]
  have vhi : ∀ k, v (d + k) = y k := fun k => by show (if d + k < d then x (d + k) else y (d + k - d)) = y k; rw [if_neg (by omega), Nat.add_sub_cancel_left]
  have hker := ker_red (v := v) (jm_rect hl) d
  have hU := elim_unit hz h16 hd hl
  have hkeep := red_keeps (jm_rect hl) d
  have e1 : Ker (jmat (ofM d (z.take d)) (idm d) d) (d + d) v ↔ ∀ i, i < d → dot (crw d (gN z i)) x d = y i := by
    have row : ∀ i, i < d → (dot (gR (jmat (ofM d (z.take d)) (idm d) d) i) v (d + d) = 0 ↔ dot (crw d (gN z i)) x d = y i) := fun i hi => by
      have h1 := dot_append (a := crw d (gN z i)) (b := unit d i) (v := v) d
      rw [crw_length] at h1
      rw [jm_row hl hi, h1, dot_delta (unit d i) _ i d (fun c hc => unit_get hc), if_pos hi, vhi,
        dot_congr (r' := crw d (gN z i)) (v' := x) (fun k hk => by rw [vlo k hk])]
      constructor
      · intro h
        have := congrArg (fun t => t ^^^ y i) h
        simpa [xor_assoc, xor_cancel] using this
      · intro h; rw [h, xor_cancel]
    constructor
    · intro h i hi; exact (row i hi).1 (h i (by rw [jmat_length]; exact hi))
    · intro h i hi; rw [jmat_length] at hi; exact (row i hi).2 (h i hi)
  have e2 : Ker (red (jmat (ofM d (z.take d)) (idm d) d) d).1 (d + d) v ↔ ∀ i, i < d → x i = dot (gR (invT d z) i) y d := by
    have row : ∀ i, i < d → (dot (gR (red (jmat (ofM d (z.take d)) (idm d) d) d).1 i) v (d + d) = 0 ↔ x i = dot (gR (invT d z) i) y d) := fun i hi => by
      have hil : i < (red (jmat (ofM d (z.take d)) (idm d) d) d).1.length := by rw [hkeep.2, jmat_length]; exact hi
      have hrl := hkeep.1 i hil
      have hT : gR (invT d z) i = (gR (red (jmat (ofM d (z.take d)) (idm d) d) d).1 i).drop d := by
        show gR (invM (ofM d (z.take d)) d) i = _
        rw [invM, gR_eq (by simpa using hi)]
        simp [invrow, elimI]
      have hu := hU i hil
      rw [hT]
      generalize gR (red (jmat (ofM d (z.take d)) (idm d) d) d).1 i = r at hrl hu
      have hsplit : r = r.take d ++ r.drop d := (List.take_append_drop d r).symm
      have htl : (r.take d).length = d := by rw [List.length_take]; omega
      have h1 := dot_append (a := r.take d) (b := r.drop d) (v := v) d
      rw [htl, ← hsplit] at h1
      rw [h1, dot_delta (r.take d) v i d (fun c hc => by
        have := hu c hc
        rw [hsplit, gB_append_left (by rw [htl]; exact hc)] at this
        exact this), if_pos hi, vlo i hi, dot_congr (r' := r.drop d) (v' := y) (fun k hk => by rw [vhi])]
      constructor
      · intro h
        have := congrArg (fun t => t ^^^ dot (r.drop d) y d) h
        simpa [xor_assoc, xor_cancel] using this
      · intro h; rw [h, xor_cancel]
    constructor
    · intro h i hi; exact (row i hi).1 (h i (by rw [hkeep.2, jmat_length]; exact hi))
    · intro h i hi; rw [hkeep.2, jmat_length] at hi; exact (row i hi).2 (h i hi)
  rw [← e1, ← e2, hker]
end
end Go.Proofs.Ytoeeklkebcgmaaa
/- What Reconstruct, Repair and Check compute, in the references' words: plain. -/
namespace Go.Proofs.Ytoeeklkebcgmaaa
open Gf

theorem dot_e (r : List UInt8) (l : Nat) : ∀ n, dot r (fun k => if k = l then 1 else 0) n = if l < n then gB r l else 0
  | 0 => rfl
  | n + 1 => by
    rw [dot, dot_e r l n]
    by_cases e : n = l
    · subst e; rw [if_neg (by omega), if_pos rfl, if_pos (by omega), mul_one]; simp
    · rw [if_neg e, mul_zero]
      by_cases h : l < n
      · rw [if_pos h, if_pos (by omega)]; simp
      · rw [if_neg h, if_neg (by omega)]; simp
theorem dot_add (a : List UInt8) (f g : Nat → UInt8) : ∀ n, dot a (fun c => f c ^^^ g c) n = dot a f n ^^^ dot a g n
  | 0 => by simp [dot]
  | n + 1 => by rw [dot, dot, dot, dot_add a f g n, mul_xor, xor4]
theorem dot_scale (a : List UInt8) (g : Nat → UInt8) (s : UInt8) : ∀ n, dot a (fun c => mul (g c) s) n = mul (dot a g n) s
  | 0 => by simp [dot, zero_mul]
  | n + 1 => by rw [dot, dot, dot_scale a g s n, xor_mul, mul_assoc]
theorem dot_swap {f a : List UInt8} {T : List (List UInt8)} {y : Nat → UInt8} {d : Nat} : ∀ n, (∀ k, k < n → gB f k = dot a (fun c => gB (gR T c) k) d) → dot f y n = dot a (fun c => dot (gR T c) y n) d
  | 0, _ => (dot_zero_v a (fun c => dot (gR T c) y 0) d (fun _ _ => rfl)).symm
  | n + 1, h => by
    rw [dot, dot_swap n (fun k hk => h k (by omega)), h n (by omega), ← dot_scale, ← dot_add]
    rfl
theorem xs1_dot (r : List UInt8) (m : List (List UInt8)) (i : Nat) : ∀ k, xs1 r m i k = dot r (fun c => gB (gR m c) i) k
  | 0 => rfl
  | k + 1 => by rw [xs1, dot, xs1_dot r m i k]
theorem pcR_get {r : List UInt8} {m : List (List UInt8)} {L i : Nat} (hi : i < L) : gB (pcR r m L) i = dot r (fun c => gB (gR m c) i) m.length := by
  rw [gB_eq (by rw [pcR_length]; exact hi)]
  simp [pcR, xs1_dot]
theorem row_ext {a b : List UInt8} {L : Nat} (ha : a.length = L) (hb : b.length = L) (h : ∀ i, i < L → gB a i = gB b i) : a = b := by
  apply List.ext_getElem (by omega)
  intro i h1 h2
  have := h i (by omega)
  rwa [gB_eq h1, gB_eq h2] at this

/-- The matrix that the reference reduces. -/
def wideM (d : Nat) (z : List Nat) (m : List (List UInt8)) : List (List UInt8) := (List.range d).map fun i => crw d (gN z i) ++ gR m i
def refRec (d : Nat) (z : List Nat) (m : List (List UInt8)) (L : Nat) : List (List UInt8) := (List.range d).map fun i => (gR (red (wideM d z m) (d + L)).1 i).drop d

theorem wide_row {d : Nat} {z : List Nat} {m : List (List UInt8)} {i : Nat} (hi : i < d) : gR (wideM d z m) i = crw d (gN z i) ++ gR m i := by
  rw [gR_eq (by simpa [wideM] using hi)]; simp [wideM]
theorem recM_row {d : Nat} {z : List Nat} {m : List (List UInt8)} {L : Nat} (hr : Rect m L) (hl : d ≤ z.length) (hm : d ≤ m.length) {i : Nat} (hi : i < d) : gR (recM d z m L) i = pcR (gR (invT d z) i) (m.take d) L := by
  have hil := invT_length d z
  rw [recM, cmat_get _ _ _ _ _ _ (by rw [hil]; exact hi), crow, if_pos hi, invT_rect hl i (by rw [hil]; exact hi)]
  have := comb_pcR (r := gR (invT d z) i) (Rect.take hr d)
  rw [show (m.take d).length = d by rw [List.length_take]; omega] at this
  exact this
theorem recM_length (d : Nat) (z : List Nat) (m : List (List UInt8)) (L : Nat) : (recM d z m L).length = d := by rw [recM, cmat_length, invT_length]
theorem recM_rect {d : Nat} {z : List Nat} {m : List (List UInt8)} {L : Nat} (hr : Rect m L) (hl : d ≤ z.length) (hm : d ≤ m.length) : Rect (recM d z m L) L := fun i hi => by
  rw [recM_length] at hi
  rw [recM_row hr hl hm hi, pcR_length]
theorem recM_get {d : Nat} {z : List Nat} {m : List (List UInt8)} {L : Nat} (hr : Rect m L) (hl : d ≤ z.length) (hm : d ≤ m.length) {i l : Nat} (hi : i < d) (hlL : l < L) : gB (gR (recM d z m L) i) l = dot (gR (invT d z) i) (fun k => gB (gR m k) l) d := by
  rw [recM_row hr hl hm hi, pcR_get hlL, show (m.take d).length = d by rw [List.length_take]; omega]
  exact dot_congr (fun k hk => by rw [gR_take hk])

theorem prd_row {m : List (List UInt8)} {f : List UInt8} {L : Nat} (hr : Rect m L) (hm : f.length ≤ m.length) : prd m f L = pcR f (m.take f.length) L := by
  have := comb_pcR (r := f) (Rect.take hr f.length)
  rw [show (m.take f.length).length = f.length by rw [List.length_take]; omega] at this
  rw [prd, cmat_get _ _ _ _ _ _ (by simp), crow, if_pos (by omega)]
  exact this
theorem facM_row {d : Nat} {z y : List Nat} (hl : d ≤ z.length) {j : Nat} (hj : j < y.length) : gR (facM d z y) j = pcR (crw d (gN y j)) (invT d z) d := by
  have hg : gR (ofM d y) j = crw d (gN y j) := by rw [gR_eq (by rw [ofM_length]; exact hj), gN_eq hj]; simp [ofM]
  rw [facM, cmat_get _ _ _ _ _ _ (by rw [ofM_length]; exact hj), crow, if_pos hj, hg, crw_length]
  have := comb_pcR (r := crw d (gN y j)) (invT_rect (d := d) (z := z) hl)
  rw [invT_length] at this
  exact this

section
variable {d : Nat} {z : List Nat} {m : List (List UInt8)} {L : Nat} (hz : (z.take d).Nodup) (h16 : ∀ r ∈ z.take d, r < 16) (hd : d ≤ 8) (hl : d ≤ z.length) (hr : Rect m L) (hm : d ≤ m.length)
include hz h16 hd hl hr hm

theorem wide_rect : Rect (wideM d z m) (d + L) := fun i hi => by
  have _u := And.intro hz (And.intro h16 (And.intro hd (And.intro hl (And.intro hr hm))))
  have hi' : i < d := by simpa [wideM] using hi
  rw [wide_row hi', List.length_append, crw_length, hr i (by omega)]
theorem wide_reg : (red (wideM d z m) d).2 = d ∧ Unit' (red (wideM d z m) d).1 d :=
  reg_gen (wide_rect hz h16 hd hl hr hm) (by simp [wideM]) (by omega) (left_inj hz h16 hd hl _ _ (by simp [wideM]) (by omega) (fun i hi => ⟨_, wide_row hi⟩)) d (Nat.le_refl _)
theorem red_more : ∀ j, red (wideM d z m) (d + j) = red (wideM d z m) d
  | 0 => rfl
  | j + 1 => by
    have h1 := wide_reg hz h16 hd hl hr hm
    have h2 := red_keeps (wide_rect hz h16 hd hl hr hm) d
    rw [← Nat.add_assoc, red, red_more j, redS_none (pvF_none (fun k hk hk' => by rw [h2.2] at hk'; simp [wideM] at hk'; rw [h1.1] at hk; omega))]

/-- The blocks satisfy the equations of the first pieces. -/
theorem rec_fits {i l : Nat} (hi : i < d) (hlL : l < L) : dot (crw d (gN z i)) (fun c => gB (gR (recM d z m L) c) l) d = gB (gR m i) l :=
  (inv_iff hz h16 hd hl (fun c => gB (gR (recM d z m L) c) l) (fun k => gB (gR m k) l)).2 (fun _ hc => recM_get hr hl hm hc hlL) i hi
/-- Nothing else does. -/
theorem rec_only (x : Nat → UInt8) {l : Nat} (hlL : l < L) (h : ∀ i, i < d → dot (crw d (gN z i)) x d = gB (gR m i) l) {c : Nat} (hc : c < d) : x c = gB (gR (recM d z m L) c) l := by
  rw [recM_get hr hl hm hc hlL]
  exact (inv_iff hz h16 hd hl x (fun k => gB (gR m k) l)).1 h c hc

theorem refRec_eq : refRec d z m L = recM d z m L := by
  have hk := red_keeps (wide_rect hz h16 hd hl hr hm) d
  have hlen : (red (wideM d z m) d).1.length = d := by rw [hk.2]; simp [wideM]
  have hU := (wide_reg hz h16 hd hl hr hm).2
  apply List.ext_getElem (by rw [recM_length]; simp [refRec])
  intro i h1 h2
  have hi : i < d := by simpa [refRec] using h1
  have e1 : (refRec d z m L)[i] = (gR (red (wideM d z m) d).1 i).drop d := by simp [refRec, red_more hz h16 hd hl hr hm]
  have e2 : (recM d z m L)[i] = gR (recM d z m L) i := (gR_eq h2).symm
  rw [e1, e2]
  have hri : ∀ j, j < d → (gR (red (wideM d z m) d).1 j).length = d + L := fun j hj => hk.1 j (by rw [hlen]; exact hj)
  refine row_ext (L := L) (by rw [List.length_drop, hri i hi]; omega) (recM_rect hr hl hm i h2) (fun l hlL => ?_)
  have hgd : ∀ j, j < d → gB ((gR (red (wideM d z m) d).1 j).drop d) l = gB (gR (red (wideM d z m) d).1 j) (d + l) := fun j hj => by
    rw [gB_eq (by rw [List.length_drop, hri j hj]; omega), gB_eq (by rw [hri j hj]; omega)]; simp
  rw [hgd i hi]
  let x : Nat → UInt8 := fun j => gB (gR (red (wideM d z m) d).1 j) (d + l)
  let v : Nat → UInt8 := fun k => if k < d then x k else if k = d + l then 1 else 0
  have vlo : ∀ k, k < d → v k = x k := fun k hk => by show (if k < d then x k else _) = x k; rw [if_pos hk]
  have vhi : ∀ k, v (d + k) = if k = l then 1 else 0 := fun k => by
    show (if d + k < d then x (d + k) else if d + k = d + l then (1 : UInt8) else 0) = _
    rw [if_neg (by omega)]
    by_cases e : k = l
    · rw [if_pos (by omega), if_pos e]
    · rw [if_neg (by omega), if_neg e]
  have split : ∀ (r : List UInt8), r.length = d + L → dot r v (d + L) = dot (r.take d) x d ^^^ gB r (d + l) := fun r hrl => by
    have htl : (r.take d).length = d := by rw [List.length_take]; omega
    have h3 := dot_append (a := r.take d) (b := r.drop d) (v := v) L
    rw [htl, List.take_append_drop] at h3
    have h4 : dot (r.take d) v d = dot (r.take d) x d := dot_congr (fun k hk => by rw [vlo k hk])
    have h5 : dot (r.drop d) (fun k => v (d + k)) L = gB (r.drop d) l := by
      rw [dot_congr (r' := r.drop d) (v' := fun k => if k = l then 1 else 0) (fun k hk => by rw [vhi]), dot_e, if_pos hlL]
    rw [h3, h4, h5]
    congr 1
    rw [gB_eq (by rw [List.length_drop]; omega), gB_eq (by omega)]; simp
  have hK : Ker (red (wideM d z m) d).1 (d + L) v := fun j hj => by
    rw [hlen] at hj
    rw [split _ (hri j hj), dot_delta _ x j d (fun c hc => by
      have := hU j (by rw [hlen]; exact hj) c hc
      rw [← this]
      have hrj := hri j hj
      rw [gB_eq (by rw [List.length_take]; omega), gB_eq (by omega)]; simp), if_pos hj]
    exact xor_cancel _
  have hK0 := (ker_red (wide_rect hz h16 hd hl hr hm) d).1 hK
  have heq : ∀ j, j < d → dot (crw d (gN z j)) x d = gB (gR m j) l := fun j hj => by
    have h3 := hK0 j (by simpa [wideM] using hj)
    rw [split _ (by rw [wide_row hj, List.length_append, crw_length, hr j (by omega)]), wide_row hj, List.take_left' (crw_length _ _)] at h3
    have e3 : gB (crw d (gN z j) ++ gR m j) (d + l) = gB (gR m j) l := by
      have := gB_append_right (a := crw d (gN z j)) (b := gR m j) (k := l)
      rwa [crw_length] at this
    rw [e3] at h3
    have := congrArg (fun t => t ^^^ gB (gR m j) l) h3
    simpa [xor_assoc, xor_cancel] using this
  exact rec_only hz h16 hd hl hr hm x hlL heq hi

/-- A repaired piece is the piece of the blocks. -/
theorem fac_piece {y : List Nat} {j : Nat} (hj : j < y.length) : prd m (gR (facM d z y) j) L = pcR (crw d (gN y j)) (recM d z m L) L := by
  have _u := And.intro hz (And.intro h16 hd)
  have hfl : (gR (facM d z y) j).length = d := by rw [facM_row hl hj, pcR_length]
  rw [prd_row hr (by rw [hfl]; exact hm), hfl]
  refine row_ext (pcR_length _ _ _) (pcR_length _ _ _) (fun l hlL => ?_)
  rw [pcR_get hlL, pcR_get hlL, show (m.take d).length = d by rw [List.length_take]; omega, recM_length]
  rw [dot_congr (r' := gR (facM d z y) j) (v' := fun k => gB (gR m k) l) (fun k hk => by rw [gR_take hk])]
  rw [dot_swap (a := crw d (gN y j)) (T := invT d z) (d := d) d (fun k hk => by
    rw [facM_row hl hj, pcR_get hk, invT_length])]
  exact dot_congr (fun c hc => by rw [recM_get hr hl hm hc hlL])
/-- The first pieces are the pieces of the blocks. -/
theorem own_piece {i : Nat} (hi : i < d) : pcR (crw d (gN z i)) (recM d z m L) L = gR m i := by
  refine row_ext (pcR_length _ _ _) (hr i (by omega)) (fun l hlL => ?_)
  rw [pcR_get hlL, recM_length]
  exact rec_fits hz h16 hd hl hr hm hi hlL
end

theorem cfl_iff {m F : List (List UInt8)} {d L : Nat} : ∀ k, cfl m F d L k < 0 ↔ ∀ j, j < k → gR m (d + j) = prd m (gR F j) L
  | 0 => by simp [cfl]
  | k + 1 => by
    have ih := cfl_iff (m := m) (F := F) (d := d) (L := L) k
    simp only [cfl]
    by_cases e : gR m (d + k) = prd m (gR F k) L
    · rw [if_pos e, ih]
      constructor
      · intro h j hj
        by_cases ej : j = k
        · rw [ej]; exact e
        · exact h j (by omega)
      · intro h j hj; exact h j (by omega)
    · rw [if_neg e]
      constructor
      · intro h
        split at h
        · omega
        · rename_i h2; exact absurd h (fun h3 => h2 (.inl h3))
      · intro h; exact absurd (h k (by omega)) e
end Go.Proofs.Ytoeeklkebcgmaaa
