/- The rest of a division is shorter than the divisor. No program in sight. -/
import Derived.Test.YtakedococfklgaaB1
namespace Go.Proofs.Ytakedococfklgaa
open Go Gf
namespace Py
theorem mul_inv_last {a d : UInt8} (hd : d ≠ 0) : mul (mul a (inv d)) d = a := by
  rw [mul_assoc, mul_comm (inv d) d, mul_inv d hd, mul_one]
/-- From i + last on the rest is 0 when the rounds from i on are done. -/
theorem divK_zero (d : List UInt8) (last : Nat) (hl : d.length = last + 1) (hd : gB d last ≠ 0) : ∀ (i : Nat) (s : List UInt8 × List UInt8), s.2.length ≤ i + last → (∀ k, last ≤ k → gB (divK d (inv (gB d last)) last i s).2 k = 0)
  | 0, s, hs, k, hk => by rw [divK]; exact gB_ge (by omega)
  | i + 1, s, hs, k, hk => by
    rw [divK]
    -- the new rest has a 0 at i + last
    have key : ∀ (i : Nat) (s : List UInt8 × List UInt8), (∀ j, i + last ≤ j → gB s.2 j = 0) → ∀ j, last ≤ j → gB (divK d (inv (gB d last)) last i s).2 j = 0 := by
      intro i
      induction i with
      | zero => intro s h j hj; rw [divK]; exact h j (by omega)
      | succ i ih =>
        intro s h j hj
        rw [divK]
        refine ih _ (fun q hq => ?_) j hj
        simp only
        by_cases hql : q < s.2.length
        · rw [gB_addAt _ _ _ _ hql, if_pos (by omega)]
          by_cases e : q = i + last
          · subst e
            rw [Nat.add_sub_cancel_left, mul_inv_last hd]; simp
          · rw [h q (by omega), gB_ge (l := d) (k := q - i) (by omega), mul_zero]; rfl
        · exact gB_ge (by rw [addAt_length]; omega)
    refine key i _ (fun q hq => ?_) k hk
    simp only
    by_cases hql : q < s.2.length
    · rw [gB_addAt _ _ _ _ hql, if_pos (by omega)]
      have e : q = i + last := by omega
      subst e
      rw [Nat.add_sub_cancel_left, mul_inv_last hd]; simp
    · exact gB_ge (by rw [addAt_length]; omega)
theorem divP_lt (p q : List UInt8) (h : 0 < tl q) : (divP p q).2.length < tl q := by
  unfold divP
  have hl := trim_length q
  rw [if_neg (by omega)]
  simp only
  rw [trim_length]
  have hd : gB (trim q) ((trim q).length - 1) ≠ 0 := by rw [hl, gB_trim]; exact tl_top q h
  have hz := divK_zero (trim q) ((trim q).length - 1) (by omega) hd ((trim p).length - ((trim q).length - 1)) (zeros ((trim p).length - ((trim q).length - 1)), trim p) (by simp only; omega)
  apply Classical.byContradiction
  intro hc
  have h0 := tl_top (divK (trim q) (inv (gB (trim q) ((trim q).length - 1))) ((trim q).length - 1) ((trim p).length - ((trim q).length - 1)) (zeros ((trim p).length - ((trim q).length - 1)), trim p)).2 (by omega)
  exact h0 (hz _ (by omega))
/-- Euclid's rounds: (before, rest, factorBefore, factor). -/
def dcS (s : List UInt8 × List UInt8 × List UInt8 × List UInt8) : List UInt8 × List UInt8 × List UInt8 × List UInt8 :=
  (s.2.1, (divP s.1 s.2.1).2, s.2.2.2, addP s.2.2.1 (mulP (divP s.1 s.2.1).1 s.2.2.2))
def dcK (M : Nat) : Nat → List UInt8 × List UInt8 × List UInt8 × List UInt8 → List UInt8 × List UInt8 × List UInt8 × List UInt8
  | 0, s => s
  | k + 1, s => if M + 2 ≤ 2 * tl s.2.1 then dcK M k (dcS s) else s
theorem dcK_more (M : Nat) : ∀ (k : Nat) (s : List UInt8 × List UInt8 × List UInt8 × List UInt8), tl s.2.1 ≤ k → dcK M (k + 1) s = dcK M k s
  | 0, s, h => by simp only [dcK]; rw [if_neg (by omega)]
  | k + 1, s, h => by
    rw [dcK]
    conv => rhs; rw [dcK]
    by_cases hc : M + 2 ≤ 2 * tl s.2.1
    · rw [if_pos hc, if_pos hc]
      have h1 := divP_lt s.1 s.2.1 (by omega)
      have h2 := tl_le (divP s.1 s.2.1).2
      exact dcK_more M k _ (by show tl (divP s.1 s.2.1).2 ≤ k; omega)
    · rw [if_neg hc, if_neg hc]
theorem dcK_enough (M : Nat) (s : List UInt8 × List UInt8 × List UInt8 × List UInt8) : ∀ k, tl s.2.1 ≤ k → dcK M k s = dcK M (tl s.2.1) s := by
  intro k hk
  obtain ⟨d, rfl⟩ : ∃ d, k = tl s.2.1 + d := ⟨k - tl s.2.1, by omega⟩
  clear hk
  induction d with
  | zero => rfl
  | succ d ih => rw [← Nat.add_assoc, dcK_more M _ s (by omega), ih]
/-- All rounds. -/
def dcA (M : Nat) (s : List UInt8 × List UInt8 × List UInt8 × List UInt8) := dcK M (tl s.2.1) s
theorem dcA_go (M : Nat) (s : List UInt8 × List UInt8 × List UInt8 × List UInt8) (h : M + 2 ≤ 2 * tl s.2.1) : dcA M s = dcA M (dcS s) := by
  unfold dcA
  have h1 := divP_lt s.1 s.2.1 (by omega)
  have h2 := tl_le (divP s.1 s.2.1).2
  have e : tl s.2.1 = (tl s.2.1 - 1) + 1 := by omega
  rw [e, dcK, if_pos (by omega)]
  exact dcK_enough M _ _ (by show tl (divP s.1 s.2.1).2 ≤ _; omega)
theorem dcA_end (M : Nat) (s : List UInt8 × List UInt8 × List UInt8 × List UInt8) (h : 2 * tl s.2.1 < M + 2) : dcA M s = s := by
  unfold dcA
  cases e : tl s.2.1 with
  | zero => rfl
  | succ k => rw [dcK, if_neg (by omega)]
/-- The polynomial that decode returns. -/
def dcP (xs ys : List UInt8) (t : Nat) : List UInt8 := (divP (dcA (xs.length + t) (frP xs, itP xs ys, [], [1])).2.1 (dcA (xs.length + t) (frP xs, itP xs ys, [], [1])).2.2.2).1
end Py
end Go.Proofs.Ytakedococfklgaa
