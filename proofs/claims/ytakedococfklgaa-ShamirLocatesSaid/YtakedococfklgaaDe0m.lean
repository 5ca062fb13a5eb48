/- Plain: products and divisions of polynomials, their lengths and values; Euclid's rounds of the decoder keep what they keep. -/
import Derived.Test.YtakedococfklgaaPbm
import Derived.Test.YtakedococfklgaaPo7m
namespace Go.Proofs.Ytakedococfklgaa
open Go.RowKit Gf

namespace Py
theorem xor_left {a b c : UInt8} (h : a ^^^ b = c) : a = c ^^^ b := by rw [← h, xor_assoc, xor_ss, xor_z]
theorem inv_ne {a : UInt8} (h : a ≠ 0) : inv a ≠ 0 := fun e => by
  have := mul_inv a h
  rw [e, mul_zero] at this
  exact absurd this (by decide)
theorem ev_convK (p q : List UInt8) (x : UInt8) : ∀ k, k ≤ p.length → ev (convK p q k) x = mul (rvK p x k) (ev q x)
  | 0, _ => by rw [convK, ev_zeros]; show 0 = mul 0 (ev q x); rw [zero_mul]
  | k + 1, h => by rw [convK, ev_addAt _ _ _ (by rw [convK_length]; omega), ev_convK p q x k (by omega), rvK, xor_mul, mul_assoc]
theorem convK_zero (p q : List UInt8) : ∀ i j, i + q.length ≤ j + 1 → gB (convK p q i) j = 0
  | 0, j, _ => by rw [convK]; exact gB_zeros _ _
  | i + 1, j, hj => by
    rw [convK]
    by_cases hl : j < (convK p q i).length
    · rw [gB_addAt _ _ _ _ hl, convK_zero p q i j (by omega)]
      by_cases ho : i ≤ j
      · rw [if_pos ho, gB_ge (l := q) (by omega), mul_zero]; rfl
      · rw [if_neg ho]
    · exact gB_ge (by rw [addAt_length]; omega)
theorem convK_top (p q : List UInt8) (k : Nat) (hk : k < p.length) (hq : 1 ≤ q.length) : gB (convK p q (k + 1)) (k + (q.length - 1)) = mul (gB p k) (gB q (q.length - 1)) := by
  rw [convK, gB_addAt _ _ _ _ (by rw [convK_length]; omega), convK_zero p q k _ (by omega), if_pos (by omega), Nat.add_sub_cancel_left, z_xor]
theorem tl_ge {p : List UInt8} {k : Nat} (h : gB p k ≠ 0) : k + 1 ≤ tl p := by
  rcases Nat.lt_or_ge k (tl p) with h1 | h1
  · exact h1
  · exact absurd (tl_zero p h1) h
/-- A product: its length and its values. -/
theorem mulP_tl {p q : List UInt8} (hp : 1 ≤ tl p) (hq : 1 ≤ tl q) (hb : tl p + tl q ≤ 1025) : tl (mulP p q) = tl p + tl q - 1 ∧ ∀ x, ev (mulP p q) x = mul (ev p x) (ev q x) := by
  have l1 := trim_length p
  have l2 := trim_length q
  have e : mulP p q = convK (trim p) (trim q) (trim p).length := by
    unfold mulP; rw [if_neg (by omega), if_neg (by omega)]
  rw [e]
  refine ⟨?_, fun x => by rw [ev_convK _ _ _ _ (Nat.le_refl _), ← ev_rvK _ _ (Nat.le_refl _), ev_trim, ev_trim]⟩
  refine tl_of _ _ (fun k hk => convK_zero _ _ _ _ (by omega)) (fun _ => ?_)
  have h1 := convK_top (trim p) (trim q) ((trim p).length - 1) (by omega) (by omega)
  rw [show (trim p).length - 1 + 1 = (trim p).length by omega, show (trim p).length - 1 + ((trim q).length - 1) = tl p + tl q - 1 - 1 by omega] at h1
  rw [h1, gB_trim, gB_trim, l1, l2]
  exact mul_ne0 (tl_top p hp) (tl_top q hq)
theorem ev_set {l : List UInt8} {i : Nat} (c x : UInt8) (hi : i < l.length) (h0 : gB l i = 0) : ev (l.set i c) x = ev l x ^^^ mul c (pw x i) := by
  have h1 : ev (zeros i ++ [1]) x = pw x i := by rw [ev_shift, ev_one, mul_one]
  rw [← h1]
  refine ev_lin c x fun k => ?_
  rw [gB_set _ hi, gB_shift]
  by_cases e : k = i
  · subst e; rw [if_pos rfl, if_pos (Nat.le_refl _), h0, z_xor, Nat.sub_self]; show c = mul c 1; rw [mul_one]
  · rw [if_neg e]
    by_cases ho : i ≤ k
    · rw [if_pos ho, gB_ge (l := [1]) (by simp; omega), mul_zero, xor_z]
    · rw [if_neg ho, mul_zero, xor_z]
theorem divK_ev (d : List UInt8) (iv : UInt8) (last : Nat) (hl : d.length = last + 1) (x : UInt8) : ∀ (i : Nat) (s : List UInt8 × List UInt8), i ≤ s.1.length → (∀ j, j < i → gB s.1 j = 0) → (0 < i → i + last ≤ s.2.length) →
    ev (divK d iv last i s).2 x ^^^ mul (ev (divK d iv last i s).1 x) (ev d x) = ev s.2 x ^^^ mul (ev s.1 x) (ev d x)
  | 0, s, _, _, _ => by rw [divK]
  | i + 1, s, h1, h2, h3 => by
    have h3' := h3 (by omega)
    rw [divK, divK_ev d iv last hl x i _ (by simp only [List.length_set]; omega) (fun j hj => by
      simp only
      rw [gB_set _ (by omega), if_neg (by omega)]
      exact h2 j (by omega)) (fun _ => by simp only [addAt_length]; omega)]
    simp only
    rw [ev_addAt _ _ _ (by omega), ev_set _ _ (by omega) (h2 i (by omega)), xor_mul, mul_assoc _ (pw x i)]
    generalize mul (mul (gB s.2 (i + last)) iv) (mul (pw x i) (ev d x)) = a
    generalize mul (ev s.1 x) (ev d x) = b
    generalize ev s.2 x = c
    rw [xor_assoc, xor_comm b a, ← xor_assoc a a b, xor_ss, z_xor]
theorem divK_keep (d : List UInt8) (iv : UInt8) (last : Nat) : ∀ (i : Nat) (s : List UInt8 × List UInt8), (divK d iv last i s).1.length = s.1.length ∧ ∀ k, i ≤ k → gB (divK d iv last i s).1 k = gB s.1 k
  | 0, s => ⟨rfl, fun _ _ => rfl⟩
  | i + 1, s => by
    obtain ⟨h1, h2⟩ := divK_keep d iv last i (s.1.set i (mul (gB s.2 (i + last)) iv), addAt s.2 i d (mul (gB s.2 (i + last)) iv))
    rw [divK]
    refine ⟨by rw [h1]; simp, fun k hk => ?_⟩
    rw [h2 k (by omega)]
    simp only
    by_cases hi : i < s.1.length
    · rw [gB_set _ hi, if_neg (by omega)]
    · rw [List.set_eq_of_length_le (by omega)]
/-- A division: its values; the quotient's length. -/
theorem divP_ev {p q : List UInt8} (hq : 1 ≤ tl q) (x : UInt8) : ev (divP p q).2 x = ev p x ^^^ mul (ev (divP p q).1 x) (ev q x) := by
  have hl := trim_length q
  unfold divP
  rw [if_neg (by omega)]
  simp only
  rw [ev_trim]
  have h := divK_ev (trim q) (inv (gB (trim q) ((trim q).length - 1))) ((trim q).length - 1) (by omega) x ((trim p).length - ((trim q).length - 1)) (zeros ((trim p).length - ((trim q).length - 1)), trim p) (by simp [zeros]) (fun j _ => gB_zeros _ _) (fun h0 => by simp only; omega)
  simp only at h
  rw [ev_zeros, zero_mul, xor_z, ev_trim q, ev_trim p] at h
  exact xor_left h
theorem divP_len {p q : List UInt8} (hq : 1 ≤ tl q) : (divP p q).1.length = tl p - (tl q - 1) ∧ tl (divP p q).1 = tl p - (tl q - 1) := by
  have l1 := trim_length p
  have l2 := trim_length q
  have hlen : (divP p q).1.length = tl p - (tl q - 1) := by
    unfold divP
    rw [if_neg (by omega)]
    simp only
    rw [(divK_keep _ _ _ _ _).1]
    simp [zeros, l1, l2]
  refine ⟨hlen, ?_⟩
  refine tl_of _ _ (fun k hk => gB_ge (by omega)) (fun h0 => ?_)
  unfold divP
  rw [if_neg (by omega)]
  simp only
  obtain ⟨m, hm⟩ : ∃ m, tl p - (tl q - 1) = m + 1 := ⟨_, (Nat.succ_pred_eq_of_pos h0).symm⟩
  rw [l1, l2, hm, divK, (divK_keep _ _ _ _ _).2 _ (by omega)]
  simp only
  rw [Nat.add_sub_cancel, gB_set _ (by simp [zeros]), if_pos rfl]
  rw [gB_trim, gB_trim, show m + (tl q - 1) = tl p - 1 by omega]
  exact mul_ne0 (tl_top p (by omega)) (inv_ne (tl_top q hq))
/-- A sum with a longer one. -/
theorem addP_tl {a b : List UInt8} (h : tl a < tl b) : tl (addP a b) = tl b := by
  refine tl_of _ _ (fun k hk => by rw [gB_addP, tl_zero a (by omega), tl_zero b hk]; rfl) (fun h0 => ?_)
  rw [gB_addP, tl_zero a (by omega), z_xor]
  exact tl_top b h0
/-- What Euclid's rounds keep. -/
structure Dec (n t : Nat) (xs ys : List UInt8) (s : List UInt8 × List UInt8 × List UInt8 × List UInt8) : Prop where
  r : ∀ i, i < n → ev s.2.1 (gB xs i) = mul (ev s.2.2.2 (gB xs i)) (gB ys i)
  b : ∀ i, i < n → ev s.1 (gB xs i) = mul (ev s.2.2.1 (gB xs i)) (gB ys i)
  lt : tl s.2.1 < tl s.1
  f1 : 1 ≤ tl s.2.2.2
  ff : tl s.2.2.1 ≤ tl s.2.2.2
  fb : tl s.2.2.2 + tl s.1 ≤ n + 2
  bb : n + t + 2 ≤ 2 * tl s.1
theorem Dec.step {n t : Nat} {xs ys : List UInt8} {s : List UInt8 × List UInt8 × List UInt8 × List UInt8} (h : Dec n t xs ys s) (hn : n ≤ 1000) (hM : n + t + 2 ≤ 2 * tl s.2.1) : Dec n t xs ys (dcS s) := by
  obtain ⟨hr, hb, hlt, hf1, hff, hfb, hbb⟩ := h
  obtain ⟨B, R, FB, F⟩ := s
  simp only at hr hb hlt hf1 hff hfb hbb hM
  have h1 := divP_lt B R (by omega)
  obtain ⟨_, hq⟩ := divP_len (p := B) (q := R) (by omega)
  obtain ⟨m1, m2⟩ := mulP_tl (p := (divP B R).1) (q := F) (by omega) hf1 (by omega)
  have ht := addP_tl (a := FB) (b := mulP (divP B R).1 F) (by omega)
  refine ⟨fun i hi => ?_, hr, ?_, ?_, ?_, ?_, hM⟩
  · show ev (divP B R).2 (gB xs i) = mul (ev (addP FB (mulP (divP B R).1 F)) (gB xs i)) (gB ys i)
    rw [divP_ev (by omega), hb i hi, hr i hi, ev_addP, m2, xor_mul, mul_assoc]
  · show tl (divP B R).2 < tl R
    have := tl_le (divP B R).2; omega
  · show 1 ≤ tl (addP FB (mulP (divP B R).1 F))
    omega
  · show tl F ≤ tl (addP FB (mulP (divP B R).1 F))
    omega
  · show tl (addP FB (mulP (divP B R).1 F)) + tl R ≤ n + 2
    omega
theorem Dec.all {n t : Nat} {xs ys : List UInt8} (hn : n ≤ 1000) : ∀ (k : Nat) (s : List UInt8 × List UInt8 × List UInt8 × List UInt8), Dec n t xs ys s → tl s.2.1 ≤ k → Dec n t xs ys (dcK (n + t) k s) ∧ 2 * tl (dcK (n + t) k s).2.1 < n + t + 2
  | 0, s, h, hk => by rw [dcK]; exact ⟨h, by omega⟩
  | k + 1, s, h, hk => by
    rw [dcK]
    by_cases hc : n + t + 2 ≤ 2 * tl s.2.1
    · rw [if_pos hc]
      refine Dec.all hn k _ (h.step hn hc) ?_
      have h1 := divP_lt s.1 s.2.1 (by omega)
      have h2 := tl_le (divP s.1 s.2.1).2
      show tl (divP s.1 s.2.1).2 ≤ k
      omega
    · rw [if_neg hc]; exact ⟨h, by omega⟩
theorem frK_ev (x : UInt8) : ∀ (rs p : List UInt8), (∃ i, i < rs.length ∧ gB rs i = x) → ev (rs.foldl tr p) x = 0
  | [], _, ⟨i, hi, _⟩ => absurd hi (by simp)
  | r :: rs, p, ⟨i, hi, e⟩ => by
    rw [List.foldl_cons]
    cases i with
    | succ i => exact frK_ev x rs _ ⟨i, by simpa using hi, by rw [← e, gB_cons_succ]⟩
    | zero =>
      have e' : r = x := e
      have key : ∀ (rs p : List UInt8), ev p x = 0 → ev (rs.foldl tr p) x = 0 := by
        intro rs
        induction rs with
        | nil => intro p h; exact h
        | cons r rs ih => intro p h; rw [List.foldl_cons]; exact ih _ (by rw [ev_tr, h, mul_zero])
      exact key rs _ (by rw [ev_tr, e', xor_ss, zero_mul])
theorem tr_top (p : List UInt8) (r : UInt8) (h : gB p (p.length - 1) = 1) (h1 : 1 ≤ p.length) : gB (tr p r) p.length = 1 := by
  rw [tr, gB_addAt0 r (by simp), gB_ge (l := p) (Nat.le_refl _), mul_zero, xor_z]
  obtain ⟨m, hm⟩ : ∃ m, p.length = m + 1 := ⟨p.length - 1, by omega⟩
  rw [hm, gB_cons_succ]
  rw [hm] at h
  exact h
theorem frP_tl : ∀ (rs p : List UInt8), 1 ≤ p.length → gB p (p.length - 1) = 1 → tl (rs.foldl tr p) = p.length + rs.length
  | [], p, h1, h => by
    refine tl_of _ _ (fun k hk => gB_ge (by simpa using hk)) (fun _ => ?_)
    show gB p (p.length - 1) ≠ 0
    rw [h]; decide
  | r :: rs, p, h1, h => by
    rw [List.foldl_cons, frP_tl rs (tr p r) (by rw [tr_length]; omega) (by rw [tr_length]; exact tr_top p r h h1), tr_length, List.length_cons]
    omega
theorem Dec.start {t : Nat} {xs ys : List UInt8} (hd : Dst xs) (ht : t ≤ xs.length) : Dec xs.length t xs ys (frP xs, itP xs ys, [], [1]) := by
  have h1 : tl (frP xs) = 1 + xs.length := frP_tl xs [1] (by simp) rfl
  have h2 : tl (itP xs ys) ≤ xs.length := Nat.le_trans (tl_le _) (itP_length xs ys)
  have h3 : tl ([1] : List UInt8) = 1 := by decide
  have h4 : tl ([] : List UInt8) = 0 := rfl
  refine ⟨fun i hi => ?_, fun i hi => ?_, ?_, ?_, ?_, ?_, ?_⟩
  · show ev (itP xs ys) (gB xs i) = mul (ev [1] (gB xs i)) (gB ys i)
    rw [itP_value hd hi, ev_one, one_mul]
  · show ev (frP xs) (gB xs i) = mul (ev [] (gB xs i)) (gB ys i)
    rw [ev_nil, zero_mul]
    exact frK_ev _ xs [1] ⟨i, hi, rfl⟩
  all_goals simp only; omega
end Py
end Go.Proofs.Ytakedococfklgaa
