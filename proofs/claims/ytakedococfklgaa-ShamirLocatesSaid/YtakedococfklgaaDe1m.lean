/- Plain: the decoder finds the polynomial that is near enough, and Wrong the shares that differ from it. -/
import Derived.Test.YtakedococfklgaaDe0m
import Derived.Test.YtakedococfklgaaCo4m
namespace Go.Proofs.Ytakedococfklgaa
open Go.RowKit Gf

/-- The places, among the first k, at which p is y. -/
def okK (xs ys p : List UInt8) : Nat → List UInt8
  | 0 => []
  | k + 1 => if Py.ev p (gB xs k) = gB ys k then okK xs ys p k ++ [gB xs k] else okK xs ys p k
theorem okK_len (xs ys p : List UInt8) : ∀ k, (okK xs ys p k).length + dsK xs ys p k = k
  | 0 => rfl
  | k + 1 => by
    have := okK_len xs ys p k
    unfold okK dsK
    by_cases e : Py.ev p (gB xs k) = gB ys k
    · rw [if_pos e, if_pos e, List.length_append, List.length_singleton]; omega
    · rw [if_neg e, if_neg e]; omega
theorem okK_sub (xs ys p : List UInt8) : ∀ k, k ≤ xs.length → (okK xs ys p k).Sublist (xs.take k)
  | 0, _ => by simp [okK]
  | k + 1, h => by
    have ih := okK_sub xs ys p k (by omega)
    rw [List.take_succ_eq_append_getElem (by omega)]
    unfold okK
    split
    · rw [gB_eq (by omega)]; exact List.Sublist.append ih (List.Sublist.refl _)
    · exact ih.trans (List.sublist_append_left _ _)
theorem okK_dst {xs : List UInt8} (ys p : List UInt8) (h : Py.Dst xs) : Py.Dst (okK xs ys p xs.length) := by
  rw [dst_iff] at h ⊢
  have := okK_sub xs ys p xs.length (Nat.le_refl _)
  rw [List.take_length] at this
  exact h.sublist this
theorem okK_all (xs ys p : List UInt8) : ∀ k i, i < (okK xs ys p k).length → ∃ j, j < k ∧ gB (okK xs ys p k) i = gB xs j ∧ Py.ev p (gB xs j) = gB ys j
  | 0, i, h => absurd h (by simp [okK])
  | k + 1, i, h => by
    unfold okK at h ⊢
    by_cases e : Py.ev p (gB xs k) = gB ys k
    · rw [if_pos e] at h ⊢
      by_cases hi : i < (okK xs ys p k).length
      · obtain ⟨j, h1, h2, h3⟩ := okK_all xs ys p k i hi
        exact ⟨j, by omega, by rw [gB_append, if_pos hi, h2], h3⟩
      · simp at h
        refine ⟨k, by omega, ?_, e⟩
        rw [gB_append, if_neg hi, show i - (okK xs ys p k).length = 0 by omega]
        rfl
    · rw [if_neg e] at h ⊢
      obtain ⟨j, h1, h2, h3⟩ := okK_all xs ys p k i h
      exact ⟨j, by omega, h2, h3⟩
theorem dsK_congr {xs ys p q : List UInt8} (h : ∀ x, Py.ev p x = Py.ev q x) : ∀ k, dsK xs ys p k = dsK xs ys q k
  | 0 => rfl
  | k + 1 => by unfold dsK; rw [h, dsK_congr h k]
def all256 : List UInt8 := (List.range 256).map UInt8.ofNat
theorem all256_length : all256.length = 256 := by simp [all256]
theorem all256_dst : Py.Dst all256 := by rw [dst_iff]; decide +kernel

namespace Py
theorem ev_none {p : List UInt8} (h : ∀ k, gB p k = 0) (x : UInt8) : ev p x = 0 := by
  rw [ev_congr (q := []) (fun k => by rw [h k]; rfl) x, ev_nil]
/-- The polynomial that is near enough is the one that decode returns. -/
theorem dec_right {xs ys p : List UInt8} {t : Nat} (hd : Dst xs) (hn : xs.length ≤ 100) (ht1 : 1 ≤ t) (ht : t ≤ xs.length) (hp : p.length ≤ t) (he : dsK xs ys p xs.length ≤ (xs.length - t) / 2) :
    (dcP xs ys t).length ≤ t ∧ ∀ x, ev (dcP xs ys t) x = ev p x := by
  have hA := Dec.all (by omega) (tl (itP xs ys)) (frP xs, itP xs ys, [], [1]) (Dec.start (ys := ys) hd ht) (Nat.le_refl _)
  have hX : dcP xs ys t = (divP (dcK (xs.length + t) (tl (itP xs ys)) (frP xs, itP xs ys, [], [1])).2.1 (dcK (xs.length + t) (tl (itP xs ys)) (frP xs, itP xs ys, [], [1])).2.2.2).1 := rfl
  rw [hX]
  clear hX
  generalize dcK (xs.length + t) (tl (itP xs ys)) (frP xs, itP xs ys, [], [1]) = s at hA
  obtain ⟨⟨hr, _, hlt, hf1, hff, hfb, hbb⟩, hE⟩ := hA
  obtain ⟨B, R, FB, F⟩ := s
  simp only at hr hlt hf1 hff hfb hbb hE ⊢
  have hl := okK_len xs ys p xs.length
  have lr := trim_length R
  have lf := trim_length F
  have hm := rmP_length p (trim F) (by omega)
  have h1 : ∀ x, ev R x = mul (ev p x) (ev F x) := by
    have hz := roots_zero (okK xs ys p xs.length) (xorL (trim R) (rmP p (trim F))) (okK_dst ys p hd) (by rw [xorL, tab_length]; omega) (fun i hi => by
      obtain ⟨j, hj, e1, e2⟩ := okK_all xs ys p xs.length i hi
      rw [e1, ev_xorL, ev_trim, ev_rmP, ev_trim, hr j hj, e2, mul_comm, xor_ss])
    intro x
    have := ev_none hz x
    rw [ev_xorL, ev_trim, ev_rmP, ev_trim] at this
    exact xor_eq this
  have h2 := divP_lt R F (by omega)
  obtain ⟨h3, h4⟩ := divP_len (p := R) (q := F) (by omega)
  have h5 : ∀ x, ev (divP R F).2 x = mul (ev (xorL p (divP R F).1) x) (ev F x) := fun x => by
    rw [divP_ev (by omega), h1, ← xor_mul, ev_xorL]
  have hZl : (xorL p (divP R F).1).length ≤ 102 := by rw [xorL, tab_length]; omega
  have hZt := tl_le (xorL p (divP R F).1)
  have h6 : tl (xorL p (divP R F).1) = 0 := by
    apply Classical.byContradiction
    intro h0
    obtain ⟨m1, m2⟩ := mulP_tl (p := xorL p (divP R F).1) (q := F) (by omega) (by omega) (by omega)
    have hu := unique (xs := all256) (p := trim (mulP (xorL p (divP R F).1) F)) (q := (divP R F).2) all256_dst (by rw [trim_length, all256_length]; omega) (by rw [all256_length]; omega) (fun i _ => by rw [ev_trim, m2, h5])
      (tl (xorL p (divP R F).1) + tl F - 1 - 1)
    rw [gB_trim, gB_ge (l := (divP R F).2) (by omega)] at hu
    have := tl_top (mulP (xorL p (divP R F).1) F) (by omega)
    rw [m1] at this
    exact this hu
  have h7 : ∀ k, gB (divP R F).1 k = gB p k := fun k => by
    have := tl_zero (xorL p (divP R F).1) (k := k) (by omega)
    rw [gB_xorL] at this
    exact (xor_eq this).symm
  refine ⟨?_, fun x => ev_congr h7 x⟩
  have := tl_congr h7
  have := tl_le p
  omega
end Py

theorem thK_le (xs ys : List UInt8) (wl : List Bool) (t : Nat) : ∀ k, (thK xs ys wl t k).1.length ≤ t
  | 0 => by simp [thK]
  | k + 1 => by
    have := thK_le xs ys wl t k
    unfold thK
    split
    · rename_i h; simp; omega
    · exact this
theorem thP_len (xs ys : List UInt8) (wl : List Bool) (t : Nat) : (thP xs ys wl t).length ≤ t := Nat.le_trans (Py.itP_length _ _) (thK_le xs ys wl t _)
/-- p is near enough. -/
def Nr (xs ys : List UInt8) (t : Nat) (p : List UInt8) : Prop := p.length ≤ t ∧ dsK xs ys p xs.length ≤ (xs.length - t) / 2
theorem Nr.one {xs ys p q : List UInt8} {t : Nat} (h : Nr xs ys t p) (h' : Nr xs ys t q) (hd : Py.Dst xs) (hn : xs.length ≤ 100) (ht1 : 1 ≤ t) (ht : t ≤ xs.length) (x : UInt8) : Py.ev p x = Py.ev q x := by
  rw [← (Py.dec_right hd hn ht1 ht h.1 h.2).2 x, (Py.dec_right hd hn ht1 ht h'.1 h'.2).2 x]
theorem mk_right {xs ys p : List UInt8} {t : Nat} (h : Nr xs ys t p) (wl : List Bool) (hd : Py.Dst xs) (hn : xs.length ≤ 100) (ht1 : 1 ≤ t) (ht : t ≤ xs.length) :
    mkB xs ys wl t ((xs.length - t) / 2) = true ∧ ∀ x, Py.ev (mkP xs ys wl t ((xs.length - t) / 2)) x = Py.ev p x := by
  have key : Nr xs ys t (mkP xs ys wl t ((xs.length - t) / 2)) := by
    unfold mkP
    by_cases hc : (xs.length - t) / 2 < dsK xs ys (thP xs ys wl t) xs.length
    · rw [if_pos hc]
      obtain ⟨h1, h2⟩ := Py.dec_right hd hn ht1 ht h.1 h.2
      exact ⟨h1, by rw [dsK_congr h2]; exact h.2⟩
    · rw [if_neg hc]; exact ⟨thP_len _ _ _ _, by omega⟩
  refine ⟨?_, fun x => key.one h hd hn ht1 ht x⟩
  unfold mkB
  rw [decide_eq_false (by have := key.1; omega), decide_eq_false (by have := key.2; omega)]
  rfl
theorem mk_near {xs ys : List UInt8} {t : Nat} {wl : List Bool} (h : mkB xs ys wl t ((xs.length - t) / 2) = true) : Nr xs ys t (mkP xs ys wl t ((xs.length - t) / 2)) := by
  unfold mkB at h
  simp only [Bool.and_eq_true, Bool.not_eq_true', decide_eq_false_iff_not] at h
  exact ⟨by omega, by omega⟩
theorem coX_length (l : List (Int × List UInt8)) : (coX l).length = l.length := by rw [coX, tab_length]
/-- Where every column has a polynomial that is near enough, Wrong marks the shares that differ from one of them. -/
theorem wrK_right {l : List (Int × List UInt8)} {t : Nat} (hd : Py.Dst (coX l)) (hn : l.length ≤ 100) (ht1 : 1 ≤ t) (ht : t ≤ l.length) (pol : Nat → List UInt8) : ∀ b, (∀ j, j < b → Nr (coX l) (coY l j) t (pol j)) →
    ∃ wl, wrK l t ((l.length - t) / 2) b = some wl ∧ wl.length = l.length ∧ ∀ i, i < l.length → (gO wl i = true ↔ ∃ j, j < b ∧ Py.ev (pol j) (gX l i) ≠ gB (gS l i).2 j)
  | 0, _ => ⟨_, rfl, by simp, fun i hi => by
      rw [gO_eq (by simpa using hi)]; simp⟩
  | b + 1, h => by
    obtain ⟨wl, h1, h2, h3⟩ := wrK_right hd hn ht1 ht pol b (fun j hj => h j (by omega))
    have hl := coX_length l
    obtain ⟨m1, m2⟩ := mk_right (h b (by omega)) wl hd (by omega) ht1 (by omega)
    rw [hl] at m1 m2
    refine ⟨_, by rw [wrK, h1]; simp only; rw [if_pos m1], by rw [mkK_length, h2], fun i hi => ?_⟩
    rw [mkK_get _ _ _ _ _ _ (by omega), if_pos hi, m2, coX, gB_tab _ hi, coY, gB_tab _ hi]
    simp only [Bool.or_eq_true, decide_eq_true_eq, h3 i hi]
    constructor
    · rintro (⟨j, hj, e⟩ | e)
      · exact ⟨j, by omega, e⟩
      · exact ⟨b, by omega, e⟩
    · rintro ⟨j, hj, e⟩
      by_cases hb : j = b
      · subst hb; exact .inr e
      · exact .inl ⟨j, by omega, e⟩
theorem wrK_near {l : List (Int × List UInt8)} {t : Nat} : ∀ b wl, wrK l t ((l.length - t) / 2) b = some wl → ∀ j, j < b → ∃ p, Nr (coX l) (coY l j) t p
  | 0, _, _, j, hj => absurd hj (by omega)
  | b + 1, wl, h, j, hj => by
    rw [wrK] at h
    cases e : wrK l t ((l.length - t) / 2) b with
    | none => rw [e] at h; cases h
    | some wl' =>
      by_cases hb : j = b
      · subst hb
        rw [e] at h
        simp only at h
        have hl := coX_length l
        cases hm : mkB (coX l) (coY l j) wl' t ((l.length - t) / 2) with
        | false => rw [hm] at h; cases h
        | true => rw [← hl] at hm; exact ⟨_, mk_near hm⟩
      · exact wrK_near b wl' e j (by omega)
theorem dsK_zero {xs ys p : List UInt8} : ∀ k, (∀ j, j < k → Py.ev p (gB xs j) = gB ys j) → dsK xs ys p k = 0
  | 0, _ => rfl
  | k + 1, h => by unfold dsK; rw [if_pos (h k (by omega)), dsK_zero k (fun j hj => h j (by omega))]
theorem dsK_all {xs ys p : List UInt8} : ∀ k, dsK xs ys p k = 0 → ∀ j, j < k → Py.ev p (gB xs j) = gB ys j
  | 0, _, j, hj => absurd hj (by omega)
  | k + 1, h, j, hj => by
    unfold dsK at h
    split at h
    · rename_i e
      by_cases hb : j = k
      · subst hb; exact e
      · exact dsK_all k h j (by omega)
    · omega
theorem dsK_one {xs ys p : List UInt8} {i : Nat} : ∀ k, (∀ j, j < k → j ≠ i → Py.ev p (gB xs j) = gB ys j) → dsK xs ys p k ≤ 1
  | 0, _ => by simp [dsK]
  | k + 1, h => by
    by_cases e : k = i
    · subst e
      have := dsK_zero (xs := xs) (ys := ys) (p := p) k (fun j hj => h j (by omega) (by omega))
      unfold dsK; split <;> omega
    · have := dsK_one k (fun j hj => h j (by omega))
      unfold dsK; rw [if_pos (h k (by omega) e)]; exact this
theorem reK_one {l : List (Int × List UInt8)} {wl : List Bool} {i : Nat} : ∀ k, (∀ j, j < k → (gO wl j = true ↔ j = i)) → reK l wl k = if i < k then [(gS l i).1] else []
  | 0, _ => by simp [reK]
  | k + 1, h => by
    have ih := reK_one (l := l) k (fun j hj => h j (by omega))
    unfold reK
    by_cases e : k = i
    · subst e
      rw [if_pos ((h k (by omega)).2 rfl), ih, if_neg (by omega), if_pos (by omega)]; rfl
    · rw [if_neg (fun hg => e ((h k (by omega)).1 hg)), ih]
      by_cases h2 : i < k
      · rw [if_pos h2, if_pos (by omega)]
      · rw [if_neg h2, if_neg (by omega)]
end Go.Proofs.Ytakedococfklgaa
