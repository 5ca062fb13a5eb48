/- Polynomials over the field of 256 elements as lists of coefficients: what package polynomial computes, step by step. No program in sight. -/
import Derived.Test.YtakedococfklgaaMem
namespace Go.Proofs.Ytakedococfklgaa
open Go Gf

theorem gB_ge {l : List UInt8} {k : Nat} (h : l.length ≤ k) : gB l k = 0 := by
  simp [gB, List.getD, List.getElem?_eq_none h]
theorem gB_ext {a b : List UInt8} (hl : a.length = b.length) (h : ∀ k, k < a.length → gB a k = gB b k) : a = b := by
  apply List.ext_getElem hl
  intro i h1 h2
  have := h i h1
  rwa [gB_eq h1, gB_eq h2] at this
/-- The list f 0, .., f (n - 1). -/
def tab (n : Nat) (f : Nat → UInt8) : List UInt8 := (List.range n).map f
theorem tab_length (n : Nat) (f : Nat → UInt8) : (tab n f).length = n := by simp [tab]
theorem gB_tab {n : Nat} (f : Nat → UInt8) {k : Nat} (h : k < n) : gB (tab n f) k = f k := by
  rw [gB_eq (by rw [tab_length]; exact h)]; simp [tab]
theorem tab_self (l : List UInt8) : tab l.length (gB l) = l :=
  gB_ext (tab_length _ _) (fun k hk => gB_tab _ (by rwa [tab_length] at hk))
theorem tab_congr {n : Nat} {f g : Nat → UInt8} (h : ∀ k, k < n → f k = g k) : tab n f = tab n g :=
  gB_ext (by rw [tab_length, tab_length]) (fun k hk => by rw [tab_length] at hk; rw [gB_tab _ hk, gB_tab _ hk, h k hk])
theorem tab_set {n : Nat} (f g : Nat → UInt8) (k : Nat) : (tab n (fun i => if i < k then f i else g i)).set k (f k) = tab n (fun i => if i < k + 1 then f i else g i) := by
  apply List.ext_getElem (by simp [tab])
  intro i h1 h2
  rw [List.getElem_set]
  simp only [tab, List.getElem_map, List.getElem_range]
  by_cases h : k = i
  · subst h; simp
  · rw [if_neg h]
    by_cases h3 : i < k
    · rw [if_pos h3, if_pos (by omega)]
    · rw [if_neg h3, if_neg (by omega)]
theorem gB_take {l : List UInt8} {n k : Nat} (h : k < n) : gB (l.take n) k = gB l k := by
  simp [gB, List.getD, h]
theorem gB_drop {l : List UInt8} {n k : Nat} : gB (l.drop n) k = gB l (n + k) := by
  simp [gB, List.getD, List.getElem?_drop]
theorem gB_set {l : List UInt8} {k j : Nat} (x : UInt8) (h : k < l.length) : gB (l.set k x) j = if j = k then x else gB l j := by
  by_cases e : j = k
  · subst e; simp [gB, List.getD, List.getElem?_set_self h]
  · rw [if_neg e]; simp [gB, List.getD, List.getElem?_set_ne (fun e' => e e'.symm)]
theorem gB_zeros (n k : Nat) : gB (zeros n) k = 0 := by
  by_cases h : k < n
  · rw [gB_eq (by simpa [zeros] using h)]; simp [zeros]
  · exact gB_ge (by simp [zeros]; omega)
theorem gB_cons_zero (x : UInt8) (l : List UInt8) : gB (x :: l) 0 = x := rfl
theorem gB_cons_succ (x : UInt8) (l : List UInt8) (k : Nat) : gB (x :: l) (k + 1) = gB l k := by simp [gB, List.getD]
theorem gB_append {a b : List UInt8} (k : Nat) : gB (a ++ b) k = if k < a.length then gB a k else gB b (k - a.length) := by
  by_cases h : k < a.length
  · rw [if_pos h]; simp [gB, List.getD, List.getElem?_append_left h]
  · rw [if_neg h]; simp [gB, List.getD, List.getElem?_append_right (Nat.le_of_not_lt h)]

namespace Py
/-- The number of the first n coefficients without zeros at their end. -/
def tlen (p : List UInt8) : Nat → Nat
  | 0 => 0
  | n + 1 => if gB p n = 0 then tlen p n else n + 1
theorem tlen_le (p : List UInt8) : ∀ n, tlen p n ≤ n
  | 0 => Nat.le_refl _
  | n + 1 => by unfold tlen; split; exact Nat.le_succ_of_le (tlen_le p n); exact Nat.le_refl _
theorem tlen_zero (p : List UInt8) : ∀ n k, tlen p n ≤ k → k < n → gB p k = 0
  | 0, _, _, h => absurd h (by omega)
  | n + 1, k, h1, h2 => by
    unfold tlen at h1
    split at h1
    · rename_i h0
      by_cases e : k = n
      · rw [e]; exact h0
      · exact tlen_zero p n k h1 (by omega)
    · omega
theorem tlen_top (p : List UInt8) : ∀ n, 0 < tlen p n → gB p (tlen p n - 1) ≠ 0
  | 0, h => absurd h (by simp [tlen])
  | n + 1, h => by
    unfold tlen at h ⊢
    split
    · rename_i h0
      rw [if_pos h0] at h
      exact tlen_top p n h
    · rename_i h0; simpa using h0
/-- The length without zeros at the end: the degree plus one. -/
def tl (p : List UInt8) : Nat := tlen p p.length
theorem tl_le (p : List UInt8) : tl p ≤ p.length := tlen_le _ _
theorem tl_zero (p : List UInt8) {k : Nat} (h : tl p ≤ k) : gB p k = 0 := by
  by_cases hk : k < p.length
  · exact tlen_zero p _ k h hk
  · exact gB_ge (by omega)
theorem tl_top (p : List UInt8) (h : 0 < tl p) : gB p (tl p - 1) ≠ 0 := tlen_top p _ h
theorem tl_of (p : List UInt8) (n : Nat) (h0 : ∀ k, n ≤ k → gB p k = 0) (h1 : 0 < n → gB p (n - 1) ≠ 0) : tl p = n := by
  rcases Nat.lt_trichotomy (tl p) n with h | h | h
  · exact absurd (tl_zero p (k := n - 1) (by omega)) (h1 (by omega))
  · exact h
  · exact absurd (h0 (tl p - 1) (by omega)) (tl_top p (by omega))
def trim (p : List UInt8) : List UInt8 := p.take (tl p)
theorem trim_length (p : List UInt8) : (trim p).length = tl p := by unfold trim; rw [List.length_take]; have := tl_le p; omega
theorem gB_trim (p : List UInt8) (k : Nat) : gB (trim p) k = gB p k := by
  by_cases h : k < tl p
  · exact gB_take h
  · rw [gB_ge (by rw [trim_length]; omega), tl_zero p (by omega)]
theorem tl_congr {p q : List UInt8} (h : ∀ k, gB p k = gB q k) : tl p = tl q :=
  tl_of p (tl q) (fun k hk => by rw [h]; exact tl_zero q hk) (fun h0 => by rw [h]; exact tl_top q h0)
theorem trim_congr {p q : List UInt8} (h : ∀ k, gB p k = gB q k) : trim p = trim q :=
  gB_ext (by rw [trim_length, trim_length]; exact tl_congr h) (fun k _ => by rw [gB_trim, gB_trim]; exact h k)
theorem tl_trim (p : List UInt8) : tl (trim p) = tl p := tl_congr (gB_trim p)
theorem trim_trim (p : List UInt8) : trim (trim p) = trim p := trim_congr (gB_trim p)

/-- The longer one's length, the sums. -/
def xorL (p q : List UInt8) : List UInt8 := tab (max p.length q.length) (fun i => gB p i ^^^ gB q i)
theorem gB_xorL (p q : List UInt8) (k : Nat) : gB (xorL p q) k = gB p k ^^^ gB q k := by
  by_cases h : k < max p.length q.length
  · exact gB_tab _ h
  · rw [gB_ge (by rw [xorL, tab_length]; omega), gB_ge (by omega), gB_ge (by omega)]; rfl
def addP (p q : List UInt8) : List UInt8 := trim (xorL p q)
theorem gB_addP (p q : List UInt8) (k : Nat) : gB (addP p q) k = gB p k ^^^ gB q k := by rw [addP, gB_trim, gB_xorL]

/-- l with a times q added from place o on. -/
def addAt (l : List UInt8) (o : Nat) (q : List UInt8) (a : UInt8) : List UInt8 := tab l.length (fun j => if o ≤ j then gB l j ^^^ mul a (gB q (j - o)) else gB l j)
theorem addAt_length (l : List UInt8) (o : Nat) (q : List UInt8) (a : UInt8) : (addAt l o q a).length = l.length := tab_length _ _
theorem gB_addAt (l : List UInt8) (o : Nat) (q : List UInt8) (a : UInt8) {j : Nat} (h : j < l.length) : gB (addAt l o q a) j = if o ≤ j then gB l j ^^^ mul a (gB q (j - o)) else gB l j := gB_tab _ h
theorem addAt_zero (l : List UInt8) (o : Nat) (q : List UInt8) : addAt l o q 0 = l :=
  gB_ext (addAt_length _ _ _ _) (fun k hk => by
    rw [addAt_length] at hk
    rw [gB_addAt _ _ _ _ hk, zero_mul]
    split <;> simp)
/-- After k rounds. -/
def addK (l : List UInt8) (o : Nat) (q : List UInt8) (a : UInt8) (k : Nat) : List UInt8 := tab l.length (fun j => if o ≤ j ∧ j < o + k then gB l j ^^^ mul a (gB q (j - o)) else gB l j)
theorem addK_length (l : List UInt8) (o : Nat) (q : List UInt8) (a : UInt8) (k : Nat) : (addK l o q a k).length = l.length := tab_length _ _
theorem addK_zero (l : List UInt8) (o : Nat) (q : List UInt8) (a : UInt8) : addK l o q a 0 = l := by
  refine (tab_congr fun k _ => ?_).trans (tab_self l)
  rw [if_neg (by omega)]
theorem addK_all (l : List UInt8) (o : Nat) (q : List UInt8) (a : UInt8) (k : Nat) (h : q.length ≤ k) : addK l o q a k = addAt l o q a := by
  refine tab_congr fun j _ => ?_
  by_cases h1 : o ≤ j
  · by_cases h2 : j < o + k
    · rw [if_pos ⟨h1, h2⟩, if_pos h1]
    · rw [if_neg (by omega), if_pos h1, gB_ge (l := q) (by omega), mul_zero]; simp
  · rw [if_neg (by omega), if_neg h1]
theorem addK_get (l : List UInt8) (o : Nat) (q : List UInt8) (a : UInt8) (k : Nat) (h : o + k < l.length) : gB (addK l o q a k) (o + k) = gB l (o + k) := by
  rw [addK, gB_tab _ h, if_neg (by omega)]
theorem addK_set (l : List UInt8) (o : Nat) (q : List UInt8) (a : UInt8) (k : Nat) (h : o + k < l.length) :
    (addK l o q a k).set (o + k) (gB l (o + k) ^^^ mul a (gB q k)) = addK l o q a (k + 1) := by
  refine gB_ext (by rw [List.length_set, addK_length, addK_length]) fun j hj => ?_
  rw [List.length_set, addK_length] at hj
  rw [gB_set _ (by rw [addK_length]; exact h), addK, addK, gB_tab _ hj, gB_tab _ hj]
  by_cases e : j = o + k
  · subst e; rw [if_pos rfl, if_pos (by omega), Nat.add_sub_cancel_left]
  · rw [if_neg e]
    by_cases h1 : o ≤ j ∧ j < o + k
    · rw [if_pos h1, if_pos (by omega)]
    · rw [if_neg h1, if_neg (by omega)]

/-- The product of the first k coefficients of p with q. -/
def convK (p q : List UInt8) : Nat → List UInt8
  | 0 => zeros (p.length + q.length - 1)
  | k + 1 => addAt (convK p q k) k q (gB p k)
theorem convK_length (p q : List UInt8) : ∀ k, (convK p q k).length = p.length + q.length - 1
  | 0 => zeros_length _
  | k + 1 => by rw [convK, addAt_length, convK_length p q k]
def mulP (p q : List UInt8) : List UInt8 :=
  if (trim p).length = 0 ∨ (trim q).length = 0 then [] else if 1023 < (trim p).length - 1 + (trim q).length - 1 then [] else convK (trim p) (trim q) (trim p).length

/-- Division: (quotient, rest) when the coefficients from i on of the quotient are done. -/
def divK (d : List UInt8) (iv : UInt8) (last : Nat) : Nat → List UInt8 × List UInt8 → List UInt8 × List UInt8
  | 0, s => s
  | i + 1, s => divK d iv last i (s.1.set i (mul (gB s.2 (i + last)) iv), addAt s.2 i d (mul (gB s.2 (i + last)) iv))
def divP (p q : List UInt8) : List UInt8 × List UInt8 :=
  if (trim q).length = 0 then ([], []) else
    let s := divK (trim q) (inv (gB (trim q) ((trim q).length - 1))) ((trim q).length - 1) ((trim p).length - ((trim q).length - 1)) (zeros ((trim p).length - ((trim q).length - 1)), trim p)
    (s.1, trim s.2)

/-- The value at x, from the coefficient of number k on. -/
def ev (l : List UInt8) (x : UInt8) : UInt8 := l.foldr (fun a v => mul v x ^^^ a) 0
theorem ev_nil (x : UInt8) : ev [] x = 0 := rfl
theorem ev_cons (a : UInt8) (l : List UInt8) (x : UInt8) : ev (a :: l) x = mul (ev l x) x ^^^ a := rfl
theorem ev_drop (l : List UInt8) (x : UInt8) (k : Nat) (h : k < l.length) : ev (l.drop k) x = mul (ev (l.drop (k + 1)) x) x ^^^ gB l k := by
  rw [List.drop_eq_getElem_cons h, ev_cons, gB_eq h]

/-- No byte twice. -/
def Dst (xs : List UInt8) : Prop := ∀ i j, i < j → j < xs.length → gB xs i ≠ gB xs j
/-- a through b; 0 for b = 0. -/
def dv (a b : UInt8) : UInt8 := if b = 0 then 0 else mul a (inv b)
/-- The error of a division. -/
def dvE (b : UInt8) : Int := if b = 0 then 1 else 0
/-- p times x + r. -/
def tr (p : List UInt8) (r : UInt8) : List UInt8 := addAt (0 :: p) 0 p r
theorem tr_length (p : List UInt8) (r : UInt8) : (tr p r).length = p.length + 1 := by rw [tr, addAt_length]; rfl
/-- Newton's interpolation: (result, basis) after k rounds. -/
def itK (xs ys : List UInt8) : Nat → List UInt8 × List UInt8
  | 0 => (zeros xs.length, [1])
  | k + 1 => (addAt (itK xs ys k).1 0 (itK xs ys k).2 (dv (gB ys k ^^^ ev (itK xs ys k).1 (gB xs k)) (ev (itK xs ys k).2 (gB xs k))), tr (itK xs ys k).2 (gB xs k))
theorem itK_length1 (xs ys : List UInt8) : ∀ k, (itK xs ys k).1.length = xs.length
  | 0 => zeros_length _
  | k + 1 => by rw [itK]; simp only [addAt_length, itK_length1 xs ys k]
theorem itK_length2 (xs ys : List UInt8) : ∀ k, (itK xs ys k).2.length = k + 1
  | 0 => rfl
  | k + 1 => by rw [itK]; simp only [tr_length, itK_length2 xs ys k]
def itP (xs ys : List UInt8) : List UInt8 := trim (itK xs ys xs.length).1
/-- The product of x + r. -/
def frP (rs : List UInt8) : List UInt8 := rs.foldl tr [1]
end Py
end Go.Proofs.Ytakedococfklgaa
