/- Several texts in one: Alg, Alg2, Rf7. -/
import Derived.Test.YtfcakjpljjnjnaaGreatDoorC35
import Derived.Test.YtfcakjpljjnjnaaGreatDoorC34
import Derived.Test.YtfcakjpljjnjnaaGreatDoorC36
/- The code's algebra: any data pieces with different indices give the blocks. Plain. -/
namespace Go.Proofs.YtfcakjpljjnjnaaGreatDoor
open Gf

def sumN (l : List Nat) (f : Nat → UInt8) : UInt8 := (l.map f).foldr (· ^^^ ·) 0
theorem sumN_cons (c : Nat) (l : List Nat) (f : Nat → UInt8) : sumN (c :: l) f = f c ^^^ sumN l f := rfl
theorem sumN_append (a b : List Nat) (f : Nat → UInt8) : sumN (a ++ b) f = sumN a f ^^^ sumN b f := by
 induction a with
 | nil => simp [sumN]
 | cons c a ih => rw [List.cons_append, sumN_cons, sumN_cons, ih, xor_assoc]
theorem sumN_filter (p : Nat → Bool) (f : Nat → UInt8) (l : List Nat) (h : ∀ c ∈ l, p c = false → f c = 0) : sumN (l.filter p) f = sumN l f := by
 induction l with
 | nil => rfl
 | cons c l ih =>
  have ih' := ih (fun x hx => h x (by simp [hx]))
  cases hp : p c with
  | true => rw [List.filter_cons_of_pos hp, sumN_cons, sumN_cons, ih']
  | false => rw [List.filter_cons_of_neg (by simp [hp]), sumN_cons, h c (by simp) hp, ih']; simp
theorem dot_sumN (r : List UInt8) (v : Nat → UInt8) : ∀ n, dot r v n = sumN (List.range n) (fun c => mul (gB r c) (v c))
 | 0 => rfl
 | n + 1 => by
  rw [dot, dot_sumN r v n, List.range_succ, sumN_append]
  simp [sumN]
theorem sumL_map (l : List Nat) (g : UInt8 → UInt8) : sumL (l.map UInt8.ofNat) g = sumN l (fun c => g (UInt8.ofNat c)) := by
 unfold sumL sumN; rw [List.map_map]; rfl
theorem sumN_congr {l : List Nat} {f g : Nat → UInt8} (h : ∀ c ∈ l, f c = g c) : sumN l f = sumN l g := by
 unfold sumN; rw [List.map_congr_left h]

theorem length_le_of_subset {l1 : List Nat} : ∀ {l2 : List Nat}, l1.Nodup → (∀ x ∈ l1, x ∈ l2) → l1.length ≤ l2.length := by
 induction l1 with
 | nil => intro l2 _ _; simp
 | cons a l1 ih =>
  intro l2 hn hs
  rw [List.nodup_cons] at hn
  have ha : a ∈ l2 := hs a (by simp)
  have h1 := ih (l2 := l2.erase a) hn.2 (fun x hx => (List.mem_erase_of_ne (fun e => hn.1 (by rw [← e]; exact hx))).2 (hs x (by simp [hx])))
  rw [List.length_erase_of_mem ha] at h1
  have h2 : 0 < l2.length := List.length_pos_of_mem ha
  simp only [List.length_cons]
  omega
theorem nodup_bytes {l : List Nat} (h : l.Nodup) (hl : ∀ x ∈ l, x < 256) : (l.map UInt8.ofNat).Nodup := by
 unfold List.Nodup at h ⊢
 rw [List.pairwise_map]
 refine List.Pairwise.imp_of_mem (fun {a b} ha hb hab e => hab ?_) h
 have := congrArg UInt8.toNat e
 have h1 := hl a ha
 have h2 := hl b hb
 simp at this
 omega
theorem filter_sum (l : List Nat) (p : Nat → Bool) : (l.filter p).length + (l.filter (fun x => !p x)).length = l.length := by
 induction l with
 | nil => rfl
 | cons a l ih => cases hp : p a <;> simp [hp] <;> omega

theorem crw_get {d r c : Nat} (hc : c < d) : gB (crw d r) c = coef d r c := by
 rw [gB_eq (by rw [crw_length]; exact hc)]; simp [crw]
theorem ofNat_xor' (a b : Nat) : UInt8.ofNat (a ^^^ b) = UInt8.ofNat a ^^^ UInt8.ofNat b := by simp

theorem code_inj {d : Nat} {T : List Nat} (hT : T.Nodup) (hl : T.length = d) (h16 : ∀ r ∈ T, r < 16) (hd : d ≤ 8) (v : Nat → UInt8) (h : ∀ r ∈ T, dot (crw d r) v d = 0) : ∀ c, c < d → v c = 0 := by
 have hunit : ∀ r ∈ T, r < d → v r = 0 := fun r hr hrd => by
  have h1 := h r hr
  rw [dot_delta _ _ r d (fun c hc => by
   rw [crw_get hc, coef, if_neg (by omega)]
   by_cases e : r = c
   ·
    rw [if_pos e, if_pos e.symm]
   ·
    rw [if_neg e, if_neg (fun e' => e e'.symm)]), if_pos hrd] at h1
  exact h1
 let S0 := (List.range d).filter (fun c => !T.contains c)
 let R0 := T.filter (fun r => !decide (r < d))
 have hS0 : ∀ c, c ∈ S0 ↔ c < d ∧ c ∉ T := fun c => by simp [S0]
 have hR0 : ∀ r, r ∈ R0 ↔ r ∈ T ∧ d ≤ r := fun r => by simp [R0]
 have hlen : S0.length ≤ R0.length := by
  have h1 := filter_sum (List.range d) (fun c => T.contains c)
  have h2 := filter_sum T (fun r => decide (r < d))
  have h3 : (T.filter (fun r => decide (r < d))).length ≤ ((List.range d).filter (fun c => T.contains c)).length :=
   length_le_of_subset (hT.filter _) (fun x hx => by
    obtain ⟨hx1, hx2⟩ := List.mem_filter.1 hx
    exact List.mem_filter.2 ⟨List.mem_range.2 (by simpa using hx2), by simpa using hx1⟩)
  rw [List.length_range] at h1
  show ((List.range d).filter (fun c => !T.contains c)).length ≤ (T.filter (fun r => !decide (r < d))).length
  omega
 have key := cauchy (S0.map UInt8.ofNat) (R0.map UInt8.ofNat) (fun b => v b.toNat) (nodup_bytes (List.nodup_range.filter _) (fun x hx => by have := (hS0 x).1 hx; omega)) (nodup_bytes (hT.filter _) (fun x hx => by have := h16 x ((hR0 x).1 hx).1; omega))
  (fun b hb hb' => by
   obtain ⟨r, hr, rfl⟩ := List.mem_map.1 hb
   obtain ⟨c, hc, e⟩ := List.mem_map.1 hb'
   have h1 := (hR0 r).1 hr
   have h2 := (hS0 c).1 hc
   have h3 := h16 r h1.1
   have := congrArg UInt8.toNat e
   simp at this
   omega) (by simpa using hlen) (fun b hb => by
   obtain ⟨r, hr, rfl⟩ := List.mem_map.1 hb
   have h1 := (hR0 r).1 hr
   have h2 := h r h1.1
   rw [dot_sumN, ← sumN_filter (fun c => !T.contains c) _ _ (fun c hc hp => by
    have hcT : c ∈ T := by simpa using hp
    rw [hunit c hcT (List.mem_range.1 hc), mul_zero])] at h2
   rw [sumL_map]
   refine Eq.trans (sumN_congr fun c hc => ?_) h2
   have hc' := (hS0 c).1 hc
   have hcn : (UInt8.ofNat c).toNat = c := by simp; omega
   rw [hcn, crw_get hc'.1, coef, if_pos h1.2, mul_comm, ofNat_xor'])
 intro c hc
 by_cases hcT : c ∈ T
 ·
  exact hunit c hcT hc
 ·
  have h1 : v (UInt8.ofNat c).toNat = 0 := key (UInt8.ofNat c) (List.mem_map.2 ⟨c, (hS0 c).2 ⟨hc, hcT⟩, rfl⟩)
  have hcn : (UInt8.ofNat c).toNat = c := by simp; omega
  rwa [hcn] at h1

theorem unit_get {d i c : Nat} (hc : c < d) : gB (unit d i) c = if c = i then 1 else 0 := by
 rw [gB_eq (by rw [unit_length]; exact hc)]
 simp only [unit, List.getElem_set]
 by_cases e : i = c
 ·
  rw [if_pos e, if_pos e.symm]
 ·
  rw [if_neg e, if_neg (fun e' => e e'.symm)]; simp [zeros]
theorem ofM_take_get {d : Nat} {z : List Nat} (hl : d ≤ z.length) {i : Nat} (hi : i < d) : gR (ofM d (z.take d)) i = crw d (gN z i) := by
 rw [gR_eq (by simp [ofM]; omega)]
 simp [ofM, gN, List.getD, List.getElem?_eq_getElem (show i < z.length by omega)]
theorem jm_row {d : Nat} {z : List Nat} (hl : d ≤ z.length) {i : Nat} (hi : i < d) : gR (jmat (ofM d (z.take d)) (idm d) d) i = crw d (gN z i) ++ unit d i := by
 rw [jmat_get _ _ _ _ hi, jrow, ofM_take_get hl hi, idm_get _ _ hi]
theorem jm_rect {d : Nat} {z : List Nat} (hl : d ≤ z.length) : Rect (jmat (ofM d (z.take d)) (idm d) d) (d + d) := fun i hi => by
 rw [jmat_length] at hi
 rw [jm_row hl hi, List.length_append, crw_length, unit_length]

/-! The inverse. -/
section
variable {d : Nat} {z : List Nat} (hz : (z.take d).Nodup) (h16 : ∀ r ∈ z.take d, r < 16) (hd : d ≤ 8) (hl : d ≤ z.length)
include hz h16 hd hl

theorem left_inj (M : List (List UInt8)) (W : Nat) (hM : M.length = d) (hW : d ≤ W) (hrow : ∀ i, i < d → ∃ b, gR M i = crw d (gN z i) ++ b) (v : Nat → UInt8) (hv : ∀ c, d ≤ c → v c = 0) (hK : Ker M W v) : ∀ c, c < d → v c = 0 := by
 refine code_inj hz (by rw [List.length_take]; omega) h16 hd v (fun r hr => ?_)
 obtain ⟨i, hi, rfl⟩ := List.getElem_of_mem hr
 have hid : i < d := by rw [List.length_take] at hi; omega
 have e : (z.take d)[i] = gN z i := by rw [gN_eq (by omega)]; simp
 obtain ⟨b, hb⟩ := hrow i hid
 have h1 := hK i (by omega)
 rw [show W = d + (W - d) by omega, dot_tail _ _ _ _ hv, hb] at h1
 rw [e]
 rw [dot_congr (r' := crw d (gN z i)) (v' := v) (fun k hk => by rw [gB_append_left (by rw [crw_length]; exact hk)])] at h1
 exact h1
theorem reg_all : Reg d z := by
 unfold Reg elimI
 exact (reg_gen (jm_rect hl) (jmat_length _ _ _) (by omega) (left_inj hz h16 hd hl _ _ (jmat_length _ _ _) (by omega) (fun i hi => ⟨_, jm_row hl hi⟩)) d (Nat.le_refl _)).1
theorem elim_unit : Unit' (red (jmat (ofM d (z.take d)) (idm d) d) d).1 d :=
 (reg_gen (jm_rect hl) (jmat_length _ _ _) (by omega) (left_inj hz h16 hd hl _ _ (jmat_length _ _ _) (by omega) (fun i hi => ⟨_, jm_row hl hi⟩)) d (Nat.le_refl _)).2

/-- C x = y just where x = T y. -/
theorem inv_iff (x y : Nat → UInt8) : (∀ i, i < d → dot (crw d (gN z i)) x d = y i) ↔ (∀ i, i < d → x i = dot (gR (invT d z) i) y d) := by
 let v : Nat → UInt8 := fun k => if k < d then x k else y (k - d)
 have vlo : ∀ k, k < d → v k = x k := fun k hk => by show (if k < d then x k else y (k - d)) = x k; rw [if_pos hk]
 have vhi : ∀ k, v (d + k) = y k := fun k => by show (if d + k < d then x (d + k) else y (d + k - d)) = y k; rw [if_neg (by omega), Nat.add_sub_cancel_left]
 have hker := ker_red (v := v) (jm_rect hl) d
 have hU := elim_unit hz h16 hd hl
 have hkeep := red_keeps (jm_rect hl) d
 have e1 : Ker (jmat (ofM d (z.take d)) (idm d) d) (d + d) v ↔ ∀ i, i < d → dot (crw d (gN z i)) x d = y i := by
  have row : ∀ i, i < d → (dot (gR (jmat (ofM d (z.take d)) (idm d) d) i) v (d + d) = 0 ↔ dot (crw d (gN z i)) x d = y i) := fun i hi => by
   have h1 := dot_append (a := crw d (gN z i)) (b := unit d i) (v := v) d
   rw [crw_length] at h1
   rw [jm_row hl hi, h1, dot_delta (unit d i) _ i d (fun c hc => unit_get hc), if_pos hi, vhi,
    dot_congr (r' := crw d (gN z i)) (v' := x) (fun k hk => by rw [vlo k hk])]
   constructor
   ·
    intro h
    have := congrArg (fun t => t ^^^ y i) h
    simpa [xor_assoc, xor_cancel] using this
   ·
    intro h; rw [h, xor_cancel]
  constructor
  ·
   intro h i hi; exact (row i hi).1 (h i (by rw [jmat_length]; exact hi))
  ·
   intro h i hi; rw [jmat_length] at hi; exact (row i hi).2 (h i hi)
 have e2 : Ker (red (jmat (ofM d (z.take d)) (idm d) d) d).1 (d + d) v ↔ ∀ i, i < d → x i = dot (gR (invT d z) i) y d := by
  have row : ∀ i, i < d → (dot (gR (red (jmat (ofM d (z.take d)) (idm d) d) d).1 i) v (d + d) = 0 ↔ x i = dot (gR (invT d z) i) y d) := fun i hi => by
   have hil : i < (red (jmat (ofM d (z.take d)) (idm d) d) d).1.length := by rw [hkeep.2, jmat_length]; exact hi
   have hrl := hkeep.1 i hil
   have hT : gR (invT d z) i = (gR (red (jmat (ofM d (z.take d)) (idm d) d) d).1 i).drop d := by
    show gR (invM (ofM d (z.take d)) d) i = _
    rw [invM, gR_eq (by simpa using hi)]
    simp [invrow, elimI]
   have hu := hU i hil
   rw [hT]
   generalize gR (red (jmat (ofM d (z.take d)) (idm d) d) d).1 i = r at hrl hu
   have hsplit : r = r.take d ++ r.drop d := (List.take_append_drop d r).symm
   have htl : (r.take d).length = d := by rw [List.length_take]; omega
   have h1 := dot_append (a := r.take d) (b := r.drop d) (v := v) d
   rw [htl, ← hsplit] at h1
   rw [h1, dot_delta (r.take d) v i d (fun c hc => by
    have := hu c hc
    rw [hsplit, gB_append_left (by rw [htl]; exact hc)] at this
    exact this), if_pos hi, vlo i hi, dot_congr (r' := r.drop d) (v' := y) (fun k hk => by rw [vhi])]
   constructor
   ·
    intro h
    have := congrArg (fun t => t ^^^ dot (r.drop d) y d) h
    simpa [xor_assoc, xor_cancel] using this
   ·
    intro h; rw [h, xor_cancel]
  constructor
  ·
   intro h i hi; exact (row i hi).1 (h i (by rw [hkeep.2, jmat_length]; exact hi))
  ·
   intro h i hi; rw [hkeep.2, jmat_length] at hi; exact (row i hi).2 (h i hi)
 rw [← e1, ← e2, hker]
end
end Go.Proofs.YtfcakjpljjnjnaaGreatDoor
/- What Reconstruct, Repair and Check compute, in the references' words: plain. -/
namespace Go.Proofs.YtfcakjpljjnjnaaGreatDoor
open Gf

theorem dot_e (r : List UInt8) (l : Nat) : ∀ n, dot r (fun k => if k = l then 1 else 0) n = if l < n then gB r l else 0
 | 0 => rfl
 | n + 1 => by
  rw [dot, dot_e r l n]
  by_cases e : n = l
  ·
   subst e; rw [if_neg (by omega), if_pos rfl, if_pos (by omega), mul_one]; simp
  ·
   rw [if_neg e, mul_zero]
   by_cases h : l < n
   ·
    rw [if_pos h, if_pos (by omega)]; simp
   ·
    rw [if_neg h, if_neg (by omega)]; simp
theorem xs1_dot (r : List UInt8) (m : List (List UInt8)) (i : Nat) : ∀ k, xs1 r m i k = dot r (fun c => gB (gR m c) i) k
 | 0 => rfl
 | k + 1 => by rw [xs1, dot, xs1_dot r m i k]
theorem pcR_get {r : List UInt8} {m : List (List UInt8)} {L i : Nat} (hi : i < L) : gB (pcR r m L) i = dot r (fun c => gB (gR m c) i) m.length := by
 rw [gB_eq (by rw [pcR_length]; exact hi)]
 simp [pcR, xs1_dot]
theorem row_ext {a b : List UInt8} {L : Nat} (ha : a.length = L) (hb : b.length = L) (h : ∀ i, i < L → gB a i = gB b i) : a = b := by
 apply List.ext_getElem (by omega)
 intro i h1 h2
 have := h i (by omega)
 rwa [gB_eq h1, gB_eq h2] at this

/-- The matrix that the reference reduces. -/
def wideM (d : Nat) (z : List Nat) (m : List (List UInt8)) : List (List UInt8) := (List.range d).map fun i => crw d (gN z i) ++ gR m i
def refRec (d : Nat) (z : List Nat) (m : List (List UInt8)) (L : Nat) : List (List UInt8) := (List.range d).map fun i => (gR (red (wideM d z m) (d + L)).1 i).drop d

theorem wide_row {d : Nat} {z : List Nat} {m : List (List UInt8)} {i : Nat} (hi : i < d) : gR (wideM d z m) i = crw d (gN z i) ++ gR m i := by
 rw [gR_eq (by simpa [wideM] using hi)]; simp [wideM]
theorem recM_row {d : Nat} {z : List Nat} {m : List (List UInt8)} {L : Nat} (hr : Rect m L) (hl : d ≤ z.length) (hm : d ≤ m.length) {i : Nat} (hi : i < d) : gR (recM d z m L) i = pcR (gR (invT d z) i) (m.take d) L := by
 have hil := invT_length d z
 rw [recM, cmat_get _ _ _ _ _ _ (by rw [hil]; exact hi), crow, if_pos hi, invT_rect hl i (by rw [hil]; exact hi)]
 have := comb_pcR (r := gR (invT d z) i) (Rect.take hr d)
 rw [show (m.take d).length = d by rw [List.length_take]; omega] at this
 exact this
theorem recM_length (d : Nat) (z : List Nat) (m : List (List UInt8)) (L : Nat) : (recM d z m L).length = d := by rw [recM, cmat_length, invT_length]
theorem recM_rect {d : Nat} {z : List Nat} {m : List (List UInt8)} {L : Nat} (hr : Rect m L) (hl : d ≤ z.length) (hm : d ≤ m.length) : Rect (recM d z m L) L := fun i hi => by
 rw [recM_length] at hi
 rw [recM_row hr hl hm hi, pcR_length]
theorem recM_get {d : Nat} {z : List Nat} {m : List (List UInt8)} {L : Nat} (hr : Rect m L) (hl : d ≤ z.length) (hm : d ≤ m.length) {i l : Nat} (hi : i < d) (hlL : l < L) : gB (gR (recM d z m L) i) l = dot (gR (invT d z) i) (fun k => gB (gR m k) l) d := by
 rw [recM_row hr hl hm hi, pcR_get hlL, show (m.take d).length = d by rw [List.length_take]; omega]
 exact dot_congr (fun k hk => by rw [e8gR_take hk])

section
variable {d : Nat} {z : List Nat} {m : List (List UInt8)} {L : Nat} (hz : (z.take d).Nodup) (h16 : ∀ r ∈ z.take d, r < 16) (hd : d ≤ 8) (hl : d ≤ z.length) (hr : Rect m L) (hm : d ≤ m.length)
include hz h16 hd hl hr hm

theorem wide_rect : Rect (wideM d z m) (d + L) := fun i hi => by
 have _u := And.intro hz (And.intro h16 (And.intro hd (And.intro hl (And.intro hr hm))))
 have hi' : i < d := by simpa [wideM] using hi
 rw [wide_row hi', List.length_append, crw_length, hr i (by omega)]
theorem wide_reg : (red (wideM d z m) d).2 = d ∧ Unit' (red (wideM d z m) d).1 d :=
 reg_gen (wide_rect hz h16 hd hl hr hm) (by simp [wideM]) (by omega) (left_inj hz h16 hd hl _ _ (by simp [wideM]) (by omega) (fun i hi => ⟨_, wide_row hi⟩)) d (Nat.le_refl _)
theorem red_more : ∀ j, red (wideM d z m) (d + j) = red (wideM d z m) d
 | 0 => rfl
 | j + 1 => by
  have h1 := wide_reg hz h16 hd hl hr hm
  have h2 := red_keeps (wide_rect hz h16 hd hl hr hm) d
  rw [← Nat.add_assoc, red, red_more j, redS_none (pvF_none (fun k hk hk' => by rw [h2.2] at hk'; simp [wideM] at hk'; rw [h1.1] at hk; omega))]

/-- Nothing else does. -/
theorem rec_only (x : Nat → UInt8) {l : Nat} (hlL : l < L) (h : ∀ i, i < d → dot (crw d (gN z i)) x d = gB (gR m i) l) {c : Nat} (hc : c < d) : x c = gB (gR (recM d z m L) c) l := by
 rw [recM_get hr hl hm hc hlL]
 exact (inv_iff hz h16 hd hl x (fun k => gB (gR m k) l)).1 h c hc

theorem refRec_eq : refRec d z m L = recM d z m L := by
 have hk := red_keeps (wide_rect hz h16 hd hl hr hm) d
 have hlen : (red (wideM d z m) d).1.length = d := by rw [hk.2]; simp [wideM]
 have hU := (wide_reg hz h16 hd hl hr hm).2
 apply List.ext_getElem (by rw [recM_length]; simp [refRec])
 intro i h1 h2
 have hi : i < d := by simpa [refRec] using h1
 have e1 : (refRec d z m L)[i] = (gR (red (wideM d z m) d).1 i).drop d := by simp [refRec, red_more hz h16 hd hl hr hm]
 have e2 : (recM d z m L)[i] = gR (recM d z m L) i := (gR_eq h2).symm
 rw [e1, e2]
 have hri : ∀ j, j < d → (gR (red (wideM d z m) d).1 j).length = d + L := fun j hj => hk.1 j (by rw [hlen]; exact hj)
 refine row_ext (L := L) (by rw [List.length_drop, hri i hi]; omega) (recM_rect hr hl hm i h2) (fun l hlL => ?_)
 have hgd : ∀ j, j < d → gB ((gR (red (wideM d z m) d).1 j).drop d) l = gB (gR (red (wideM d z m) d).1 j) (d + l) := fun j hj => by
  rw [gB_eq (by rw [List.length_drop, hri j hj]; omega), gB_eq (by rw [hri j hj]; omega)]; simp
 rw [hgd i hi]
 let x : Nat → UInt8 := fun j => gB (gR (red (wideM d z m) d).1 j) (d + l)
 let v : Nat → UInt8 := fun k => if k < d then x k else if k = d + l then 1 else 0
 have vlo : ∀ k, k < d → v k = x k := fun k hk => by show (if k < d then x k else _) = x k; rw [if_pos hk]
 have vhi : ∀ k, v (d + k) = if k = l then 1 else 0 := fun k => by
  show (if d + k < d then x (d + k) else if d + k = d + l then (1 : UInt8) else 0) = _
  rw [if_neg (by omega)]
  by_cases e : k = l
  ·
   rw [if_pos (by omega), if_pos e]
  ·
   rw [if_neg (by omega), if_neg e]
 have split : ∀ (r : List UInt8), r.length = d + L → dot r v (d + L) = dot (r.take d) x d ^^^ gB r (d + l) := fun r hrl => by
  have htl : (r.take d).length = d := by rw [List.length_take]; omega
  have h3 := dot_append (a := r.take d) (b := r.drop d) (v := v) L
  rw [htl, List.take_append_drop] at h3
  have h4 : dot (r.take d) v d = dot (r.take d) x d := dot_congr (fun k hk => by rw [vlo k hk])
  have h5 : dot (r.drop d) (fun k => v (d + k)) L = gB (r.drop d) l := by
   rw [dot_congr (r' := r.drop d) (v' := fun k => if k = l then 1 else 0) (fun k hk => by rw [vhi]), dot_e, if_pos hlL]
  rw [h3, h4, h5]
  congr 1
  rw [gB_eq (by rw [List.length_drop]; omega), gB_eq (by omega)]; simp
 have hK : Ker (red (wideM d z m) d).1 (d + L) v := fun j hj => by
  rw [hlen] at hj
  rw [split _ (hri j hj), dot_delta _ x j d (fun c hc => by
   have := hU j (by rw [hlen]; exact hj) c hc
   rw [← this]
   have hrj := hri j hj
   rw [gB_eq (by rw [List.length_take]; omega), gB_eq (by omega)]; simp), if_pos hj]
  exact xor_cancel _
 have hK0 := (ker_red (wide_rect hz h16 hd hl hr hm) d).1 hK
 have heq : ∀ j, j < d → dot (crw d (gN z j)) x d = gB (gR m j) l := fun j hj => by
  have h3 := hK0 j (by simpa [wideM] using hj)
  rw [split _ (by rw [wide_row hj, List.length_append, crw_length, hr j (by omega)]), wide_row hj, List.take_left' (crw_length _ _)] at h3
  have e3 : gB (crw d (gN z j) ++ gR m j) (d + l) = gB (gR m j) l := by
   have := gB_append_right (a := crw d (gN z j)) (b := gR m j) (k := l)
   rwa [crw_length] at this
  rw [e3] at h3
  have := congrArg (fun t => t ^^^ gB (gR m j) l) h3
  simpa [xor_assoc, xor_cancel] using this
 exact rec_only hz h16 hd hl hr hm x hlL heq hi

end

end Go.Proofs.YtfcakjpljjnjnaaGreatDoor
/- Contract of the reference kinkeepref08.Reconstruct. -/
namespace Go.Proofs.YtfcakjpljjnjnaaGreatDoor
open Go.RowKit Gf

def wideK (d : Nat) (z : List Nat) (m : List (List UInt8)) (k : Nat) : List (List UInt8) := (List.range k).map fun i => crw d (gN z i) ++ gR m i
theorem wideK_succ (d : Nat) (z : List Nat) (m : List (List UInt8)) (k : Nat) : wideK d z m (k + 1) = wideK d z m k ++ [crw d (gN z k) ++ gR m k] := by simp [wideK, List.range_succ]
def recK (R : List (List UInt8)) (d k : Nat) : List (List UInt8) := (List.range k).map fun i => (gR R i).drop d
theorem recK_succ (R : List (List UInt8)) (d k : Nat) : recK R d (k + 1) = recK R d k ++ [(gR R k).drop d] := by simp [recK, List.range_succ]
theorem own_of_row {w : World} {base g d : Nat} {l : List UInt8} (h : Blk w g 5 (row l)) (hl : l.length = d) (hb : base ≤ g) (hd : d ≤ 140737488355328) : w.ownsRow base 5 1 (.slice (some ⟨g, 0, none⟩) d d) d (l.map B) :=
 ⟨by simp [hl], .inr ⟨g, d, row l, rfl, hb, h, Nat.le_refl _, by simp [maxLen]; omega, by rw [row_size, hl]; simp, by rw [List.take_of_length_le (by simp [row, hl])]; simp [row]⟩⟩

def RecRet (R : List (List UInt8)) (d : Nat) (w : World) (e : Ending) (w' : World) : Prop := ∃ A c, e = .returned (.slice A d c) ∧ MS w' A d c R ∧ Below w.heap.size w w'

set_option maxRecDepth 100000 in
set_option maxHeartbeats 2000000 in
theorem rrec_any (d : Nat) (A A' : Option Addr) (n c n' c' : Nat) (z : List Nat) (m : List (List UInt8)) (L : Nat) (w : World) (h : IS w A n c (ints z)) (h' : MS w A' n' c' m) (hr : Rect m L) (hL : 0 < L) (hL6 : L ≤ 65536) (hd : 1 ≤ d) (hd8 : d ≤ 8) (hdn : d ≤ n) (hdn' : d ≤ n') (hz : ∀ i, i < n → gN z i < 16) :
  Calls Tryz.prog 51 #[.int .i64 (d : Int), .slice A n c, .slice A' n' c'] w (RecRet (refRec d z m L) d w) := by
 have HLm := Lib.hid h'.1
 have HI := Lib.hid h
 have HM := Lib.hid h'
 have HRC := Lib.hid hr
 have HL6 := Lib.hid hL6
 have HZ := Lib.hid hz
 have hd8' : (d : Int) ≤ 8 := by omega
 clear h h' hr hL6 hz
 go_enter Tryz.func51, Tryz.ntmps51
 go_wp2_with fail
 have HO : Hid (OwnM (w.alloc (.cells #[] 39)) w.heap.size (.slice (some ⟨w.heap.size, 0, none⟩) 0 0) 0 (wideK d z m 0)) := Lib.hid ⟨rfl, [], World.ownsRow_lit w #[] 0 (Nat.le_refl _) (by simp [maxLen]) rfl, fun j hj => absurd hj (by omega)⟩
 go_loopw [7, 8] (fun v x wr => ∃ k : Nat, k ≤ d ∧ x = .int .i64 (k : Int) ∧ Hid (OwnM wr w.heap.size v k (wideK d z m k)) ∧ Hid (Below w.heap.size w wr)) (fun _ x _ => d - (intOf x).toNat)
 case atStart => exact ⟨0, by omega, rfl, HO, Lib.hid ((Below.refl _ _).alloc (Nat.le_refl _) _)⟩
 case round =>
  obtain ⟨k, hk, rfl, ho, hb⟩ := hrel
  by_cases hlt : k < d
  ·
   have hkn : k < n := by omega
   have hkn' : k < n' := by omega
   obtain ⟨g1, o1, rfl, hc1⟩ := HI.out.nat hb.out hkn
   obtain ⟨g2, o2, A2, n2, c2, rfl, hc2, hr2⟩ := HM.out.at_ hb.out hkn'
   obtain rfl : n2 = L := by rw [← hr2.1]; exact HRC.out k (by rw [HLm.out]; exact hkn')
   have hz16 := HZ.out k hkn
   have HR2 := Lib.hid hr2
   obtain ⟨r, hrz⟩ : ∃ r, r = gN z k := ⟨_, rfl⟩
   rw [← hrz] at hc1 hz16
   have HRZ := Lib.hid hrz
   clear hr2 hrz
   go_wp2_with fail
   refine Text.wp_region_text (fun w' => w'.cell? ⟨g2, o2 + k, none⟩ = some (.slice A2 n2 c2)) [(0, 4), (1, 4), (2, 4), (3, 4), (4, 4), (7, 4), (8, 4), (9, 4), (10, 0), (5, 1), (6, 2), (11, 2), (12, 2), (13, 2), (14, 4)] (by kernel_rfl) (by kernel_rfl) (fun _ _ _ _ _ h => h) (hc2) ?_
   iterate 8 (refine Text.purek rfl rfl (fun K hK => ⟨_, fun w' => by go_simp <;> rfl, ?_⟩); go_simp; refine hK _ ?_; clear hK K)
   (refine Text.heldk rfl rfl (fun K hK => ⟨_, fun w' hw' => by go_simp <;> rfl, ?_⟩); go_simp; refine hK _ ?_; clear hK K)
   (refine Text.readk rfl rfl (fun K hK => ⟨_, by go_simp <;> rfl, ?_⟩); go_simp; refine hK _ ?_; clear hK K)
   refine Text.eff rfl rfl (fun K hK => ?_)
   go_simp
   refine (rrow_any d r wr.drew hd8 hz16).mono ?_
   rintro e w1 ⟨rfl, hk1, hb1⟩
   have hb1' : Below wr.heap.size wr w1 := below_ofDrew hb1
   have HK1 : Hid (Blk w1 wr.heap.size 5 (row (crw d r))) := Lib.hid hk1
   have HB1 := Lib.hid hb1'
   refine hK _ _ (cell_kept hb1' hc2) ?_
   clear hK K hk1 hb1 hb1'
   refine Text.eff rfl rfl (fun K hK => ?_)
   refine wp_appB w1 (.tmp 25) (.tmp 29) rfl wr.heap.size (.slice (some ⟨wr.heap.size, 0, none⟩) d d) d (crw d r) rfl (own_of_row HK1.out (crw_length _ _) (Nat.le_refl _) (by omega)) A2 n2 c2 (gR m k) rfl (HR2.out.kept HB1.out) (by have := HL6.out; omega) HB1.out.size ?_
   intro v2 w2 hp2
   have hb2 : Below wr.heap.size wr w2 := HB1.out.grown hp2.2.1 HB1.out.size (fun b hb' => by simp [Value.ownBlock] at hb'; omega)
   obtain ⟨A3, c3, rfl, hbs⟩ := BS.of_own hp2.1 (by have := HL6.out; unfold lim; omega)
   have HBS := Lib.hid hbs
   have HOWN2 := Lib.hid hp2.1
   have HB2 := Lib.hid hb2
   go_simp
   refine hK _ _ (cell_kept hb2 hc2) ?_
   clear hK K hp2 hb2 hbs HK1 HB1
   refine Text.eff rfl rfl (fun K hK => ?_)
   go_simp
   obtain ⟨wA, hwA⟩ : ∃ wA, wA = w2.alloc (.cells #[.slice A3 (d + n2) c3] 39) := ⟨_, rfl⟩
   have hbA : Below wr.heap.size wr wA := by rw [hwA]; exact HB2.out.alloc HB2.out.size _
   have hbA2 : Below w2.heap.size w2 wA := by rw [hwA]; exact (Below.refl _ _).alloc (Nat.le_refl _) _
   have HKA : Hid (Blk wA w2.heap.size 39 #[.slice A3 (d + n2) c3]) := Lib.hid (by rw [hwA]; exact Blk.new _ _ _)
   rw [← hwA]
   refine hK _ _ (cell_kept hbA hc2) ?_
   clear hK K hwA
   obtain ⟨hm, ps, hown, hps⟩ := ho.out
   have HOW := Lib.hid (Kp.own (S := fun _ => False) (Kp.of_below hbA) hown (fun _ _ => id))
   have HSA : Hid (w.heap.size ≤ wA.heap.size) := Lib.hid (Nat.le_trans hb.out.size hbA.size)
   have HBA := Lib.hid hbA
   have HBA2 := Lib.hid hbA2
   have HM' := Lib.hid hm
   have HPS := Lib.hid hps
   have HOWN := Lib.hid hown
   clear hm hps hown hbA hbA2
   refine Text.eff rfl rfl (fun K hK => ?_)
   refine wp_app1 wA (.tmp 19) (.tmp 31) 45 39 (.slice none 0 0) 24 Tryz.underlying45 infoBytes rfl rfl w.heap.size u7 k ps rfl HOW.out w2.heap.size 1 39 (.slice A3 (d + n2) c3) rfl HKA.out rfl (by omega) (by omega) HSA.out ?_
   intro v4 w4 hp4
   have HR : Hid (OwnM w4 w.heap.size v4 (k + 1) (wideK d z m (k + 1)) ∧ Below w.heap.size w w4) := by
    have hpl : ps.length = k := by have := HOWN.out.1; simpa using this
    have h5 := OwnM.push HSA.out HM'.out (fun j hj => by
     obtain ⟨A', k', c', p1, p2, p3, p4⟩ := HPS.out j hj
     exact ⟨A', k', c', p1, p2.kept HBA.out, p3, p4⟩) hpl (HBS.out.kept HBA2.out) (by omega) (fun g' o' e e' => by
      have h6 := HOWN.out.lt g' e'
      have h7 := own_base HOWN2.out g' (by rw [e]; rfl)
      omega) hp4
    rw [HRZ.out, ← wideK_succ] at h5
    exact Lib.hid ⟨h5, (below_thenB hb.out hb.out.size HBA.out).grown hp4.2.1 HSA.out (fun b hb' => own_base HOWN.out b hb')⟩
   have HC2 := Lib.hid (Kp.cell (S := fun b => u7.ownBlock = some b) ((Kp.refl _ _).grown hp4.2.1 (fun _ e => .inl e)) (cell_kept HBA.out hc2) (fun e' => by
    have h6 := HOWN.out.lt g2 e'
    have h7 := cell_lt (hc2)
    have h8 := hb.out.size
    obtain ⟨_, _, _, _, _, e9, h9, _⟩ := HM.out.at_ (Below.refl _ _) hkn'
    injection e9 with e9
    injection e9 with e91 e92
    have h10 := cell_lt h9
    simp only at h10
    rw [← e91] at h10
    omega))
   go_simp
   refine hK _ _ HC2.out ?_
   clear hK K hp4 HC2
   (refine Text.purek rfl rfl (fun K hK => ⟨_, fun w' => by go_simp <;> rfl, ?_⟩); go_simp; refine hK _ ?_; clear hK K)
   refine Text.done ?_
   go_wp2_with fail
   go_roundw
   case rel => exact ⟨k + 1, by omega, by go_num, Lib.hid HR.out.1, Lib.hid HR.out.2⟩
   case measure => simp [intOf]; omega
  ·
   obtain rfl : k = d := by omega
   obtain ⟨A7, c7, rfl, hm7⟩ := ho.out.ms (by unfold lim; omega)
   have HM7 := Lib.hid hm7
   obtain ⟨W, hW⟩ : ∃ W, W = k + L := ⟨_, rfl⟩
   have HRW : Hid (Rect (wideK k z m k) W) := Lib.hid (fun i hi => by
    have hi' : i < k := by simpa [wideK] using hi
    rw [show gR (wideK k z m k) i = crw k (gN z i) ++ gR m i from wide_row (d := k) hi', List.length_append, crw_length, HRC.out i (by rw [HLm.out]; omega), hW])
   have hkW : k < W := by omega
   have hWL : W - k = L := by omega
   have HWd := Lib.hid hW
   have HWl := Lib.hid hWL
   clear hm7 ho HO hW hWL
   go_wp2_with fail
   refine (reduce_any' A7 k c7 (wideK k z m k) W wr HM7.out HRW.out (by omega) (by omega) (by omega)).mono ?_
   rintro e w3 ⟨gO, cap, v2, rfl, ⟨G, ht⟩, hb3⟩
   obtain ⟨R, hR⟩ : ∃ R, R = (red (wideK k z m k) W).1 := ⟨_, rfl⟩
   rw [← hR] at ht
   have HT := Lib.hid ht
   have HB3 := Lib.hid (below_then hb.out hb3)
   have HRE : Hid (recK R k k = refRec k z m L) := Lib.hid (by rw [hR, HWd.out]; rfl)
   clear ht hb3 hR
   go_wp2_with fail
   have HO2 : Hid (OwnM (w3.alloc (.cells #[] 39)) w3.heap.size (.slice (some ⟨w3.heap.size, 0, none⟩) 0 0) 0 (recK R k 0)) := Lib.hid ⟨rfl, [], World.ownsRow_lit w3 #[] 0 (Nat.le_refl _) (by simp [maxLen]) rfl, fun j hj => absurd hj (by omega)⟩
   go_loopw [11, 12] (fun v x wr => ∃ q : Nat, q ≤ k ∧ x = .int .i64 (q : Int) ∧ Hid (OwnM wr w3.heap.size v q (recK R k q)) ∧ Hid (Below w3.heap.size w3 wr)) (fun _ x _ => k - (intOf x).toNat)
   case atStart => exact ⟨0, by omega, rfl, HO2, Lib.hid ((Below.refl _ _).alloc (Nat.le_refl _) _)⟩
   case round =>
    obtain ⟨q, hq, rfl, ho, hb⟩ := hrel
    by_cases hqk : q < k
    ·
     have htq := HT.out.kept hb.out
     have y1 := htq.cell hqk
     obtain ⟨hm, ps, hown, hps⟩ := ho.out
     obtain ⟨wA, hwA⟩ : ∃ wA, wA = wr.alloc (.cells #[.slice (some ⟨G q, k, none⟩) (W - k) (W - k)] 39) := ⟨_, rfl⟩
     have hbA : Below wr.heap.size wr wA := by rw [hwA]; exact (Below.refl _ _).alloc (Nat.le_refl _) _
     have HKA : Hid (Blk wA wr.heap.size 39 #[.slice (some ⟨G q, k, none⟩) (W - k) (W - k)]) := Lib.hid (by rw [hwA]; exact Blk.new _ _ _)
     have HOW := Lib.hid (Kp.own (S := fun _ => False) (Kp.of_below hbA) hown (fun _ _ => id))
     have HSA : Hid (w3.heap.size ≤ wA.heap.size) := Lib.hid (Nat.le_trans hb.out.size hbA.size)
     have HBS : Hid (BS wA (some ⟨G q, k, none⟩) (W - k) (W - k) ((gR R q).drop k)) := Lib.hid (by
      have h1 := BS.of_blk (htq.rows q hqk) (htq.rect q (by rw [htq.len]; exact hqk)) (by have := HL6.out; have := HWd.out; unfold lim; omega)
      have h2 := BS.drop (h1.kept hbA) (k := k) (by omega)
      rwa [Nat.zero_add] at h2)
     have HBK : Hid (Blk wA (G q) 5 (row (gR R q))) := Lib.hid ((htq.rows q hqk).kept hbA)
     have HBA := Lib.hid hbA
     have HM' := Lib.hid hm
     have HPS := Lib.hid hps
     have HOWN := Lib.hid hown
     have HWA := Lib.hid hwA
     clear htq hm hps hown hbA hwA HO2
     go_wp2_with (first
      | (at_builtin; rw [← HWA.out]; refine wpList_app1 wA rfl (.tmp 44) (.tmp 51) 45 39 (.slice none 0 0) 24 Tryz.underlying45 infoBytes rfl rfl w3.heap.size u11 q ps rfl HOW.out wr.heap.size 1 39 (.slice (some ⟨G q, k, none⟩) (W - k) (W - k)) rfl HKA.out rfl (by omega) (by omega) HSA.out ?_; intro v4 w4 hp4))
     have HR : Hid (OwnM w4 w3.heap.size v4 (q + 1) (recK R k (q + 1)) ∧ Below w3.heap.size w3 w4) := by
      have hpl : ps.length = q := by have := HOWN.out.1; simpa using this
      have h5 := OwnM.push HSA.out HM'.out (fun j hj => by
       obtain ⟨A', k', c', p1, p2, p3, p4⟩ := HPS.out j hj
       exact ⟨A', k', c', p1, p2.kept HBA.out, p3, p4⟩) hpl HBS.out (by omega) (fun g' o' e e' => by
        injection e with e
        injection e with e
        rw [← e] at e'
        exact own_ne (e := 39) HOW.out HBK.out (by decide) e') hp4
      rw [← recK_succ] at h5
      exact Lib.hid ⟨h5, (below_thenB hb.out hb.out.size HBA.out).grown hp4.2.1 HSA.out (fun b hb' => own_base HOWN.out b hb')⟩
     clear hp4
     go_roundw
     case rel => exact ⟨q + 1, by omega, by go_num, Lib.hid HR.out.1, Lib.hid HR.out.2⟩
     case measure => simp [intOf]; omega
    ·
     obtain rfl : q = k := by omega
     obtain ⟨A8, c8, rfl, hm8⟩ := ho.out.ms (by unfold lim; omega)
     rw [HRE.out] at hm8
     have HM8 := Lib.hid hm8
     have HB8 := Lib.hid (below_then HB3.out hb.out)
     clear hm8 ho HO2
     go_wp2_with fail
     go_ret
     exact ⟨A8, c8, rfl, HM8.out, HB8.out⟩
end Go.Proofs.YtfcakjpljjnjnaaGreatDoor
