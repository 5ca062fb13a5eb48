/- Locate, plain: at most one code word is near enough, and program and reference find the same wrong pieces. -/
import Derived.Test.YtoeeklkebcgmaaaChkm
import Derived.Test.YtoeeklkebcgmaaaA3
namespace Go.Proofs.Ytoeeklkebcgmaaa
open Go.RowKit Gf

def cnt (p : Nat → Bool) (n : Nat) : Nat := (List.range n).countP p
theorem cnt_succ (p : Nat → Bool) (n : Nat) : cnt p (n + 1) = cnt p n + if p n = true then 1 else 0 := by
  simp [cnt, List.range_succ, List.countP_append, List.countP_cons]
theorem cnt_not (p : Nat → Bool) : ∀ n, cnt p n + cnt (fun k => !p k) n = n
  | 0 => rfl
  | n + 1 => by
    have := cnt_not p n
    rw [cnt_succ, cnt_succ]
    cases p n <;> simp <;> omega
theorem cnt_congr {p q : Nat → Bool} : ∀ {n : Nat}, (∀ k, k < n → p k = q k) → cnt p n = cnt q n
  | 0, _ => rfl
  | n + 1, h => by
    rw [cnt_succ, cnt_succ, cnt_congr (fun k hk => h k (by omega)), h n (by omega)]
theorem cnt_mono {p q : Nat → Bool} : ∀ {n : Nat}, (∀ k, k < n → p k = true → q k = true) → cnt p n ≤ cnt q n
  | 0, _ => Nat.le_refl _
  | n + 1, h => by
    have ih := cnt_mono (p := p) (q := q) (n := n) (fun k hk => h k (by omega))
    have h1 := h n (by omega)
    rw [cnt_succ, cnt_succ]
    cases hp : p n with
    | false => simp; omega
    | true => rw [h1 hp]; simp; omega
theorem cnt_or (p q : Nat → Bool) : ∀ n, cnt (fun k => p k || q k) n ≤ cnt p n + cnt q n
  | 0 => Nat.le_refl _
  | n + 1 => by
    have ih := cnt_or p q n
    rw [cnt_succ, cnt_succ, cnt_succ]
    cases p n <;> cases q n <;> simp <;> omega
theorem cnt_sub (p : Nat → Bool) : ∀ n c, c ≤ cnt p n → ∃ q : Nat → Bool, (∀ k, q k = true → p k = true ∧ k < n) ∧ cnt q n = c
  | 0, c, h => ⟨fun _ => false, fun k hk => (by cases hk), by have : cnt p 0 = 0 := rfl; have : cnt (fun _ => false) 0 = 0 := rfl; omega⟩
  | n + 1, c, h => by
    by_cases hc : c ≤ cnt p n
    · obtain ⟨q, h1, h2⟩ := cnt_sub p n c hc
      refine ⟨q, fun k hk => ⟨(h1 k hk).1, by have := (h1 k hk).2; omega⟩, ?_⟩
      rw [cnt_succ, h2, if_neg (fun hk => by have := (h1 n hk).2; omega)]; omega
    · refine ⟨fun k => p k && decide (k < n + 1), fun k hk => by simpa using hk, ?_⟩
      rw [cnt_congr (q := p) (fun k hk => by simp; omega)]
      rw [cnt_succ] at h ⊢
      split at h <;> (try rw [if_pos ‹_›]) <;> (try rw [if_neg ‹_›]) <;> omega
theorem bits_of (p : Nat → Bool) : ∀ n, ∃ s, s < 2 ^ n ∧ ∀ k, k < n → s.testBit k = p k
  | 0 => ⟨0, by simp, fun k hk => absurd hk (by omega)⟩
  | n + 1 => by
    obtain ⟨s, h1, h2⟩ := bits_of p n
    cases hp : p n with
    | false =>
      refine ⟨s, by rw [Nat.pow_succ]; omega, fun k hk => ?_⟩
      by_cases hkn : k < n
      · exact h2 k hkn
      · obtain rfl : k = n := by omega
        rw [hp, Nat.testBit_lt_two_pow h1]
    | true =>
      refine ⟨2 ^ n + s, by rw [Nat.pow_succ]; omega, fun k hk => ?_⟩
      by_cases hkn : k < n
      · rw [Nat.testBit_two_pow_add_gt hkn]; exact h2 k hkn
      · obtain rfl : k = n := by omega
        rw [hp, Nat.testBit_two_pow_add_eq, Nat.testBit_lt_two_pow h1]; rfl

/-- The places chosen, ascending. -/
def pos (p : Nat → Bool) (n : Nat) : List Nat := (List.range n).filter p
theorem pos_length (p : Nat → Bool) (n : Nat) : (pos p n).length = cnt p n := by rw [pos, cnt, List.countP_eq_length_filter]
theorem pos_succ (p : Nat → Bool) (n : Nat) : pos p (n + 1) = if p n = true then pos p n ++ [n] else pos p n := by
  rw [pos, List.range_succ, List.filter_append]
  cases h : p n <;> simp [h, pos]
theorem pos_mem {p : Nat → Bool} {n k : Nat} : k ∈ pos p n ↔ k < n ∧ p k = true := by simp [pos]
theorem pos_congr {p q : Nat → Bool} {n : Nat} (h : ∀ k, k < n → p k = q k) : pos p n = pos q n := List.filter_congr (fun k hk => h k (List.mem_range.1 hk))
def slN (z : List Nat) (p : Nat → Bool) (n : Nat) : List Nat := (pos p n).map (gN z)
def slM (m : List (List UInt8)) (p : Nat → Bool) (n : Nat) : List (List UInt8) := (pos p n).map (gR m)
theorem selN_eq (z : List Nat) (s : Nat) (b : Bool) : ∀ n, selN z s b n = slN z (fun k => s.testBit k == b) n
  | 0 => rfl
  | n + 1 => by
    rw [selN, slN, pos_succ, selN_eq z s b n]
    by_cases h : s.testBit n = b
    · rw [if_pos h, if_pos (by simp [h])]; simp [slN]
    · rw [if_neg h, if_neg (by simpa using h)]; rfl
theorem selM_eq (m : List (List UInt8)) (s : Nat) (b : Bool) : ∀ n, selM m s b n = slM m (fun k => s.testBit k == b) n
  | 0 => rfl
  | n + 1 => by
    rw [selM, slM, pos_succ, selM_eq m s b n]
    by_cases h : s.testBit n = b
    · rw [if_pos h, if_pos (by simp [h])]; simp [slM]
    · rw [if_neg h, if_neg (by simpa using h)]; rfl
theorem slN_length (z : List Nat) (p : Nat → Bool) (n : Nat) : (slN z p n).length = cnt p n := by rw [slN, List.length_map, pos_length]
theorem slM_length (m : List (List UInt8)) (p : Nat → Bool) (n : Nat) : (slM m p n).length = cnt p n := by rw [slM, List.length_map, pos_length]
theorem sl_at (z : List Nat) (m : List (List UInt8)) (p : Nat → Bool) (n j : Nat) (hj : j < cnt p n) : ∃ k, k < n ∧ p k = true ∧ k ∈ pos p n ∧ gN (slN z p n) j = gN z k ∧ gR (slM m p n) j = gR m k := by
  have hj' : j < (pos p n).length := by rw [pos_length]; exact hj
  have hm := List.getElem_mem hj'
  obtain ⟨h1, h2⟩ := pos_mem.1 hm
  refine ⟨(pos p n)[j], h1, h2, hm, ?_, ?_⟩
  · rw [gN_eq (by rw [slN_length]; exact hj)]; simp [slN]
  · rw [gR_eq (by rw [slM_length]; exact hj)]; simp [slM]
theorem sl_of (z : List Nat) (m : List (List UInt8)) {p : Nat → Bool} {n k : Nat} (hk : k < n) (hp : p k = true) : ∃ j, j < cnt p n ∧ gN (slN z p n) j = gN z k ∧ gR (slM m p n) j = gR m k := by
  obtain ⟨j, hj, e⟩ := List.getElem_of_mem (pos_mem.2 ⟨hk, hp⟩)
  refine ⟨j, by rwa [pos_length] at hj, ?_, ?_⟩
  · rw [gN_eq (by rw [slN_length, ← pos_length]; exact hj)]; simp [slN, e]
  · rw [gR_eq (by rw [slM_length, ← pos_length]; exact hj)]; simp [slM, e]
theorem range_gN {z : List Nat} : (List.range z.length).map (gN z) = z := by
  apply List.ext_getElem (by simp)
  intro i h1 h2
  simp [gN_eq h2]

section
variable {d t n : Nat} {z : List Nat} {m : List (List UInt8)} {L : Nat} (g : GvOk d t n z m L)
include g
theorem GvOk.cnt_le (p : Nat → Bool) : cnt p n ≤ n := by have := cnt_not p n; have := g.d1; omega
theorem GvOk.sl (p : Nat → Bool) (hp : d ≤ cnt p n) : GvOk d t (cnt p n) (slN z p n) (slM m p n) L :=
  ⟨g.d1, g.d8, g.dt, g.t16, hp, slN_length _ _ _, slM_length _ _ _, Nat.le_trans (g.cnt_le p) g.nt, fun i hi => by
    obtain ⟨k, hk, _, _, _, e⟩ := sl_at z m p n i (by rwa [slM_length] at hi)
    rw [e]; exact g.rect k (by rw [g.ml]; exact hk), g.L0, g.L6, by
    have h1 : (slN z p n).Sublist z := by
      have h2 : (slN z p n).Sublist ((List.range n).map (gN z)) := List.Sublist.map _ List.filter_sublist
      have h3 : (List.range n).map (gN z) = z := by have := range_gN (z := z); rwa [g.zl] at this
      rwa [h3] at h2
    exact g.nodup.sublist h1, fun i hi => by
    obtain ⟨k, hk, _, _, e, _⟩ := sl_at z m p n i hi
    rw [e]; exact g.lt k hk⟩
theorem GvOk.only {X : List (List UInt8)} (hX : X.length = d) (hr : Rect X L) (h : ∀ k, k < d → gR m k = pcR (crw d (gN z k)) X L) : X = recM d z m L := by
  apply List.ext_getElem (by rw [recM_length, hX])
  intro c h1 h2
  rw [← gR_eq h1, ← gR_eq h2]
  have hc : c < d := by omega
  refine row_ext (hr c h1) (recM_rect g.rect g.dz g.dm c h2) (fun l hlL => ?_)
  refine rec_only g.take_nodup g.take_lt g.d8 g.dz g.rect g.dm (fun c => gB (gR X c) l) hlL (fun i hi => ?_) hc
  rw [h i hi, pcR_get hlL, hX]
end

/-- Piece k is not that of the blocks X. -/
def bdB (d : Nat) (z : List Nat) (m X : List (List UInt8)) (L k : Nat) : Bool := !decide (gR m k = pcR (crw d (gN z k)) X L)
theorem bdB_false {d : Nat} {z : List Nat} {m X : List (List UInt8)} {L k : Nat} : bdB d z m X L k = false ↔ gR m k = pcR (crw d (gN z k)) X L := by simp [bdB]
theorem bdB_true {d : Nat} {z : List Nat} {m X : List (List UInt8)} {L k : Nat} : bdB d z m X L k = true ↔ ¬ gR m k = pcR (crw d (gN z k)) X L := by simp [bdB]
/-- X explains all but few. -/
structure NearB (d n : Nat) (z : List Nat) (m : List (List UInt8)) (L : Nat) (X : List (List UInt8)) : Prop where
  len : X.length = d
  rect : Rect X L
  few : cnt (bdB d z m X L) n ≤ (n - d) / 2

section
variable {d t n : Nat} {z : List Nat} {m : List (List UInt8)} {L : Nat} (g : GvOk d t n z m L)
include g
/-- Blocks that give chosen pieces, d of them or more, are those that the choice gives. -/
theorem GvOk.sl_only {X : List (List UInt8)} (hX : X.length = d) (hr : Rect X L) (p : Nat → Bool) (hp : d ≤ cnt p n) (h : ∀ k, k < n → p k = true → gR m k = pcR (crw d (gN z k)) X L) : X = recM d (slN z p n) (slM m p n) L :=
  (g.sl p hp).only hX hr (fun j hj => by
    obtain ⟨k, hk, hpk, _, e1, e2⟩ := sl_at z m p n j (by omega)
    rw [e1, e2]; exact h k hk hpk)
theorem GvOk.near_one {X Y : List (List UInt8)} (hX : NearB d n z m L X) (hY : NearB d n z m L Y) : X = Y := by
  have h1 := cnt_or (bdB d z m X L) (bdB d z m Y L) n
  have h2 := cnt_not (fun k => bdB d z m X L k || bdB d z m Y L k) n
  have h3 := hX.few
  have h4 := hY.few
  have h5 := g.dn
  have hd : d ≤ cnt (fun k => !(bdB d z m X L k || bdB d z m Y L k)) n := by omega
  rw [g.sl_only hX.len hX.rect _ hd (fun k _ hp => by
    have hp' : bdB d z m X L k = false := by simp at hp; exact hp.1
    exact bdB_false.1 hp')]
  exact (g.sl_only hY.len hY.rect _ hd (fun k _ hp => by
    have hp' : bdB d z m Y L k = false := by simp at hp; exact hp.2
    exact bdB_false.1 hp')).symm
theorem GvOk.sl_rec (p : Nat → Bool) (hp : d ≤ cnt p n) : (recM d (slN z p n) (slM m p n) L).length = d ∧ Rect (recM d (slN z p n) (slM m p n) L) L := by
  have g' := g.sl p hp
  exact ⟨recM_length _ _ _ _, recM_rect g'.rect g'.dz g'.dm⟩
end

/-! The lists of wrong pieces. -/
theorem wrP_cases {d : Nat} {z : List Nat} {m X : List (List UInt8)} {L i x n : Nat} (h : x ∈ wrP d z m X L i n) : x = i := by
  unfold wrP at h
  rw [List.mem_map] at h
  obtain ⟨_, _, rfl⟩ := h
  rfl
theorem wrA_step (d : Nat) (z : List Nat) (m X : List (List UInt8)) (L n : Nat) : ∀ t, (wrA d z m X L (n + 1) t).length = (wrA d z m X L n t).length + if gN z n < t ∧ bdB d z m X L n = true then 1 else 0
  | 0 => by simp [wrA]
  | t + 1 => by
    have ih := wrA_step d z m X L n t
    rw [wrA_succ, wrA_succ, wrP_succ, List.length_append, List.length_append, ih]
    by_cases h1 : gN z n = t
    · subst h1
      by_cases h2 : bdB d z m X L n = true
      · have h3 : wrB d z m X L (gN z n) n = true := by
          unfold wrB; unfold bdB at h2; simpa using h2
        rw [if_pos h3, if_neg (by omega), if_pos ⟨by omega, h2⟩]; simp; omega
      · have h3 : ¬ wrB d z m X L (gN z n) n = true := by
          unfold wrB; unfold bdB at h2; simpa using h2
        rw [if_neg h3, if_neg (fun h => h2 h.2), if_neg (fun h => h2 h.2)]; omega
    · have h3 : ¬ wrB d z m X L t n = true := by unfold wrB; simp [h1]
      rw [if_neg h3]
      by_cases h4 : gN z n < t ∧ bdB d z m X L n = true
      · rw [if_pos h4, if_pos ⟨by omega, h4.2⟩]; omega
      · rw [if_neg h4, if_neg (fun h => h4 ⟨by omega, h.2⟩)]; omega
theorem wrA_length {d : Nat} {z : List Nat} {m X : List (List UInt8)} {L t : Nat} : ∀ {n : Nat}, (∀ i, i < n → gN z i < t) → (wrA d z m X L n t).length = cnt (bdB d z m X L) n
  | 0, _ => by
    have : ∀ t, wrA d z m X L 0 t = [] := fun t => by
      induction t with
      | zero => rfl
      | succ t ih => rw [wrA_succ, ih]; rfl
    rw [this]; rfl
  | n + 1, h => by
    rw [wrA_step, wrA_length (fun i hi => h i (by omega)), cnt_succ]
    have := h n (by omega)
    by_cases h2 : bdB d z m X L n = true
    · rw [if_pos ⟨this, h2⟩, if_pos h2]
    · rw [if_neg (fun h => h2 h.2), if_neg h2]
theorem wrA_mem {d : Nat} {z : List Nat} {m X : List (List UInt8)} {L n t x : Nat} : x ∈ wrA d z m X L n t ↔ x < t ∧ ∃ k, k < n ∧ gN z k = x ∧ bdB d z m X L k = true := by
  unfold wrA
  rw [List.mem_flatMap]
  constructor
  · rintro ⟨i, hi, hx⟩
    obtain rfl := wrP_cases hx
    unfold wrP at hx
    rw [List.mem_map] at hx
    obtain ⟨k, hk, _⟩ := hx
    obtain ⟨hk1, hk2⟩ := List.mem_filter.1 hk
    unfold wrB at hk2
    rw [Bool.and_eq_true] at hk2
    have e : gN z k = x := by simpa using hk2.1
    refine ⟨List.mem_range.1 hi, k, List.mem_range.1 hk1, e, ?_⟩
    unfold bdB; rw [e]; exact hk2.2
  · rintro ⟨hx, k, hk, e, hb⟩
    refine ⟨x, List.mem_range.2 hx, ?_⟩
    unfold wrP
    rw [List.mem_map]
    refine ⟨k, List.mem_filter.2 ⟨List.mem_range.2 hk, ?_⟩, rfl⟩
    unfold wrB; unfold bdB at hb; rw [e] at hb; rw [hb, decide_eq_true e]; rfl
/-- Two strictly ascending lists with the same members are one. -/
theorem asc_ext : ∀ {a b : List Int}, a.Pairwise (· < ·) → b.Pairwise (· < ·) → (∀ x, x ∈ a ↔ x ∈ b) → a = b
  | [], [], _, _, _ => rfl
  | [], y :: b, _, _, h => by have := (h y).2 (by simp); cases this
  | x :: a, [], _, _, h => by have := (h x).1 (by simp); cases this
  | x :: a, y :: b, ha, hb, h => by
    rw [List.pairwise_cons] at ha hb
    have e : x = y := by
      rcases List.mem_cons.1 ((h x).1 (by simp)) with e | e
      · exact e
      · rcases List.mem_cons.1 ((h y).2 (by simp)) with e' | e'
        · exact e'.symm
        · have := hb.1 x e; have := ha.1 y e'; omega
    subst e
    rw [asc_ext ha.2 hb.2 (fun v => by
      constructor
      · intro hv
        rcases List.mem_cons.1 ((h v).1 (List.mem_cons_of_mem _ hv)) with e | e
        · subst e; exact absurd (ha.1 v hv) (by omega)
        · exact e
      · intro hv
        rcases List.mem_cons.1 ((h v).2 (List.mem_cons_of_mem _ hv)) with e | e
        · subst e; exact absurd (hb.1 v hv) (by omega)
        · exact e)]
theorem isort_asc {z : List Int} (h : z.Nodup) : (isort z).Pairwise (· < ·) := by
  have h1 : (isort z).Pairwise (fun a b => decide (a ≤ b) = true) := List.pairwise_mergeSort (le := fun x y => decide (x ≤ y)) (fun a b c hab hbc => by simp at *; omega) (fun a b => by simp; omega) z
  have h2 : (isort z).Nodup := (List.mergeSort_perm z _).nodup_iff.2 h
  unfold List.Nodup at h2
  exact (h1.and h2).imp (fun hab => by have := hab.1; have := hab.2; simp at *; omega)
theorem isort_mem {z : List Int} {x : Int} : x ∈ isort z ↔ x ∈ z := (List.mergeSort_perm z _).mem_iff
theorem pairwise_app {a b : List Int} (ha : a.Pairwise (· < ·)) (hb : b.Pairwise (· < ·)) (h : ∀ x ∈ a, ∀ y ∈ b, x < y) : (a ++ b).Pairwise (· < ·) := List.pairwise_append.2 ⟨ha, hb, h⟩
theorem wrP_asc {d : Nat} {z : List Nat} {m X : List (List UInt8)} {L i : Nat} : ∀ {n : Nat}, z.Nodup → n ≤ z.length → (wrP d z m X L i n).length ≤ 1 ∧ (wrP d z m X L i n ≠ [] → ∃ k, k < n ∧ gN z k = i)
  | 0, _, _ => by simp [wrP]
  | n + 1, hz, hn => by
    obtain ⟨ih1, ih2⟩ := wrP_asc (d := d) (m := m) (X := X) (L := L) (i := i) (n := n) hz (by omega)
    rw [wrP_succ]
    by_cases h : wrB d z m X L i n = true
    · rw [if_pos h]
      have e : gN z n = i := by unfold wrB at h; rw [Bool.and_eq_true] at h; simpa using h.1
      refine ⟨?_, fun _ => ⟨n, by omega, e⟩⟩
      by_cases h0 : wrP d z m X L i n = []
      · rw [h0]; simp
      · obtain ⟨k, hk, e'⟩ := ih2 h0
        rw [← e, gN_eq (by omega), gN_eq (by omega)] at e'
        exact absurd e' (List.pairwise_iff_getElem.1 hz k n (by omega) (by omega) hk)
    · rw [if_neg h]; exact ⟨ih1, fun h0 => by obtain ⟨k, hk, e⟩ := ih2 h0; exact ⟨k, by omega, e⟩⟩
theorem ints_mem {l : List Nat} {x : Int} : x ∈ ints l ↔ ∃ k, k ∈ l ∧ x = (k : Int) := by
  unfold ints; rw [List.mem_map]
  constructor
  · rintro ⟨k, hk, e⟩; exact ⟨k, hk, e.symm⟩
  · rintro ⟨k, hk, e⟩; exact ⟨k, hk, e.symm⟩
theorem wrA_asc {d : Nat} {z : List Nat} {m X : List (List UInt8)} {L n : Nat} (hz : z.Nodup) (hn : n ≤ z.length) : ∀ t, (ints (wrA d z m X L n t)).Pairwise (· < ·)
  | 0 => by simp [wrA, ints]
  | t + 1 => by
    rw [wrA_succ]
    have e : ints (wrA d z m X L n t ++ wrP d z m X L t n) = ints (wrA d z m X L n t) ++ ints (wrP d z m X L t n) := by simp [ints]
    rw [e]
    refine pairwise_app (wrA_asc hz hn t) ?_ ?_
    · have h1 := (wrP_asc (d := d) (m := m) (X := X) (L := L) (i := t) hz hn).1
      have h2 : (ints (wrP d z m X L t n)).length ≤ 1 := by simpa [ints] using h1
      match hq : ints (wrP d z m X L t n), h2 with
      | [], _ => exact List.Pairwise.nil
      | [a], _ => simp
      | a :: b :: c, h2 => simp at h2
    · intro x hx y hy
      obtain ⟨k, hk, rfl⟩ := ints_mem.1 hx
      obtain ⟨k', hk', rfl⟩ := ints_mem.1 hy
      have h1 := (wrA_mem.1 hk).1
      have h2 := wrP_cases hk'
      omega
theorem difs_mem {m F : List (List UInt8)} {o : List Nat} {op : List (List UInt8)} {L x : Nat} : ∀ {j : Nat}, x ∈ difs m F o op L j ↔ ∃ i, i < j ∧ gN o i = x ∧ ¬ prd m (gR F i) L = gR op i
  | 0 => by simp [difs]
  | j + 1 => by
    have ih := difs_mem (m := m) (F := F) (o := o) (op := op) (L := L) (x := x) (j := j)
    rw [difs]
    by_cases h : prd m (gR F j) L = gR op j
    · rw [if_pos h, ih]
      constructor
      · rintro ⟨i, hi, e⟩; exact ⟨i, by omega, e⟩
      · rintro ⟨i, hi, e1, e2⟩
        refine ⟨i, ?_, e1, e2⟩
        rcases Nat.lt_succ_iff_lt_or_eq.1 hi with h1 | h1
        · exact h1
        · subst h1; exact absurd h e2
    · rw [if_neg h, List.mem_append, ih]
      constructor
      · rintro (⟨i, hi, e⟩ | hx)
        · exact ⟨i, by omega, e⟩
        · exact ⟨j, by omega, (List.mem_singleton.1 hx).symm, h⟩
      · rintro ⟨i, hi, e1, e2⟩
        rcases Nat.lt_succ_iff_lt_or_eq.1 hi with h1 | h1
        · exact .inl ⟨i, h1, e1, e2⟩
        · subst h1; exact .inr (by simp [e1])
theorem difs_sub (m F : List (List UInt8)) (o : List Nat) (op : List (List UInt8)) (L : Nat) : ∀ j, j ≤ o.length → (difs m F o op L j).Sublist (o.take j)
  | 0, _ => by simp [difs]
  | j + 1, h => by
    have ih := difs_sub m F o op L j (by omega)
    rw [difs]
    have e : o.take (j + 1) = o.take j ++ [gN o j] := by rw [List.take_succ_eq_append_getElem (by omega), gN_eq (by omega)]
    rw [e]
    split
    · exact ih.trans (List.sublist_append_left _ _)
    · exact ih.append (List.Sublist.refl _)

/-! Program and reference. -/
theorem popc_cnt {s n : Nat} (hn8 : n ≤ 8) (hs : s < 2 ^ n) : popc s = cnt (fun k => s.testBit k) n := (popc_range s n hn8 hs).symm
theorem gB_out {l : List UInt8} {k : Nat} (h : l.length ≤ k) : gB l k = 0 := by simp [gB, List.getD, List.getElem?_eq_none h]
theorem sumA_dot (m : List (List UInt8)) (f : List UInt8) (p : Nat) (s : UInt8) : ∀ k, sumA m f p s k = s ^^^ dot f (fun j => gB (gR m j) p) k
  | 0 => by simp [sumA, dot]
  | k + 1 => by rw [sumA, dot, sumA_dot m f p s k, UInt8.xor_assoc]
theorem dot_zero (f : List UInt8) (v : Nat → UInt8) : ∀ {n : Nat}, (∀ k, k < n → v k = 0) → dot f v n = 0
  | 0, _ => rfl
  | n + 1, h => by rw [dot, dot_zero f v (fun k hk => h k (by omega)), h n (by omega), mul_zero]; rfl
theorem fit_of {m F : List (List UInt8)} {d L i p : Nat} (hr : Rect m L) (hf : (gR F i).length = d) (hdi : d + i < m.length) (h : gR m (d + i) = prd m (gR F i) L) : fit1 m F d p i = true := by
  unfold fit1
  rw [sumA_dot]
  by_cases hp : p < L
  · rw [h, prd_row hr (by omega), hf, pcR_get hp, show (m.take d).length = d by rw [List.length_take]; omega]
    rw [dot_congr (r' := gR F i) (v' := fun j => gB (gR m j) p) (fun k hk => by rw [gR_take hk])]
    simp
  · rw [gB_out (by rw [hr _ hdi]; omega), dot_zero _ _ (fun k hk => gB_out (by rw [hr k (by omega)]; omega))]
    rfl
def locX (z : List Nat) (m : List (List UInt8)) (d L n s : Nat) : List (List UInt8) := recM d (locR z n s) (selM m s false n) L
def rfX (z : List Nat) (m : List (List UInt8)) (d L n s : Nat) : List (List UInt8) := recM d (selN z s true n) (selM m s true n) L
def rfH (z : List Nat) (m : List (List UInt8)) (d L n t s : Nat) : Bool := decide ((selN z s true n).length = d) && decide ((wrA d z m (rfX z m d L n s) L n t).length ≤ (n - d) / 2)
section
variable {d t n : Nat} {z : List Nat} {m : List (List UInt8)} {L : Nat} (g : GvOk d t n z m L)
include g
theorem GvOk.right {s : Nat} (hn8 : n ≤ 8) (hs : s < 2 ^ n) (hp : popc s = (n - d) / 2) : d ≤ cnt (fun k => s.testBit k == false) n ∧ cnt (fun k => s.testBit k == false) n + (n - d) / 2 = n := by
  have h1 := popc_cnt hn8 hs
  have h2 := cnt_not (fun k => s.testBit k) n
  have h3 : cnt (fun k => !s.testBit k) n = cnt (fun k => s.testBit k == false) n := cnt_congr (fun k _ => by cases s.testBit k <;> rfl)
  have := g.dn
  omega
theorem GvOk.locReg {s : Nat} (hn8 : n ≤ 8) (hs : s < 2 ^ n) (hp : popc s = (n - d) / 2) : Reg d (locR z n s) := by
  rw [locR, selN_eq]; exact (g.sl _ (g.right hn8 hs hp).1).reg
/-- A set that explains the pieces: the pieces outside it are those of its blocks. -/
theorem GvOk.loc_iff {s : Nat} (hn8 : n ≤ 8) (hs : s < 2 ^ n) (hp : popc s = (n - d) / 2) : locH z m d L n s = true ↔ ∀ k, k < n → s.testBit k = false → bdB d z m (locX z m d L n s) L k = false := by
  have hr := (g.right hn8 hs hp).1
  have g' := g.sl _ hr
  have hc := g'.cons
  have e1 : locR z n s = slN z (fun k => s.testBit k == false) n := selN_eq _ _ _ _
  have e2 : selM m s false n = slM m (fun k => s.testBit k == false) n := selM_eq _ _ _ _
  have e3 : locK z d n s = cnt (fun k => s.testBit k == false) n - d := by rw [locK, e1, slN_length]
  have hiff : cfl (selM m s false n) (locF z d n s) d L (locK z d n s) < 0 ↔ ∀ k, k < n → s.testBit k = false → bdB d z m (locX z m d L n s) L k = false := by
    rw [locF, e3, e2, e1, hc, locX, e1, e2]
    constructor
    · intro h k hk hb
      obtain ⟨j, hj, h1, h2⟩ := sl_of z m (p := fun k => s.testBit k == false) hk (by simp [hb])
      have := h j hj
      rw [h1, h2] at this
      exact bdB_false.2 this
    · intro h j hj
      obtain ⟨k, hk, hb, _, h1, h2⟩ := sl_at z m (fun k => s.testBit k == false) n j hj
      rw [h1, h2]
      exact bdB_false.1 (h k hk (by simpa using hb))
  rw [← hiff]
  unfold locH
  constructor
  · intro h
    rw [Bool.and_eq_true] at h
    simpa using h.2
  · intro h
    have hf : fitB (selM m s false n) (locF z d n s) d (locK z d n s) (locP z m d L n s) = true := by
      unfold fitB
      rw [List.all_eq_true]
      intro p _
      refine fitP_true (fun i hi => ?_)
      have h9 := (cfl_iff _).1 h i hi
      refine fit_of (selM_rect g.rect g.ml s false) ?_ ?_ h9
      · rw [locF, e1]
        refine facM_rect g'.dz i ?_
        rw [facM_length, List.length_drop, slN_length]
        omega
      · rw [e2, slM_length]; omega
    rw [hf, decide_eq_true hp, decide_eq_true h]; rfl
end
end Go.Proofs.Ytoeeklkebcgmaaa
