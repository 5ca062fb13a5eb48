/- Plain: what the reference's Wrong finds by trying all subsets is what the decoder finds. -/
import Derived.Test.YtakedococfklgaaLo1m
import Derived.Test.YtakedococfklgaaDe1m
namespace Go.Proofs.Ytakedococfklgaa
open Go.RowKit Gf

def cnt (p : Nat → Bool) (n : Nat) : Nat := (List.range n).countP p
theorem cnt_succ (p : Nat → Bool) (n : Nat) : cnt p (n + 1) = cnt p n + if p n = true then 1 else 0 := by
  simp [cnt, List.range_succ, List.countP_append, List.countP_cons]
theorem cnt_not (p : Nat → Bool) : ∀ n, cnt p n + cnt (fun k => !p k) n = n
  | 0 => rfl
  | n + 1 => by
    have := cnt_not p n
    rw [cnt_succ, cnt_succ]
    cases p n <;> simp <;> omega
theorem cnt_congr {p q : Nat → Bool} : ∀ {n : Nat}, (∀ k, k < n → p k = q k) → cnt p n = cnt q n
  | 0, _ => rfl
  | n + 1, h => by
    rw [cnt_succ, cnt_succ, cnt_congr (fun k hk => h k (by omega)), h n (by omega)]
theorem cnt_sub (p : Nat → Bool) : ∀ n c, c ≤ cnt p n → ∃ q : Nat → Bool, (∀ k, q k = true → p k = true ∧ k < n) ∧ cnt q n = c
  | 0, c, h => ⟨fun _ => false, fun k hk => (by cases hk), by have : cnt p 0 = 0 := rfl; have : cnt (fun _ => false) 0 = 0 := rfl; omega⟩
  | n + 1, c, h => by
    by_cases hc : c ≤ cnt p n
    · obtain ⟨q, h1, h2⟩ := cnt_sub p n c hc
      refine ⟨q, fun k hk => ⟨(h1 k hk).1, by have := (h1 k hk).2; omega⟩, ?_⟩
      rw [cnt_succ, h2, if_neg (fun hk => by have := (h1 n hk).2; omega)]; omega
    · refine ⟨fun k => p k && decide (k < n + 1), fun k hk => by simpa using hk, ?_⟩
      rw [cnt_congr (q := p) (fun k hk => by simp; omega)]
      rw [cnt_succ] at h ⊢
      split at h <;> (try rw [if_pos ‹_›]) <;> (try rw [if_neg ‹_›]) <;> omega
theorem bits_of (p : Nat → Bool) : ∀ n, ∃ s, s < 2 ^ n ∧ ∀ k, k < n → s.testBit k = p k
  | 0 => ⟨0, by simp, fun k hk => absurd hk (by omega)⟩
  | n + 1 => by
    obtain ⟨s, h1, h2⟩ := bits_of p n
    cases hp : p n with
    | false =>
      refine ⟨s, by rw [Nat.pow_succ]; omega, fun k hk => ?_⟩
      by_cases hkn : k < n
      · exact h2 k hkn
      · obtain rfl : k = n := by omega
        rw [hp, Nat.testBit_lt_two_pow h1]
    | true =>
      refine ⟨2 ^ n + s, by rw [Nat.pow_succ]; omega, fun k hk => ?_⟩
      by_cases hkn : k < n
      · rw [Nat.testBit_two_pow_add_gt hkn]; exact h2 k hkn
      · obtain rfl : k = n := by omega
        rw [hp, Nat.testBit_two_pow_add_eq, Nat.testBit_lt_two_pow h1]; rfl

/-- Two strictly ascending lists with the same members are one. -/
theorem asc_ext : ∀ {a b : List Int}, a.Pairwise (· < ·) → b.Pairwise (· < ·) → (∀ x, x ∈ a ↔ x ∈ b) → a = b
  | [], [], _, _, _ => rfl
  | [], y :: b, _, _, h => by have := (h y).2 (by simp); cases this
  | x :: a, [], _, _, h => by have := (h x).1 (by simp); cases this
  | x :: a, y :: b, ha, hb, h => by
    rw [List.pairwise_cons] at ha hb
    have e : x = y := by
      rcases List.mem_cons.1 ((h x).1 (by simp)) with e | e
      · exact e
      · rcases List.mem_cons.1 ((h y).2 (by simp)) with e' | e'
        · exact e'.symm
        · have := hb.1 x e; have := ha.1 y e'; omega
    subst e
    rw [asc_ext ha.2 hb.2 (fun v => by
      constructor
      · intro hv
        rcases List.mem_cons.1 ((h v).1 (List.mem_cons_of_mem _ hv)) with e | e
        · subst e; exact absurd (ha.1 v hv) (by omega)
        · exact e
      · intro hv
        rcases List.mem_cons.1 ((h v).2 (List.mem_cons_of_mem _ hv)) with e | e
        · subst e; exact absurd (hb.1 v hv) (by omega)
        · exact e)]
theorem isort_asc {z : List Int} (h : z.Nodup) : (isort z).Pairwise (· < ·) := by
  have h1 : (isort z).Pairwise (fun a b => decide (a ≤ b) = true) := List.pairwise_mergeSort (le := fun x y => decide (x ≤ y)) (fun a b c hab hbc => by simp at *; omega) (fun a b => by simp; omega) z
  have h2 : (isort z).Nodup := (List.mergeSort_perm z _).nodup_iff.2 h
  unfold List.Nodup at h2
  exact (h1.and h2).imp (fun hab => by have := hab.1; have := hab.2; simp at *; omega)
theorem isort_mem {z : List Int} {x : Int} : x ∈ isort z ↔ x ∈ z := (List.mergeSort_perm z _).mem_iff

/-! ### the X of shares that differ -/
/-- Whether the share k differs from the sharing. -/
def dfB (m : List (List UInt8)) (l : List (Int × List UInt8)) (N k : Nat) : Bool := decide (atK m (gX l k) N ≠ (gS l k).2)
theorem ofI_mem (m : List (List UInt8)) (l : List (Int × List UInt8)) (N x : Nat) (acc : List Int) (v : Int) : ∀ k, v ∈ ofI m l N x acc k ↔ v ∈ acc ∨ (v = (x : Int) ∧ ∃ j, j < k ∧ ofB m l N x j = true)
  | 0 => by simp [ofI]
  | k + 1 => by
    have ih := ofI_mem m l N x acc v k
    rw [ofI]
    cases hb : ofB m l N x k with
    | true =>
      rw [if_pos rfl, List.mem_append, ih, List.mem_singleton]
      constructor
      · rintro ((h | ⟨h, j, hj, e⟩) | h)
        · exact .inl h
        · exact .inr ⟨h, j, by omega, e⟩
        · exact .inr ⟨h, k, by omega, hb⟩
      · rintro (h | ⟨h, _⟩)
        · exact .inl (.inl h)
        · exact .inr h
    | false =>
      rw [if_neg (by simp), ih]
      constructor
      · rintro (h | ⟨h, j, hj, e⟩)
        · exact .inl h
        · exact .inr ⟨h, j, by omega, e⟩
      · rintro (h | ⟨h, j, hj, e⟩)
        · exact .inl h
        · refine .inr ⟨h, j, ?_, e⟩
          rcases Nat.lt_succ_iff_lt_or_eq.1 hj with h9 | h9
          · exact h9
          · subst h9; rw [hb] at e; cases e
section
variable {m : List (List UInt8)} {l : List (Int × List UInt8)} {N : Nat}
theorem ofI_none {x : Nat} {acc : List Int} : ∀ k, (∀ j, j < k → ofB m l N x j = false) → ofI m l N x acc k = acc
  | 0, _ => rfl
  | k + 1, h => by rw [ofI, if_neg (by rw [h k (by omega)]; simp), ofI_none k (fun j hj => h j (by omega))]
theorem ofI_asc (hd : ∀ i j, j < i → i < l.length → (gS l j).1 ≠ (gS l i).1) {x : Nat} {acc : List Int} (ha : acc.Pairwise (· < ·)) (hx : ∀ v ∈ acc, v < (x : Int)) : ∀ k, k ≤ l.length → (ofI m l N x acc k).Pairwise (· < ·)
  | 0, _ => ha
  | k + 1, hk => by
    rw [ofI]
    cases hb : ofB m l N x k with
    | false => rw [if_neg (by simp)]; exact ofI_asc hd ha hx k (by omega)
    | true =>
      rw [if_pos rfl]
      have hX : (gS l k).1 = (x : Int) := by unfold ofB at hb; rw [Bool.and_eq_true] at hb; exact of_decide_eq_true hb.1
      rw [ofI_none k (fun j hj => by
        unfold ofB
        rw [decide_eq_false (fun e => hd k j hj (by omega) (by rw [e, hX]))]; rfl)]
      refine List.pairwise_append.2 ⟨ha, List.pairwise_singleton _ _, fun a h1 b h2 => ?_⟩
      rw [List.mem_singleton] at h2
      rw [h2]; exact hx a h1
theorem ofO_mem (v : Int) : ∀ y, v ∈ ofO m l N y ↔ ∃ x, 1 ≤ x ∧ x ≤ y ∧ v = (x : Int) ∧ ∃ j, j < l.length ∧ ofB m l N x j = true
  | 0 => by simp [ofO]; omega
  | y + 1 => by
    rw [ofO, ofI_mem, ofO_mem v y]
    constructor
    · rintro (⟨x, h1, h2, h3⟩ | ⟨h1, h2⟩)
      · exact ⟨x, h1, by omega, h3⟩
      · exact ⟨y + 1, by omega, by omega, h1, h2⟩
    · rintro ⟨x, h1, h2, h3, h4⟩
      by_cases e : x = y + 1
      · subst e; exact .inr ⟨h3, h4⟩
      · exact .inl ⟨x, h1, by omega, h3, h4⟩
theorem ofO_asc (hd : ∀ i j, j < i → i < l.length → (gS l j).1 ≠ (gS l i).1) : ∀ y, (ofO m l N y).Pairwise (· < ·)
  | 0 => List.Pairwise.nil
  | y + 1 => by
    rw [ofO]
    refine ofI_asc hd (ofO_asc hd y) (fun v hv => ?_) _ (Nat.le_refl _)
    obtain ⟨x, h1, h2, h3, _⟩ := (ofO_mem v y).1 hv
    omega
theorem reK_mem {wl : List Bool} (v : Int) : ∀ k, v ∈ reK l wl k ↔ ∃ j, j < k ∧ gO wl j = true ∧ v = (gS l j).1
  | 0 => by simp [reK]
  | k + 1 => by
    have ih := reK_mem (wl := wl) v k
    rw [reK]
    cases hb : gO wl k with
    | true =>
      rw [if_pos rfl, List.mem_append, ih, List.mem_singleton]
      constructor
      · rintro (⟨j, h1, h2⟩ | h)
        · exact ⟨j, by omega, h2⟩
        · exact ⟨k, by omega, hb, h⟩
      · rintro ⟨j, h1, h2, h3⟩
        by_cases e : j = k
        · subst e; exact .inr h3
        · exact .inl ⟨j, by omega, h2, h3⟩
    | false =>
      rw [if_neg (by simp), ih]
      constructor
      · rintro ⟨j, h1, h2⟩; exact ⟨j, by omega, h2⟩
      · rintro ⟨j, h1, h2, h3⟩
        refine ⟨j, ?_, h2, h3⟩
        by_cases e : j = k
        · subst e; rw [hb] at h2; cases h2
        · omega
theorem reK_nodup {wl : List Bool} (hd : ∀ i j, j < i → i < l.length → (gS l j).1 ≠ (gS l i).1) : ∀ k, k ≤ l.length → (reK l wl k).Nodup
  | 0, _ => List.nodup_nil
  | k + 1, hk => by
    have ih := reK_nodup (wl := wl) hd k (by omega)
    rw [reK]
    split
    · refine List.nodup_append.2 ⟨ih, by simp, fun a ha b hb => ?_⟩
      rw [List.mem_singleton] at hb
      obtain ⟨j, h1, _, h3⟩ := (reK_mem a k).1 ha
      rw [hb, h3]; exact hd k j h1 (by omega)
    · exact ih
/-- What Off says is what the marks say, sorted. -/
theorem of_re {wl : List Bool} (hs : shB l = true) (hw : ∀ k, k < l.length → gO wl k = dfB m l N k) : ofO m l N 255 = isort (reK l wl l.length) := by
  obtain ⟨sp1, sp2, sp3, sp4, sp5⟩ := shB_spec hs
  refine asc_ext (ofO_asc sp5 255) (isort_asc (reK_nodup sp5 _ (Nat.le_refl _))) (fun v => ?_)
  rw [isort_mem, reK_mem, ofO_mem]
  constructor
  · rintro ⟨x, h1, h2, h3, j, hj, hb⟩
    unfold ofB at hb
    rw [Bool.and_eq_true] at hb
    have e := of_decide_eq_true hb.1
    refine ⟨j, hj, ?_, by rw [h3, e]⟩
    rw [hw j hj]
    unfold dfB gX
    rw [e, Int.toNat_natCast]; exact hb.2
  · rintro ⟨j, hj, hg, hv⟩
    have h4 := sp4 j hj
    refine ⟨(gS l j).1.toNat, by omega, by omega, by omega, j, hj, ?_⟩
    unfold ofB
    rw [decide_eq_true (p := (gS l j).1 = _) (by omega), Bool.true_and]
    rw [hw j hj] at hg
    exact hg
theorem re_cnt {wl : List Bool} : ∀ k, (reK l wl k).length = cnt (gO wl) k
  | 0 => rfl
  | k + 1 => by
    have := re_cnt (wl := wl) k
    rw [reK, cnt_succ]
    split
    · rw [List.length_append, List.length_singleton]; omega
    · omega
theorem ds_re {xs ys p : List UInt8} {wl : List Bool} : ∀ k, (∀ j, j < k → Py.ev p (gB xs j) ≠ gB ys j → gO wl j = true) → dsK xs ys p k ≤ (reK l wl k).length
  | 0, _ => Nat.le_refl _
  | k + 1, h => by
    have ih := ds_re (xs := xs) (ys := ys) (p := p) (wl := wl) k (fun j hj => h j (by omega))
    unfold dsK
    rw [reK]
    by_cases e : Py.ev p (gB xs k) = gB ys k
    · rw [if_pos e]; split
      · rw [List.length_append]; omega
      · exact ih
    · rw [if_neg e, if_pos (h k (by omega) e), List.length_append, List.length_singleton]; omega
theorem pk_cnt (P : Nat → Bool) : ∀ k, (pkK l P k).length = cnt P k
  | 0 => rfl
  | k + 1 => by
    have := pk_cnt P k
    rw [pkK, cnt_succ]
    split
    · rw [List.length_append, List.length_singleton]; omega
    · omega
theorem pk_congr {P Q : Nat → Bool} : ∀ k, (∀ j, j < k → P j = Q j) → pkK l P k = pkK l Q k
  | 0, _ => rfl
  | k + 1, h => by rw [pkK, pkK, h k (by omega), pk_congr k (fun j hj => h j (by omega))]
/-- A chosen share passes. -/
theorem pk_from (P : Nat → Bool) : ∀ k i, i < (pkK l P k).length → ∃ j, j < k ∧ P j = true ∧ gS (pkK l P k) i = gS l j
  | 0, i, h => absurd h (by simp [pkK])
  | k + 1, i, h => by
    rw [pkK] at h ⊢
    cases hp : P k with
    | false =>
      rw [hp, if_neg (by simp)] at h
      rw [if_neg (by simp)]
      obtain ⟨j, h1, h2, h3⟩ := pk_from P k i h
      exact ⟨j, by omega, h2, h3⟩
    | true =>
      rw [hp, if_pos rfl, List.length_append, List.length_singleton] at h
      rw [if_pos rfl]
      by_cases hi : i < (pkK l P k).length
      · obtain ⟨j, h1, h2, h3⟩ := pk_from P k i hi
        exact ⟨j, by omega, h2, by rw [gS_append_left hi, h3]⟩
      · obtain rfl : i = (pkK l P k).length := by omega
        exact ⟨k, by omega, hp, gS_append_self⟩
end

section
variable {l : List (Int × List UInt8)} {t : Nat}
theorem gR_shg {m : List (Int × List UInt8)} {L b : Nat} (h : b < L) : gR (shgK m L) b = Py.itP (coX m) (coY m b) := by rw [gR_eq (by rw [shgK_length]; exact h)]; simp [shgK]
theorem df_iff {m : List (List UInt8)} {L k : Nat} (hE : Eql l L) (hk : k < l.length) : dfB m l L k = true ↔ ∃ b, b < L ∧ Py.ev (gR m b) (gX l k) ≠ gB (gS l k).2 b := by
  unfold dfB
  rw [decide_eq_true_iff]
  constructor
  · intro h
    apply Classical.byContradiction
    intro hn
    refine h (gB_ext (by rw [atK_length, hE k hk]) fun b hb => ?_)
    rw [atK_length] at hb
    rw [atK, gB_tab _ hb]
    apply Classical.byContradiction
    intro h9
    exact hn ⟨b, hb, h9⟩
  · rintro ⟨b, hb, h1⟩ e
    rw [← e, atK, gB_tab _ hb] at h1
    exact h1 rfl
theorem wr_some (hs : shB l = true) (ht1 : 1 ≤ t) (ht : t ≤ l.length) {m : List (List UInt8)} (hm : ∀ b, b < lnK l → (gR m b).length ≤ t) (hle : (ofO m l (lnK l) 255).length ≤ (l.length - t) / 2) : wrF l t = some (ofO m l (lnK l) 255) := by
  obtain ⟨sp1, _, _, _, _⟩ := shB_spec hs
  have hE := eql_ln hs
  have hlX := coX_length l
  obtain ⟨wl, hwl⟩ : ∃ wl : List Bool, wl = (List.range l.length).map (dfB m l (lnK l)) := ⟨_, rfl⟩
  have hwll : wl.length = l.length := by rw [hwl]; simp
  have hw : ∀ k, k < l.length → gO wl k = dfB m l (lnK l) k := fun k hk => by rw [gO_eq (by omega)]; simp [hwl]
  have hre := of_re hs hw
  have hrl : (reK l wl l.length).length ≤ (l.length - t) / 2 := by rw [← isort_length, ← hre]; exact hle
  obtain ⟨wl', h1, h2, h3⟩ := wrK_right (coX_ds hs) (by omega) ht1 ht (fun b => gR m b) (lnK l) (fun b hb => ⟨hm b hb, by
    rw [hlX]
    refine Nat.le_trans (ds_re (l := l) (wl := wl) _ (fun j hj hne => ?_)) hrl
    rw [hw j hj, df_iff hE hj]
    rw [gB_coX hj, coY, gB_tab _ hj] at hne
    exact ⟨b, hb, hne⟩⟩)
  have e : wl' = wl := gO_ext (by omega) (fun k hk => by
    rw [h2] at hk
    rw [Bool.eq_iff_iff, h3 k hk, hw k hk, df_iff hE hk])
  subst e
  have hL : lnK l = (gS l 0).2.length := by unfold lnK; rw [if_neg (by omega)]
  unfold wrF
  rw [← hL, h1]
  simp only
  rw [if_neg (by omega), hre]
theorem lo_found (hs : shB l = true) (ht1 : 1 ≤ t) (ht : t ≤ l.length) {s : Nat} (h : rwH l t s = true) : wrF l t = some (rwO l s) := by
  unfold rwH at h
  rw [Bool.and_eq_true] at h
  have h1 := of_decide_eq_true h.1
  have h2 := of_decide_eq_true h.2
  refine wr_some hs ht1 ht (fun b hb => ?_) h2
  rw [gR_shg hb]
  have := Py.itP_length (coX (pkS l s)) (coY (pkS l s) b)
  rw [coX_length, h1] at this
  exact this
theorem lo_none (hs : shB l = true) (ht1 : 1 ≤ t) (ht : t ≤ l.length) (h : ∀ s, s < 2 ^ l.length → rwH l t s = false) : wrF l t = none := by
  obtain ⟨sp1, _, _, _, _⟩ := shB_spec hs
  have hE := eql_ln hs
  have hlX := coX_length l
  have hL : lnK l = (gS l 0).2.length := by unfold lnK; rw [if_neg (by omega)]
  unfold wrF
  rw [← hL]
  cases hwK : wrK l t ((l.length - t) / 2) (lnK l) with
  | none => rfl
  | some wl =>
    simp only
    by_cases hlt : (l.length - t) / 2 < (reK l wl l.length).length
    · rw [if_pos hlt]
    · exfalso
      have hex : ∀ b, ∃ p, b < lnK l → Nr (coX l) (coY l b) t p := fun b => by
        by_cases hb : b < lnK l
        · obtain ⟨p, hp⟩ := wrK_near _ _ hwK b hb
          exact ⟨p, fun _ => hp⟩
        · exact ⟨[], fun h9 => absurd h9 hb⟩
      obtain ⟨pol, hpol⟩ := Classical.axiomOfChoice hex
      obtain ⟨wl', h1, h2, h3⟩ := wrK_right (coX_ds hs) (by omega) ht1 ht pol (lnK l) (fun b hb => hpol b hb)
      rw [hwK] at h1
      injection h1 with h1
      subst h1
      have hc := cnt_not (gO wl) l.length
      rw [← re_cnt (l := l)] at hc
      obtain ⟨P, hP1, hP2⟩ := cnt_sub (fun k => !gO wl k) l.length t (by omega)
      obtain ⟨s, hs1, hs2⟩ := bits_of P l.length
      have hsub : pkS l s = pkK l P l.length := pk_congr _ hs2
      have hlen : (pkS l s).length = t := by rw [hsub, pk_cnt, hP2]
      have hsE : Eql (pkS l s) (lnK l) := pk_eql _ hE
      have hsD : Py.Dst (coX (pkS l s)) := coX_ds (pk_sh _ hs)
      have hev : ∀ b, b < lnK l → ∀ x, Py.ev (gR (shgK (pkS l s) (lnK l)) b) x = Py.ev (pol b) x := fun b hb x => by
        rw [gR_shg hb]
        have hil := Py.itP_length (coX (pkS l s)) (coY (pkS l s) b)
        refine Py.unique_ev hsD hil (by rw [coX_length, hlen]; exact (hpol b hb).1) (fun i hi => ?_) x
        rw [coX_length] at hi
        rw [Py.itP_value hsD (by rw [coX_length]; exact hi), coY, gB_tab _ hi, gB_coX hi]
        rw [hsub] at hi ⊢
        obtain ⟨j, hj, hPj, hg⟩ := pk_from P l.length i hi
        unfold gX
        rw [hg]
        have hf := (hP1 j hPj).1
        apply Classical.byContradiction
        intro hne
        have := (h3 j hj).2 ⟨b, hb, fun e9 => hne e9.symm⟩
        rw [this] at hf
        cases hf
      have hw : ∀ k, k < l.length → gO wl k = dfB (shgK (pkS l s) (lnK l)) l (lnK l) k := fun k hk => by
        rw [Bool.eq_iff_iff, h3 k hk, df_iff hE hk]
        constructor
        · rintro ⟨b, hb, hne⟩; exact ⟨b, hb, by rw [hev b hb]; exact hne⟩
        · rintro ⟨b, hb, hne⟩; exact ⟨b, hb, by rw [hev b hb] at hne; exact hne⟩
      have hre := of_re hs hw
      have hH : rwH l t s = true := by
        unfold rwH
        rw [hlen, decide_eq_true rfl, Bool.true_and, decide_eq_true_iff]
        have : rwO l s = isort (reK l wl l.length) := hre
        rw [this, isort_length]; omega
      rw [h s hs1] at hH
      cases hH
end
end Go.Proofs.Ytakedococfklgaa
