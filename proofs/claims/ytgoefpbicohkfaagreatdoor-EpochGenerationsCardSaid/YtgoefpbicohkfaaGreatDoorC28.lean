/- Several texts in one: As. -/
import Derived.Test.YtgoefpbicohkfaaGreatDoorC27
/- Ascending lists of strings: an insertion, plainly (out of Vo of chapter 49, by bin/mk47d.py). -/
namespace Go.Proofs.YtgoefpbicohkfaaGreatDoor
open Go Gf

theorem str_ltr {a b c : List UInt8} (h1 : a < b) (h2 : b < c) : a < c := List.lt_trans h1 h2
theorem str_lir (a : List UInt8) : ¬ a < a := List.lt_irrefl a
theorem str_nlt {a b : List UInt8} : ¬ a < b ↔ b ≤ a := List.not_lt
theorem str_lle {a b : List UInt8} (h : a ≤ b) (hn : a ≠ b) : a < b := by
  rcases List.le_iff_lt_or_eq.1 h with h | h
  · exact h
  · exact absurd h hn
theorem asc_ext : ∀ {l1 l2 : List (List UInt8)}, l1.Pairwise (· < ·) → l2.Pairwise (· < ·) → (∀ y, y ∈ l1 ↔ y ∈ l2) → l1 = l2
  | [], [], _, _, _ => rfl
  | [], b :: l2, _, _, h => absurd ((h b).2 (by simp)) (by simp)
  | a :: l1, [], _, _, h => absurd ((h a).1 (by simp)) (by simp)
  | a :: l1, b :: l2, h1, h2, h => by
    rw [List.pairwise_cons] at h1 h2
    have hab : a = b := by
      have m1 := (h a).1 (by simp)
      have m2 := (h b).2 (by simp)
      rw [List.mem_cons] at m1 m2
      rcases m1 with e | m1
      · exact e
      rcases m2 with e | m2
      · exact e.symm
      exact absurd (str_ltr (h1.1 b m2) (h2.1 a m1)) (str_lir a)
    subst hab
    rw [asc_ext h1.2 h2.2 (fun y => by
      have := h y
      rw [List.mem_cons, List.mem_cons] at this
      constructor
      · intro hy
        rcases this.1 (.inr hy) with e | e
        · exact absurd (h1.1 y hy) (by rw [e]; exact str_lir a)
        · exact e
      · intro hy
        rcases this.2 (.inr hy) with e | e
        · exact absurd (h2.1 y hy) (by rw [e]; exact str_lir a)
        · exact e)]
def addS (l : List (List UInt8)) (s : List UInt8) : List (List UInt8) := if (l.dropWhile fun y => decide (y < s)).head? = some s then l else (l.takeWhile fun y => decide (y < s)) ++ s :: (l.dropWhile fun y => decide (y < s))
theorem addS_asc {l : List (List UInt8)} (h : l.Pairwise (· < ·)) (s : List UInt8) : (addS l s).Pairwise (· < ·) ∧ ∀ y, y ∈ addS l s ↔ y ∈ l ∨ y = s := by
  unfold addS
  by_cases hh : (l.dropWhile fun y => decide (y < s)).head? = some s
  · rw [if_pos hh]
    refine ⟨h, fun y => ⟨.inl, fun h' => h'.elim id (fun e => ?_)⟩⟩
    subst e
    have : y ∈ l.dropWhile fun z => decide (z < y) := List.mem_of_head? hh
    exact (List.dropWhile_sublist _).subset this
  · rw [if_neg hh]
    have e := List.takeWhile_append_dropWhile (p := fun y => decide (y < s)) (l := l)
    have h1 : ∀ y ∈ l.takeWhile fun y => decide (y < s), y < s := fun y hy => by
      have := List.all_eq_true.1 (List.all_takeWhile (p := fun y => decide (y < s)) (l := l)) y hy
      simpa using this
    have h2 : ∀ y ∈ l.dropWhile fun y => decide (y < s), s < y := by
      cases hd : l.dropWhile fun y => decide (y < s) with
      | nil => intro y hy; simp at hy
      | cons a r =>
        have h3 : ¬ a < s := by
          have := List.head?_dropWhile_not (fun y => decide (y < s)) l
          rw [hd] at this
          simpa using this
        have h4 : s < a :=  str_lle (str_nlt.1 h3) (fun e => hh (by rw [hd, e]; rfl))
        have h5 : (a :: r).Pairwise (· < ·) := by rw [← hd]; exact h.sublist (List.dropWhile_sublist _)
        intro y hy
        rw [List.mem_cons] at hy
        rcases hy with rfl | hy
        · exact h4
        · exact str_ltr h4 ((List.pairwise_cons.1 h5).1 y hy)
    constructor
    · rw [List.pairwise_append]
      refine ⟨h.sublist (List.takeWhile_sublist _), List.pairwise_cons.2 ⟨h2, h.sublist (List.dropWhile_sublist _)⟩, fun a ha b hb => ?_⟩
      rw [List.mem_cons] at hb
      rcases hb with rfl | hb
      · exact h1 a ha
      · exact str_ltr (h1 a ha) (h2 b hb)
    · intro y
      rw [List.mem_append, List.mem_cons]
      constructor
      · rintro (h9 | h9 | h9)
        · exact .inl ((List.takeWhile_sublist _).subset h9)
        · exact .inr h9
        · exact .inl ((List.dropWhile_sublist _).subset h9)
      · rintro (h9 | h9)
        · rw [← e, List.mem_append] at h9
          rcases h9 with h9 | h9
          · exact .inl h9
          · exact .inr (.inr h9)
        · exact .inr (.inl h9)
def ssort (z : List (List UInt8)) : List (List UInt8) := z.mergeSort fun x y => decide (x ≤ y)
theorem sort_asc {l : List (List UInt8)} (h : l.Nodup) : (ssort l).Pairwise (· < ·) := by
  unfold ssort
  have h1 : (l.mergeSort fun x y => decide (x ≤ y)).Pairwise (fun x y => decide (x ≤ y) = true) := List.pairwise_mergeSort (fun a b c h1 h2 => by simp only [decide_eq_true_eq] at *; exact List.le_trans h1 h2) (fun a b => by simp only [Bool.or_eq_true, decide_eq_true_eq]; exact List.le_total a b) l
  have h2 : (l.mergeSort fun x y => decide (x ≤ y)).Nodup := (List.mergeSort_perm l _).nodup_iff.2 h
  exact h1.imp₂ (fun a b h3 h4 =>  str_lle (by simpa using h3) h4) h2
theorem addS_len (l : List (List UInt8)) (s : List UInt8) : (addS l s).length ≤ l.length + 1 := by
  unfold addS
  split
  · omega
  · have e := congrArg List.length (List.takeWhile_append_dropWhile (p := fun y => decide (y < s)) (l := l))
    rw [List.length_append] at e
    rw [List.length_append, List.length_cons]
    omega
/-- Where the loop stops. -/
theorem take_stop {l : List (List UInt8)} {s : List UInt8} : ∀ {k : Nat}, (l.take k).all (fun y => decide (y < s)) = true → (∀ y, l[k]? = some y → decide (y < s) = false) → l.takeWhile (fun y => decide (y < s)) = l.take k ∧ l.dropWhile (fun y => decide (y < s)) = l.drop k := by
  induction l with
  | nil => intro k _ _; simp
  | cons a l ih =>
    intro k h1 h2
    cases k with
    | zero =>
      have := h2 a rfl
      simp [this]
    | succ k =>
      rw [List.take_succ_cons, List.all_cons, Bool.and_eq_true] at h1
      obtain ⟨e1, e2⟩ := ih h1.2 (fun y hy => h2 y (by simpa using hy))
      rw [List.takeWhile_cons_of_pos (p := fun y => decide (y < s)) h1.1, List.dropWhile_cons_of_pos (p := fun y => decide (y < s)) h1.1, e1, e2]
      exact ⟨rfl, rfl⟩
theorem addS_at {l : List (List UInt8)} {s : List UInt8} {k : Nat} (h1 : (l.take k).all (fun y => decide (y < s)) = true) (h2 : ∀ y, l[k]? = some y → decide (y < s) = false) : addS l s = if l[k]? = some s then l else l.take k ++ s :: l.drop k := by
  obtain ⟨e1, e2⟩ := take_stop h1 h2
  unfold addS
  rw [e1, e2, List.head?_drop]
/-- Strings, ascending, each once. -/
def uniqS (l : List (List UInt8)) : List (List UInt8) := l.foldl addS []
theorem fold_asc : ∀ (l m : List (List UInt8)), m.Pairwise (· < ·) → (l.foldl addS m).Pairwise (· < ·) ∧ ∀ y, y ∈ l.foldl addS m ↔ y ∈ m ∨ y ∈ l
  | [], m, h => ⟨h, fun y => by simp⟩
  | a :: l, m, h => by
    obtain ⟨h1, h2⟩ := addS_asc h a
    obtain ⟨h3, h4⟩ := fold_asc l (addS m a) h1
    refine ⟨h3, fun y => ?_⟩
    rw [List.foldl_cons, h4 y, h2 y, List.mem_cons]
    constructor
    · rintro ((h | h) | h)
      · exact .inl h
      · exact .inr (.inl h)
      · exact .inr (.inr h)
    · rintro (h | h | h)
      · exact .inl (.inl h)
      · exact .inl (.inr h)
      · exact .inr h
theorem uniq_asc (l : List (List UInt8)) : (uniqS l).Pairwise (· < ·) := (fold_asc l [] List.Pairwise.nil).1
theorem uniq_mem (l : List (List UInt8)) (y : List UInt8) : y ∈ uniqS l ↔ y ∈ l := by
  have := (fold_asc l [] List.Pairwise.nil).2 y
  unfold uniqS
  rw [this]; simp
theorem fold_len : ∀ (l m : List (List UInt8)), (l.foldl addS m).length ≤ m.length + l.length
  | [], m => by simp
  | a :: l, m => by
    have h1 := fold_len l (addS m a)
    have h2 := addS_len m a
    rw [List.foldl_cons, List.length_cons]; omega
theorem uniq_len (l : List (List UInt8)) : (uniqS l).length ≤ l.length := by have := fold_len l []; simpa [uniqS] using this
theorem uniq_has (l : List (List UInt8)) (y : List UInt8) : hasB (uniqS l) y = hasB l y := by
  unfold hasB
  rw [Bool.eq_iff_iff, List.any_eq_true, List.any_eq_true]
  constructor <;> rintro ⟨x, h1, h2⟩
  · exact ⟨x, (uniq_mem l x).1 h1, h2⟩
  · exact ⟨x, (uniq_mem l x).2 h1, h2⟩
theorem hasB_iff (l : List (List UInt8)) (y : List UInt8) : hasB l y = true ↔ y ∈ l := by
  unfold hasB
  rw [List.any_eq_true]
  constructor
  · rintro ⟨x, h1, h2⟩; rw [← beq_iff_eq.1 h2]; exact h1
  · intro h; exact ⟨y, h, beq_self_eq_true y⟩
theorem asc_nodup {l : List (List UInt8)} (h : l.Pairwise (· < ·)) : l.Nodup := h.imp fun {a b} h e => by subst e; exact str_lir _ h
/-- Sorting what is an ascending list but for the order gives the list. -/
theorem sort_to {l s : List (List UInt8)} (hp : l.Perm s) (hs : s.Pairwise (· < ·)) : ssort l = s := by
  have h1 : l.Nodup := hp.nodup_iff.2 (asc_nodup hs)
  refine asc_ext (sort_asc h1) hs (fun y => ?_)
  rw [← hp.mem_iff]
  exact (List.mergeSort_perm l _).mem_iff
end Go.Proofs.YtgoefpbicohkfaaGreatDoor
