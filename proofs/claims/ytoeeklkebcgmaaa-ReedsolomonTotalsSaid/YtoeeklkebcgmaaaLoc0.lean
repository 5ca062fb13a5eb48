/- What Locate computes: plain functions. -/
import Derived.Test.YtoeeklkebcgmaaaCtx
namespace Go.Proofs.Ytoeeklkebcgmaaa
open Go.RowKit Gf

/-- Of the first i indices those whose bit in s is b. -/
def selN (z : List Nat) (s : Nat) (b : Bool) : Nat → List Nat
  | 0 => []
  | i + 1 => if s.testBit i = b then selN z s b i ++ [gN z i] else selN z s b i
def selM (m : List (List UInt8)) (s : Nat) (b : Bool) : Nat → List (List UInt8)
  | 0 => []
  | i + 1 => if s.testBit i = b then selM m s b i ++ [gR m i] else selM m s b i
theorem sel_length (z : List Nat) (m : List (List UInt8)) (s : Nat) (b : Bool) : ∀ i, (selM m s b i).length = (selN z s b i).length
  | 0 => rfl
  | i + 1 => by
    have := sel_length z m s b i
    simp only [selM, selN]
    split <;> simp [this]
theorem sel_sum (z : List Nat) (s : Nat) : ∀ i, (selN z s false i).length + (selN z s true i).length = i
  | 0 => rfl
  | i + 1 => by
    have := sel_sum z s i
    simp only [selN]
    cases s.testBit i <;> simp <;> omega
theorem sel_le (z : List Nat) (s : Nat) (b : Bool) (i : Nat) : (selN z s b i).length ≤ i := by
  have := sel_sum z s i
  cases b <;> omega
theorem sel_count (z : List Nat) (s : Nat) : ∀ i, (selN z s true i).length = (List.range i).countP fun j => s.testBit j
  | 0 => rfl
  | i + 1 => by
    have := sel_count z s i
    simp only [selN, List.range_succ, List.countP_append, List.countP_cons, List.countP_nil]
    split
    · rename_i h; simp [this, h]
    · rename_i h; simp [this, h]
theorem popc_range (s : Nat) : ∀ n, n ≤ 8 → s < 2 ^ n → (List.range n).countP (fun j => s.testBit j) = popc s := by
  intro n hn hs
  have key : ∀ k, (List.range (n + k)).countP (fun j => s.testBit j) = (List.range n).countP (fun j => s.testBit j) := by
    intro k
    induction k with
    | zero => rfl
    | succ k ih =>
      rw [← Nat.add_assoc, List.range_succ, List.countP_append, ih]
      simp only [List.countP_cons, List.countP_nil]
      rw [Nat.testBit_lt_two_pow (Nat.lt_of_lt_of_le hs (Nat.pow_le_pow_right (by omega) (by omega)))]
      simp
  have := key (8 - n)
  rw [show n + (8 - n) = 8 by omega] at this
  exact this.symm
theorem sel_popc (z : List Nat) (s n : Nat) (hn : n ≤ 8) (hs : s < 2 ^ n) : (selN z s true n).length = popc s := by rw [sel_count, popc_range s n hn hs]
theorem sel_mem (z : List Nat) (s : Nat) (b : Bool) : ∀ i x, x ∈ selN z s b i → ∃ j, j < i ∧ x = gN z j
  | 0, x, h => by cases h
  | i + 1, x, h => by
    simp only [selN] at h
    split at h
    · rcases List.mem_append.1 h with h | h
      · obtain ⟨j, hj, e⟩ := sel_mem z s b i x h; exact ⟨j, by omega, e⟩
      · exact ⟨i, by omega, by simpa using h⟩
    · obtain ⟨j, hj, e⟩ := sel_mem z s b i x h; exact ⟨j, by omega, e⟩
theorem selM_mem (m : List (List UInt8)) (s : Nat) (b : Bool) : ∀ i x, x ∈ selM m s b i → ∃ j, j < i ∧ x = gR m j
  | 0, x, h => by cases h
  | i + 1, x, h => by
    simp only [selM] at h
    split at h
    · rcases List.mem_append.1 h with h | h
      · obtain ⟨j, hj, e⟩ := selM_mem m s b i x h; exact ⟨j, by omega, e⟩
      · exact ⟨i, by omega, by simpa using h⟩
    · obtain ⟨j, hj, e⟩ := selM_mem m s b i x h; exact ⟨j, by omega, e⟩
theorem selM_rect {m : List (List UInt8)} {L n : Nat} (h : Rect m L) (hm : m.length = n) (s : Nat) (b : Bool) : Rect (selM m s b n) L := fun i hi => by
  rw [gR_eq hi]
  obtain ⟨j, hj, e⟩ := selM_mem m s b n _ (List.getElem_mem hi)
  rw [e]; exact h j (by omega)
theorem selN_lt {z : List Nat} {B n : Nat} (h : ∀ i, i < n → gN z i < B) (s : Nat) (b : Bool) (i : Nat) (hi : i < (selN z s b n).length) : gN (selN z s b n) i < B := by
  rw [gN_eq hi]
  obtain ⟨j, hj, e⟩ := sel_mem z s b n _ (List.getElem_mem hi)
  rw [e]; exact h j hj

/-- What Locate has at a set s: the right indices and pieces, the factors of the right ones behind the first. -/
def locR (z : List Nat) (n s : Nat) : List Nat := selN z s false n
def locF (z : List Nat) (d n s : Nat) : List (List UInt8) := facM d (locR z n s) ((locR z n s).drop d)
def locK (z : List Nat) (d n s : Nat) : Nat := (locR z n s).length - d
/-- The places at which the sets before s conflicted. -/
def locP (z : List Nat) (m : List (List UInt8)) (d L n : Nat) : Nat → List Nat
  | 0 => []
  | s + 1 => if popc s = (n - d) / 2 ∧ fitB (selM m s false n) (locF z d n s) d (locK z d n s) (locP z m d L n s) = true ∧ 0 ≤ cfl (selM m s false n) (locF z d n s) d L (locK z d n s) then
      locP z m d L n s ++ [(cfl (selM m s false n) (locF z d n s) d L (locK z d n s)).toNat] else locP z m d L n s
/-- Whether s is a set that explains the pieces. -/
def locH (z : List Nat) (m : List (List UInt8)) (d L n s : Nat) : Bool :=
  decide (popc s = (n - d) / 2) && fitB (selM m s false n) (locF z d n s) d (locK z d n s) (locP z m d L n s) && decide (cfl (selM m s false n) (locF z d n s) d L (locK z d n s) < 0)
def locO (z : List Nat) (m : List (List UInt8)) (d L n s : Nat) : List Int :=
  isort (ints (difs (selM m s false n) (facM d (locR z n s) (selN z s true n)) (selN z s true n) (selM m s true n) L (popc s)))
theorem locP_length (z : List Nat) (m : List (List UInt8)) (d L n : Nat) : ∀ s, (locP z m d L n s).length ≤ s
  | 0 => by simp [locP]
  | s + 1 => by
    have := locP_length z m d L n s
    simp only [locP]
    split <;> simp <;> omega
end Go.Proofs.Ytoeeklkebcgmaaa
