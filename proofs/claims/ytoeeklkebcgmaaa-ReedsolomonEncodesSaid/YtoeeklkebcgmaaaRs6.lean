/- Contracts of package reedsolomon: Encode's refusals, checkIndices, checkGiven. -/
import Derived.Test.YtoeeklkebcgmaaaRs5
namespace Go.Proofs.Ytoeeklkebcgmaaa
open Go.RowKit Gf

attribute [local go_sem] Gf.xor_bits Gf.and_bits Gf.or_bits Gf.ne_zero_iff Gf.eq_zero_iff Gf.eq_one_iff Gf.beq_bytes Gf.bne_bytes Gf.bv_toNat

/-- Number k is an index below t and none of the earlier ones. -/
def idxOk (t : Int) (z : List Int) (k : Nat) : Bool := decide (0 ≤ gI z k) && decide (gI z k < t) && !((List.range k).any fun j => gI z j == gI z k)
def idxB (t : Int) (z : List Int) : Bool := (List.range z.length).all (idxOk t z)
theorem idxB_true {t : Int} {z : List Int} (h : ∀ i, i < z.length → idxOk t z i = true) : idxB t z = true := by
  unfold idxB; rw [List.all_eq_true]; intro i hi; exact h i (List.mem_range.1 hi)
theorem idxB_false {t : Int} {z : List Int} {i : Nat} (hi : i < z.length) (h : idxOk t z i = false) : idxB t z = false := by
  unfold idxB; rw [List.all_eq_false]; exact ⟨i, List.mem_range.2 hi, by simp [h]⟩
theorem idxB_spec {t : Int} {z : List Int} (h : idxB t z = true) (i : Nat) (hi : i < z.length) : 0 ≤ gI z i ∧ gI z i < t ∧ ∀ j, j < i → gI z j ≠ gI z i := by
  unfold idxB at h; rw [List.all_eq_true] at h; have := h i (List.mem_range.2 hi)
  simp [idxOk] at this
  exact ⟨this.1.1, this.1.2, this.2⟩
/-- Is i among the first k? -/
def seenB (z : List Int) (k i : Nat) : Bool := (List.range k).any fun j => gI z j == (i : Int)
theorem seenB_succ (z : List Int) (k i : Nat) : seenB z (k + 1) i = (seenB z k i || (gI z k == (i : Int))) := by
  unfold seenB; rw [List.range_succ, List.any_append]; simp
def seenA (z : List Int) (k : Nat) : Array Value := ((List.range 16).map fun i => Value.bool (seenB z k i)).toArray
theorem seenA_zero (z : List Int) : seenA z 0 = #[.bool false, .bool false, .bool false, .bool false, .bool false, .bool false, .bool false, .bool false, .bool false, .bool false, .bool false, .bool false, .bool false, .bool false, .bool false, .bool false] := by
  show ((List.range 16).map fun _ => Value.bool false).toArray = _
  kernel_rfl
theorem seenA_get (z : List Int) (k i : Nat) (h : i < 16) : (seenA z k)[i]? = some (.bool (seenB z k i)) := by
  simp [seenA, h]
theorem seenA_set (z : List Int) (k i : Nat) (_h : i < 16) (hz : gI z k = (i : Int)) : (seenA z k).setIfInBounds i (.bool true) = seenA z (k + 1) := by
  unfold seenA
  rw [List.setIfInBounds_toArray]
  congr 1
  apply List.ext_getElem (by simp)
  intro j h1 h2
  simp only [List.getElem_set, List.getElem_map, List.getElem_range]
  by_cases e : i = j
  · subst e
    rw [if_pos rfl, seenB_succ, hz]
    simp
  · rw [if_neg e, seenB_succ, hz]
    have : ((i : Int) == (j : Int)) = false := by simp; omega
    rw [this, Bool.or_false]

def ChkRet (r : Int) (w : World) (e : Ending) (w' : World) : Prop := e = .returned (.int .i64 r) ∧ Below w.heap.size w w'
def ixE (d t : Int) (z : List Int) : Int := if vldB d t && idxB t z then 0 else 1

set_option maxHeartbeats 4000000 in
theorem checkIndices_any (d t : Int) (A : Option Addr) (n c : Nat) (z : List Int) (w : World) (h : IS w A n c z) :
    Calls Try.prog 49 #[.int .i64 d, .int .i64 t, .slice A n c] w (ChkRet (ixE d t z) w) := by
  have hn := h.len_le
  have HL := Lib.hid h.1
  cases hv : vldB d t with
  | false =>
    have HR : Hid (ixE d t z = 1) := Lib.hid (by unfold ixE; rw [hv]; rfl)
    go_enter Try.func49, Try.ntmps49
    go_wp2_with (go_at_call 11; refine (rsvalid_any _ _ _).mono ?_; rintro e w' ⟨rfl, rfl⟩; rw [hv])
    go_ret
    exact ⟨by rw [HR.out]; rfl, Below.refl _ _⟩
  | true =>
    have ht := vld_iff.1 hv
    have HRf : Hid (idxB t z = false → ixE d t z = 1) := Lib.hid (by intro h; unfold ixE; rw [hv, h]; rfl)
    have HRt : Hid (idxB t z = true → ixE d t z = 0) := Lib.hid (by intro h; unfold ixE; rw [hv, h]; rfl)
    go_enter Try.func49, Try.ntmps49
    go_wp2_with (go_at_call 11; refine (rsvalid_any _ _ _).mono ?_; rintro e w' ⟨rfl, rfl⟩; rw [hv])
    clear hv
    go_loopw [16] (fun i wr => ∃ k : Nat, k ≤ n ∧ i = .int .i64 (k : Int) ∧ Hid (∀ j, j < k → idxOk t z j = true) ∧ Blk wr w.heap.size 93 (seenA z k) ∧ Below w.heap.size w wr) (fun i _ => n - (intOf i).toNat)
    case atStart =>
      refine ⟨0, by omega, rfl, Lib.hid (fun j hj => absurd hj (by omega)), ?_, (Below.refl _ _).alloc (Nat.le_refl _) _⟩
      rw [seenA_zero]
      exact Blk.new w _ _
    case round =>
      obtain ⟨k, hk, rfl, hall, hb1, hb⟩ := hrel
      by_cases hlt : k < n
      · obtain ⟨g, o, rfl, hc⟩ := h.at_ hb hlt
        obtain ⟨x, hx⟩ : ∃ x, x = gI z k := ⟨_, rfl⟩
        rw [← hx] at hc
        have HX := Lib.hid hx
        clear hx h
        by_cases h1 : x < 0
        · have q1 : decide (x < 0) = true := by simpa using h1
          have HF : Hid (ixE d t z = 1) := Lib.hid (HRf.out (idxB_false (i := k) (by rw [HL.out]; exact hlt) (by unfold idxOk; rw [← HX.out]; simp; omega)))
          have HB := Lib.hid hb
          clear hb hb1 hall HRf HRt
          go_wp2
          go_ret
          exact ⟨by rw [HF.out]; rfl, HB.out⟩
        · have q1 : decide (x < 0) = false := by simpa using h1
          by_cases h2 : t ≤ x
          · have q2 : decide (t ≤ x) = true := by simpa using h2
            have HF : Hid (ixE d t z = 1) := Lib.hid (HRf.out (idxB_false (i := k) (by rw [HL.out]; exact hlt) (by unfold idxOk; rw [← HX.out]; simp; omega)))
            have HB := Lib.hid hb
            clear hb hb1 hall HRf HRt
            go_wp2
            go_ret
            exact ⟨by rw [HF.out]; rfl, HB.out⟩
          · have q2 : decide (t ≤ x) = false := by simpa using h2
            obtain ⟨y, rfl⟩ : ∃ y : Nat, x = (y : Int) := ⟨x.toNat, by omega⟩
            have hy : y < 16 := by omega
            have hy' : (y : Int) < 16 := by omega
            have hs : wr.cell? ⟨w.heap.size, y, none⟩ = some (.bool (seenB z k y)) := by rw [hb1.cell, seenA_get _ _ _ hy]
            have hf := hb1.frozen y
            cases hsb : seenB z k y with
            | true =>
              rw [hsb] at hs
              have HF : Hid (ixE d t z = 1) := Lib.hid (HRf.out (idxB_false (i := k) (by rw [HL.out]; exact hlt) (by
                have hsb' : ((List.range k).any fun j => gI z j == (y : Int)) = true := hsb
                unfold idxOk; rw [← HX.out, hsb']; simp)))
              have HB := Lib.hid hb
              clear hb hb1 hall HRf HRt hsb
              go_wp2
              go_ret
              exact ⟨by rw [HF.out]; rfl, HB.out⟩
            | false =>
              rw [hsb] at hs
              have HA : Hid (∀ j, j < k + 1 → idxOk t z j = true) := Lib.hid (fun j hj => by
                by_cases e : j = k
                · subst e
                  have hsb' : ((List.range j).any fun i => gI z i == (y : Int)) = false := hsb
                  unfold idxOk; rw [← HX.out, hsb']; simp; omega
                · exact hall.out j (by omega))
              have HB : Hid (Blk (wr.setCell ⟨w.heap.size, y, none⟩ (.bool true)) w.heap.size 93 (seenA z (k + 1)) ∧ Below w.heap.size w (wr.setCell ⟨w.heap.size, y, none⟩ (.bool true))) := by
                have h3 := hb1.set_ y (.bool true)
                rw [seenA_set z k y hy HX.out.symm] at h3
                exact Lib.hid ⟨h3, hb.setCell (p := ⟨w.heap.size, y, none⟩) (Nat.le_refl _) _⟩
              clear hb hb1 hall HRf HRt hsb
              go_wp2
              go_roundw
              case rel => exact ⟨k + 1, by omega, by go_num, HA, HB.out⟩
              case measure => simp [intOf]; omega
      · have HT : Hid (ixE d t z = 0) := Lib.hid (HRt.out (idxB_true (fun i hi => hall.out i (by rw [HL.out] at hi; omega))))
        have HB := Lib.hid hb
        clear h hb hb1 hall HRf HRt
        go_wp2
        go_ret
        exact ⟨by rw [HT.out]; rfl, HB.out⟩

/-- The error of given pieces. -/
def gvE (d t : Int) (z : List Int) (m : List (List UInt8)) : Int :=
  if ixE d t z = 0 then (if z.length = m.length ∧ oneB m = true then (if (z.length : Int) < d then 10 else 0) else 1) else 1

set_option maxHeartbeats 4000000 in
theorem checkGiven_any (d t : Int) (A A' : Option Addr) (n c n' c' : Nat) (z : List Int) (m : List (List UInt8)) (w : World) (h : IS w A n c z) (h' : MS w A' n' c' m) :
    Calls Try.prog 39 #[.int .i64 d, .int .i64 t, .slice A n c, .slice A' n' c'] w (ChkRet (gvE d t z m) w) := by
  have hn := h.len_le
  have hn' := h'.len_le
  have HL := Lib.hid h.1
  have HL' := Lib.hid h'.1
  go_enter Try.func39, Try.ntmps39
  go_wp2_with fail
  refine (checkIndices_any d t A n c z w h).mono ?_
  rintro e w1 ⟨rfl, hb⟩
  have h'' := h'.kept hb
  have HB := Lib.hid hb
  clear hb h h'
  by_cases hx : ixE d t z = 0
  · rw [hx]
    by_cases hnn : n = n'
    · have q1 : ((n : Int) != (n' : Int)) = false := by simp [hnn]
      have HN := Lib.hid hnn
      clear hnn
      go_wp2_with fail
      refine (oneLength_any A' n' c' m _ h'').mono ?_
      rintro e w2 ⟨rfl, rfl⟩
      cases ho : oneB m with
      | false =>
        have HR : Hid (gvE d t z m = 1) := Lib.hid (by unfold gvE; rw [if_pos hx, ho]; simp)
        clear h''
        go_wp2_with fail
        go_ret
        exact ⟨by rw [HR.out]; rfl, HB.out⟩
      | true =>
        by_cases hs : (n : Int) < d
        · have q3 : decide ((n : Int) < d) = true := by simpa using hs
          have HR : Hid (gvE d t z m = 10) := Lib.hid (by unfold gvE; rw [if_pos hx, if_pos ⟨by rw [HL.out, HL'.out, HN.out], ho⟩, HL.out, if_pos hs])
          clear h''
          go_wp2_with fail
          go_ret
          exact ⟨by rw [HR.out]; rfl, HB.out⟩
        · have q3 : decide ((n : Int) < d) = false := by simpa using hs
          have HR : Hid (gvE d t z m = 0) := Lib.hid (by unfold gvE; rw [if_pos hx, if_pos ⟨by rw [HL.out, HL'.out, HN.out], ho⟩, HL.out, if_neg hs])
          clear h''
          go_wp2_with fail
          go_ret
          exact ⟨by rw [HR.out]; rfl, HB.out⟩
    · have q1 : ((n : Int) != (n' : Int)) = true := by simp; omega
      have HR : Hid (gvE d t z m = 1) := Lib.hid (by unfold gvE; rw [if_pos hx, if_neg (by rw [HL.out, HL'.out]; exact fun e => hnn e.1)])
      clear h''
      go_wp2_with fail
      go_ret
      exact ⟨by rw [HR.out]; rfl, HB.out⟩
  · have hx1 : ixE d t z = 1 := by unfold ixE at hx ⊢; split at hx <;> simp_all
    have HR : Hid (gvE d t z m = 1) := Lib.hid (by unfold gvE; rw [if_neg hx])
    rw [hx1]
    clear h'' hx hx1
    go_wp2_with fail
    go_ret
    exact ⟨by rw [HR.out]; rfl, HB.out⟩
end Go.Proofs.Ytoeeklkebcgmaaa
