/- Contracts of package matrix, as far as valid matrices go: columns, Valid, inRange, zeros, Identity, combine, Apply, Mul. -/
import Derived.Test.YtoeeklkebcgmaaaGfM
namespace Go.Proofs.Ytoeeklkebcgmaaa
open Go.RowKit Gf

attribute [local go_sem] Gf.xor_bits Gf.and_bits Gf.or_bits Gf.ne_zero_iff Gf.eq_zero_iff Gf.eq_one_iff Gf.beq_bytes Gf.bne_bytes Gf.bv_toNat

theorem ret_int {k : IntKind} {a b : Int} (h : a = b) : Ending.returned (.int k a) = .returned (.int k b) := by rw [h]

/-- Every row has the length L. -/
def Rect (m : List (List UInt8)) (L : Nat) : Prop := ∀ i, i < m.length → (gR m i).length = L

set_option maxHeartbeats 400000 in
theorem columns_any (A : Option Addr) (n c : Nat) (m : List (List UInt8)) (w : World) (h : MS w A n c m) :
    Calls Try.prog 54 #[.slice A n c] w fun e w' => e = .returned (.int .i64 ((gR m 0).length : Int)) ∧ w = w' := by
  have hn := h.len_le
  by_cases h0 : n = 0
  · subst h0
    have hm : m = [] := List.eq_nil_of_length_eq_zero h.1
    subst hm
    go_enter Try.func54, Try.ntmps54
    go_wp2
    go_ret
    exact ⟨rfl, rfl⟩
  · have hb0 : ((n : Int) == 0) = false := by simp; omega
    have hp : 0 < n := by omega
    obtain ⟨g, o, A', n', c', rfl, hc, hr⟩ := h.at_ (Below.refl _ _) hp
    rw [Nat.add_zero] at hc
    have HL := Lib.hid hr.1
    clear h0 hr
    go_enter Try.func54, Try.ntmps54
    go_wp2
    go_ret
    exact ⟨ret_int (by rw [HL.out]), rfl⟩

set_option maxHeartbeats 400000 in
theorem valid_any (A : Option Addr) (n c : Nat) (m : List (List UInt8)) (L : Nat) (w : World) (h : MS w A n c m) (hr : Rect m L) (hn : n ≤ 64) (hL : L ≤ 64) :
    Calls Try.prog 53 #[.slice A n c] w fun e w' => e = .returned (.bool true) ∧ w = w' := by
  have hcol : (gR m 0).length ≤ 64 := by
    by_cases h0 : 0 < m.length
    · rw [hr 0 h0]; exact hL
    · have hm : m = [] := List.eq_nil_of_length_eq_zero (by omega)
      subst hm; simp [gR]
  have hd : decide ((64 : Int) < (n : Int)) = false := by simp; omega
  have hd2 : decide ((64 : Int) < ((gR m 0).length : Int)) = false := by simp; omega
  have HL := Lib.hid h.1
  go_enter Try.func53, Try.ntmps53
  go_wp2_with (go_at_call 54; refine (columns_any A n c m _ h).mono ?_; rintro e w' ⟨rfl, rfl⟩)
  go_loop [15] (fun i => ∃ k : Nat, k ≤ n ∧ i = .int .i64 (k : Int)) (fun i => n - (intOf i).toNat)
  case atStart => exact ⟨0, by omega, rfl⟩
  case round =>
    obtain ⟨k, hk, rfl⟩ := hrel
    by_cases hlt : k < n
    · obtain ⟨g, o, A1, n1, c1, rfl, hc, hr1⟩ := h.at_ (Below.refl _ _) hlt
      obtain ⟨g', o', A2, n2, c2, e2, hc2, hr2⟩ := h.at_ (Below.refl _ _) (show 0 < n by omega)
      injection e2 with e2
      injection e2 with e3 e4
      subst e3 e4
      rw [Nat.add_zero] at hc2
      have hne : n1 = n2 := by
        rw [← hr1.1, ← hr2.1, hr k (by rw [HL.out]; exact hlt), hr 0 (by rw [HL.out]; omega)]
      subst hne
      clear hr1 hr2 h
      go_wp2
      go_round
      case rel => exact ⟨k + 1, by omega, by go_num⟩
      case measure => simp [intOf]; omega
    · clear h
      go_wp2
      go_ret
      exact ⟨rfl, rfl⟩

set_option maxHeartbeats 400000 in
theorem inRange_any (n : Int) (w : World) (h0 : 0 ≤ n) (h1 : n ≤ 64) :
    Calls Try.prog 85 #[.int .i64 n] w fun e w' => e = .returned (.bool true) ∧ w = w' := by
  have d0 : decide (0 ≤ n) = true := by simpa using h0
  have d1 : decide (n ≤ 64) = true := by simpa using h1
  go_enter Try.func85, Try.ntmps85
  go_wp2
  go_ret
  exact ⟨rfl, rfl⟩

/-- The cells of the outer block of zeros after k rounds: row i lies in block g + 1 + i. -/
def ptrs (g c k r : Nat) : Array Value := ((List.range r).map fun i => if i < k then Value.slice (some ⟨g + 1 + i, 0, none⟩) c c else .slice none 0 0).toArray
theorem ptrs_size (g c k r : Nat) : (ptrs g c k r).size = r := by simp [ptrs]
theorem ptrs_get (g c k r i : Nat) (h : i < r) : (ptrs g c k r)[i]? = some (if i < k then Value.slice (some ⟨g + 1 + i, 0, none⟩) c c else .slice none 0 0) := by
  simp [ptrs, List.getElem?_range h]
theorem ptrs_zero (g c r : Nat) : ptrs g c 0 r = Array.replicate r (.slice none 0 0) := by
  apply Array.ext (by simp [ptrs])
  intro i h1 h2
  simp [ptrs]
theorem ptrs_set (g c k r : Nat) (_h : k < r) : (ptrs g c k r).setIfInBounds k (.slice (some ⟨g + 1 + k, 0, none⟩) c c) = ptrs g c (k + 1) r := by
  apply Array.ext (by simp [ptrs])
  intro i h1 h2
  rw [Array.getElem_setIfInBounds (by simpa [ptrs] using h1)]
  by_cases e : k = i
  · subst e; simp [ptrs]
  · rw [if_neg e]
    simp only [ptrs, List.getElem_toArray, List.getElem_map, List.getElem_range]
    by_cases h3 : i < k
    · rw [if_pos h3, if_pos (by omega)]
    · rw [if_neg h3, if_neg (by omega)]

/-- Rows of bytes, each in its own block from g + 1 on, behind the outer block g. -/
def Grid (w : World) (g : Nat) (k r c : Nat) (f : Nat → List UInt8) (w0 : World) : Prop :=
  Blk w g 22 (ptrs g c k r) ∧ (∀ i, i < k → Blk w (g + 1 + i) 5 (row (f i))) ∧ Below g w0 w ∧ w.heap.size = g + 1 + k

def GridRet (r c : Nat) (f : Nat → List UInt8) (w : World) (e : Ending) (w' : World) : Prop :=
  e = .returned (.slice (some ⟨w.heap.size, 0, none⟩) r r) ∧ Grid w' w.heap.size r r c f w

set_option maxHeartbeats 400000 in
theorem zeros_any (r c : Nat) (w : World) (hr : r * 24 ≤ 140737488355328) (hc : c ≤ 140737488355328) :
    Calls Try.prog 65 #[.int .i64 (r : Int), .int .i64 (c : Int)] w (GridRet r c (fun _ => zeros c) w) := by
  have hmk := make_rows r hr
  have hmb := make_bytes c hc
  go_enter Try.func65, Try.ntmps65
  go_wp2
  clear hmk
  go_loopw [11] (fun i wr => ∃ k : Nat, k ≤ r ∧ i = .int .i64 (k : Int) ∧ Grid wr w.heap.size k r c (fun _ => zeros c) w) (fun i _ => r - (intOf i).toNat)
  case atStart =>
    refine ⟨0, by omega, rfl, ?_, fun i hi => absurd hi (by omega), (Below.refl _ _).alloc (Nat.le_refl _) _, by simp⟩
    rw [ptrs_zero]
    exact Blk.new w _ _
  case round =>
    obtain ⟨k, hk, rfl, h1, h2, hb, hz⟩ := hrel
    by_cases hlt : k < r
    · have c1 : wr.cell? ⟨w.heap.size, k, none⟩ = some (.slice none 0 0) := by
        rw [h1.cell, ptrs_get _ _ _ _ _ hlt, if_neg (by omega)]
      have f1 := h1.frozen k
      have hzl : w.heap.size < wr.heap.size := by omega
      have H1 := Lib.hid h1
      have H2 := Lib.hid h2
      have HB := Lib.hid hb
      have HZ := Lib.hid hz
      clear h1 h2 hb hz
      go_wp2
      go_roundw
      case rel =>
        refine ⟨k + 1, by omega, by go_num, ?_, ?_, ?_, ?_⟩
        · have := (H1.out.set_ k (.slice (some ⟨w.heap.size + 1 + k, 0, none⟩) c c)).alloc (.cells (row (zeros c)) 5)
          rw [ptrs_set _ _ _ _ hlt, ← HZ.out] at this
          exact this
        · intro i hi
          by_cases e : i < k
          · exact ((H2.out i e).far (p := ⟨w.heap.size, k, none⟩) (by simp; omega) _).alloc _
          · obtain rfl : i = k := by omega
            have := Blk.new (wr.setCell ⟨w.heap.size, i, none⟩ (.slice (some ⟨wr.heap.size, 0, none⟩) c c)) 5 (row (zeros c))
            rw [World.size_setCell, HZ.out] at this
            rw [HZ.out]
            exact this
        · exact (HB.out.setCell (p := ⟨w.heap.size, k, none⟩) (Nat.le_refl _) _).alloc (by rw [World.size_setCell]; have := HZ.out; omega) _
        · have := HZ.out
          rw [World.size_alloc, World.size_setCell]; omega
      case measure => simp [intOf]; omega
    · obtain rfl : k = r := by omega
      have HR : Hid (Grid wr w.heap.size k k c (fun _ => zeros c) w) := Lib.hid ⟨h1, h2, hb, hz⟩
      clear h1 h2 hb hz
      go_wp2
      go_ret
      exact ⟨rfl, HR.out⟩

theorem Grid.rowsBlk {w w0 : World} {g r c : Nat} {f : Nat → List UInt8} (h : Grid w g r r c f w0) (hf : ∀ i, i < r → (f i).length = c) (hc : c ≤ lim) :
    RowsBlk w g 22 (ptrs g c r r) ((List.range r).map f) := by
  refine ⟨h.1, by simp [ptrs_size], fun i hi => ?_⟩
  have hi' : i < r := by simpa using hi
  refine ⟨some ⟨g + 1 + i, 0, none⟩, c, c, by rw [ptrs_get _ _ _ _ _ hi', if_pos hi'], ?_⟩
  have hb := BS.of_blk (h.2.1 i hi') (hf i hi') hc
  rw [gR_eq hi]
  simpa using hb

/-- Row i of the identity. -/
def unit (n i : Nat) : List UInt8 := (zeros n).set i 1
theorem unit_length (n i : Nat) : (unit n i).length = n := by simp [unit, zeros_length]

set_option maxHeartbeats 400000 in
theorem identity_any (n : Nat) (w : World) (hn : n ≤ 64) :
    Calls Try.prog 71 #[.int .i64 (n : Int)] w (GridRet n n (unit n) w) := by
  go_enter Try.func71, Try.ntmps71
  go_wp2_with (first
    | (go_at_call 85; refine (inRange_any _ _ (by omega) (by omega)).mono ?_; rintro e w' ⟨rfl, rfl⟩)
    | (go_at_call 65; refine (zeros_any n n _ (by omega) (by omega)).mono ?_; rintro e w1 ⟨rfl, hgrid⟩))
  go_loopw [13] (fun i wr => ∃ k : Nat, k ≤ n ∧ i = .int .i64 (k : Int) ∧ Grid wr w.heap.size n n n (fun i => if i < k then unit n i else zeros n) w) (fun i _ => n - (intOf i).toNat)
  case atStart =>
    refine ⟨0, by omega, rfl, hgrid.1, fun i hi => ?_, hgrid.2.2.1, hgrid.2.2.2⟩
    simp only [Nat.not_lt_zero, if_false]
    exact hgrid.2.1 i hi
  case round =>
    obtain ⟨k, hk, rfl, h1, h2, hb, hz⟩ := hrel
    by_cases hlt : k < n
    · have c1 : wr.cell? ⟨w.heap.size, k, none⟩ = some (.slice (some ⟨w.heap.size + 1 + k, 0, none⟩) n n) := by
        rw [h1.cell, ptrs_get _ _ _ _ _ hlt, if_pos hlt]
      have hk2 := h2 k hlt
      simp only [Nat.lt_irrefl, if_false] at hk2
      have c2 : wr.cell? ⟨w.heap.size + 1 + k, k, none⟩ = some (B (gB (zeros n) k)) := by
        rw [hk2.cell, row_get _ _ (by rw [zeros_length]; exact hlt)]
      have f2 := hk2.frozen k
      have H1 := Lib.hid h1
      have H2 := Lib.hid h2
      have HB := Lib.hid hb
      have HZ := Lib.hid hz
      have HK := Lib.hid hk2
      clear h1 h2 hb hz hk2
      go_wp2
      go_roundw
      case rel =>
        refine ⟨k + 1, by omega, by go_num, H1.out.far (by simp; omega) _, fun i hi => ?_, HB.out.setCell (by simp; omega) _, by rw [World.size_setCell]; exact HZ.out⟩
        by_cases e : i = k
        · subst e
          simp only [Nat.lt_succ_self, if_true]
          have := HK.out.set_ i (B 1)
          rw [row_set] at this
          exact this
        · have := (H2.out i hi).far (p := ⟨w.heap.size + 1 + k, k, none⟩) (by simp; omega) (.int .u8 1)
          by_cases e2 : i < k
          · simp only [e2, if_true] at this
            simp only [show i < k + 1 by omega, if_true]
            exact this
          · simp only [e2, if_false] at this
            simp only [show ¬ i < k + 1 by omega, if_false]
            exact this
      case measure => simp [intOf]; omega
    · obtain rfl : k = n := by omega
      have HR : Hid (Grid wr w.heap.size k k k (unit k) w) := Lib.hid ⟨h1, fun i hi => by have := h2 i hi; simp only [hi, if_true] at this; exact this, hb, hz⟩
      clear h1 h2 hb hz
      go_wp2
      go_ret
      exact ⟨rfl, HR.out⟩
end Go.Proofs.Ytoeeklkebcgmaaa
