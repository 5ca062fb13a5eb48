/- Contracts of package reedsolomon: Encode's refusals, predict, Repair, Coefficients. -/
import Derived.Test.YtoeeklkebcgmaaaRs6
namespace Go.Proofs.Ytoeeklkebcgmaaa
open Go.RowKit Gf

attribute [local go_sem] Gf.xor_bits Gf.and_bits Gf.or_bits Gf.ne_zero_iff Gf.eq_zero_iff Gf.eq_one_iff Gf.beq_bytes Gf.bne_bytes Gf.bv_toNat

theorem gR_take {m : List (List UInt8)} {k j : Nat} (h : j < k) : gR (m.take k) j = gR m j := by
  unfold gR; rw [List.getD_eq_getElem?_getD, List.getD_eq_getElem?_getD, List.getElem?_take_of_lt h]
theorem MS.take {w : World} {A : Option Addr} {n c k : Nat} {m : List (List UInt8)} (h : MS w A n c m) (hk : k ≤ n) : MS w A k c (m.take k) :=
  ⟨by rw [List.length_take, h.1]; omega, Nat.le_trans hk h.2.1, by have := h.2.2.1; omega, fun j hj => by
    obtain ⟨g, o, A', n', c', e, hc, hb⟩ := h.2.2.2 j (by omega)
    exact ⟨g, o, A', n', c', e, hc, by rw [gR_take hj]; exact hb⟩⟩
theorem Rect.take {m : List (List UInt8)} {L : Nat} (h : Rect m L) (k : Nat) : Rect (m.take k) L := fun i hi => by
  rw [List.length_take] at hi
  rw [gR_take (by omega)]
  exact h i (by omega)

/-- The sum of the first pieces with factors l. -/
def prd (m : List (List UInt8)) (l : List UInt8) (L : Nat) : List UInt8 := gR (cmat [l] (m.take l.length) L 1 0) 0

set_option maxHeartbeats 4000000 in
theorem predict_any (A A' : Option Addr) (n c n' c' : Nat) (m : List (List UInt8)) (l : List UInt8) (L : Nat) (w : World) (h : MS w A n c m) (h' : BS w A' n' c' l) (hr : Rect m L) (hL : L ≤ 65536) (hn' : 0 < n') (hn8 : n' ≤ 64) (hnn : n' ≤ n) :
    Calls Try.prog 48 #[.slice A n c, .slice A' n' c'] w (Rets (GivesB (prd m l L)) w) := by
  have hlen := h.len_le
  have hc := h.2.1
  obtain ⟨g, o, _, _, _, rfl, _⟩ := h.at_ (Below.refl _ _) (show 0 < n by omega)
  have q1 : (n' : Int) ≤ (c : Int) := by omega
  have HL := Lib.hid h'.1
  have hbA : Below w.heap.size w (w.alloc (.cells #[.slice A' n' c'] 22)) := (Below.refl _ _).alloc (Nat.le_refl _) _
  have HM := Lib.hid ((h.take hnn).kept hbA)
  have HF : Hid (MS (w.alloc (.cells #[.slice A' n' c'] 22)) (some ⟨w.heap.size, 0, none⟩) 1 1 [l]) := Lib.hid ⟨rfl, Nat.le_refl _, by unfold lim; omega, fun k hk => by
    obtain rfl : k = 0 := by omega
    exact ⟨w.heap.size, 0, A', n', c', rfl, by rw [(Blk.new w _ _).cell]; rfl, h'.kept hbA⟩⟩
  have HB := Lib.hid hbA
  clear hbA h h'
  go_enter Try.func48, Try.ntmps48
  go_wp2_with fail
  refine (apply_any _ _ 1 n' 1 c [l] (m.take n') L _ HF.out HM.out (fun i hi => by
    obtain rfl : i = 0 := by simp at hi; omega
    exact HL.out) (hr.take _) (by omega) (by omega) (by omega) (by omega) (by omega)).mono ?_
  rintro e w2 ⟨v, rfl, g2, cs, n2, rfl, hn2, hg, hr2, hb2⟩
  obtain rfl : n2 = 1 := by rw [← hn2, cmat_length]; rfl
  obtain ⟨A3, k3, c3, hc3, hbs⟩ := hr2.cell (i := 0) (by rw [cmat_length]; simp)
  have HR : Hid (GivesB (prd m l L) w (.slice A3 k3 c3) w2) := Lib.hid ⟨A3, k3, c3, rfl, by unfold prd; rw [HL.out]; exact hbs, below_then HB.out hb2⟩
  clear hr2 hbs hn2 hg hb2 HF HM
  go_wp2_with fail
  go_ret
  exact ⟨_, rfl, HR.out⟩

theorem facM_rect {d : Nat} {z y : List Nat} (h : d ≤ z.length) : Rect (facM d z y) d := by
  intro i hi
  rw [facM_length] at hi
  unfold facM
  rw [cmat_get _ _ _ _ _ _ (by rw [ofM_length]; exact hi)]
  exact crow_length _ _ _ _ _ _ (invT_rect h) (by rw [invT_length]; exact ofM_rect _ _) (by rw [ofM_length]; exact hi) (by omega)

/-- The factors of one piece. -/
def fac1 (d : Nat) (z : List Nat) (i : Nat) : List UInt8 := gR (facM d z [i]) 0
theorem fac1_length {d : Nat} {z : List Nat} {i : Nat} (h : d ≤ z.length) : (fac1 d z i).length = d := facM_rect h 0 (by rw [facM_length]; simp)

theorem one_int (w : World) (i : Nat) : IS (w.alloc (.cells #[.int .i64 (i : Int)] 3)) (some ⟨w.heap.size, 0, none⟩) 1 1 (ints [i]) := ⟨rfl, Nat.le_refl _, by unfold lim; omega, fun k hk => by
    obtain rfl : k = 0 := by omega
    exact ⟨w.heap.size, 0, rfl, by rw [(Blk.new w _ _).cell]; rfl⟩⟩

set_option maxHeartbeats 4000000 in
theorem repair_ok (d t i : Nat) (A A' : Option Addr) (n c c' : Nat) (z : List Nat) (m : List (List UInt8)) (L : Nat) (w : World) (h : IS w A n c (ints z)) (h' : MS w A' n c' m)
    (hok : gvE d t (ints z) m = 0) (hd : 1 ≤ d) (hd8 : d ≤ 8) (ht : t ≤ 16) (hi : i < t) (hz : ∀ i, i < n → gN z i < 16) (hn : d ≤ n) (hrect : Rect m L) (hL : L ≤ 65536) (hreg : Reg d z) :
    Calls Try.prog 28 #[.int .i64 (d : Int), .int .i64 (t : Int), .slice A n c, .slice A' n c', .int .i64 (i : Int)] w (Rets0 (GivesB (prd m (fac1 d z i) L)) w) := by
  have q1 : decide ((i : Int) < 0) = false := by simp
  have q2 : decide ((t : Int) ≤ (i : Int)) = false := by simp; omega
  have HZ : Hid (z.length = n) := Lib.hid (by rw [← ints_length, h.1])
  have HI := Lib.hid h
  have HM := Lib.hid h'
  clear h h'
  go_enter Try.func28, Try.ntmps28
  go_wp2_with fail
  refine (checkGiven_any d t A A' n c n c' (ints z) m w HI.out HM.out).mono ?_
  rintro e w1 ⟨rfl, hb1⟩
  rw [hok]
  go_wp2_with fail
  refine (newTable_any d _ hd8).mono ?_
  rintro e w2 ⟨rfl, htab, hb2⟩
  go_wp2_with fail
  have hbA : Below w2.heap.size w2 (w2.alloc (.cells #[.int .i64 (i : Int)] 3)) := (Below.refl _ _).alloc (Nat.le_refl _) _
  refine (factors_any w1.heap.size d A _ n 1 c 1 z [i] _ (htab.kept hbA) hd8 hd (((HI.out.kept hb1).kept hb2).kept hbA) hz hn (one_int w2 i) (fun k hk => by
    obtain rfl : k = 0 := by omega
    show i < 16
    omega) (by omega) (by omega) hreg).mono ?_
  rintro e w3 ⟨v, rfl, g3, cs3, n3, rfl, hn3, hg3, hr3, hb3⟩
  obtain rfl : n3 = 1 := by rw [← hn3, facM_length]; rfl
  obtain ⟨A4, k4, c4, hc4, hbs⟩ := hr3.cell (i := 0) (by rw [facM_length]; simp)
  obtain rfl : k4 = d := by rw [← hbs.1]; exact fac1_length (by rw [HZ.out]; exact hn)
  have HM3 := Lib.hid ((((HM.out.kept hb1).kept hb2).kept hbA).kept hb3)
  have HBS := Lib.hid hbs
  have HB : Hid (Below w.heap.size w w3) := Lib.hid (below_then (below_then (below_then hb1 hb2) hbA) hb3)
  clear hn3 hr3 hbs hb1 hb2 hbA hb3 htab hg3 HI HM
  go_wp2_with fail
  refine (predict_any A' A4 n c' k4 c4 m (fac1 k4 z i) L w3 HM3.out HBS.out hrect hL (by omega) (by omega) (by omega)).mono ?_
  rintro e w4 ⟨v4, rfl, A5, n5, c5, rfl, hbs5, hb5⟩
  have HR : Hid (GivesB (prd m (fac1 k4 z i) L) w (.slice A5 n5 c5) w4) := Lib.hid ⟨A5, n5, c5, rfl, hbs5, below_then HB.out hb5⟩
  clear hbs5 hb5 HM3 HBS
  go_wp2_with fail
  go_ret2
  exact ⟨_, rfl, HR.out⟩
end Go.Proofs.Ytoeeklkebcgmaaa
