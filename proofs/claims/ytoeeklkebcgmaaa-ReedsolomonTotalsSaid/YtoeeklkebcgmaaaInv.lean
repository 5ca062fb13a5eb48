/- Contracts of package matrix: Inverse of a matrix that has one. -/
import Derived.Test.YtoeeklkebcgmaaaElim4
namespace Go.Proofs.Ytoeeklkebcgmaaa
open Go.RowKit Gf

attribute [local go_sem] Gf.xor_bits Gf.and_bits Gf.or_bits Gf.ne_zero_iff Gf.eq_zero_iff Gf.eq_one_iff Gf.beq_bytes Gf.bne_bytes Gf.bv_toNat

theorem BS.drop {w : World} {g o N c : Nat} {l : List UInt8} (h : BS w (some ⟨g, o, none⟩) N c l) {k : Nat} (hk : k ≤ N) : BS w (some ⟨g, o + k, none⟩) (N - k) (c - k) (l.drop k) := by
  refine ⟨by rw [List.length_drop, h.1], by have := h.2.1; omega, by have := h.2.2.1; omega, fun i hi => ?_⟩
  obtain ⟨g', o', e, hc⟩ := h.2.2.2 (k + i) (by omega)
  injection e with e
  injection e with e1 e2
  subst e1 e2
  refine ⟨g, o + k, rfl, ?_⟩
  rw [Nat.add_assoc, hc]
  show some (B (gB l (k + i))) = some (B (gB (l.drop k) i))
  rw [gB, gB, List.getD_eq_getElem?_getD, List.getD_eq_getElem?_getD, List.getElem?_drop]

/-- The identity, and the inverse that elimination finds. -/
def idm (n : Nat) : List (List UInt8) := (List.range n).map (unit n)
theorem idm_length (n : Nat) : (idm n).length = n := by simp [idm]
theorem idm_get (n i : Nat) (h : i < n) : gR (idm n) i = unit n i := by
  rw [gR_eq (by rw [idm_length]; exact h)]; simp [idm]
theorem idm_rect (n : Nat) : Rect (idm n) n := fun i hi => by
  rw [idm_length] at hi
  rw [idm_get n i hi, unit_length]
def elimI (m : List (List UInt8)) (n : Nat) : List (List UInt8) × Nat := red (jmat m (idm n) n) n
def invrow (m : List (List UInt8)) (n i : Nat) : List UInt8 := (gR (elimI m n).1 i).drop n
def invpart (m : List (List UInt8)) (n k : Nat) : List (List UInt8) := (List.range n).map fun i => if i < k then invrow m n i else []
def invM (m : List (List UInt8)) (n : Nat) : List (List UInt8) := (List.range n).map (invrow m n)
theorem invpart_length (m : List (List UInt8)) (n k : Nat) : (invpart m n k).length = n := by simp [invpart]
theorem invpart_get (m : List (List UInt8)) (n k i : Nat) (h : i < n) : gR (invpart m n k) i = if i < k then invrow m n i else [] := by
  rw [gR_eq (by rw [invpart_length]; exact h)]; simp [invpart]
theorem invpart_all (m : List (List UInt8)) (n : Nat) : invpart m n n = invM m n := by
  apply List.ext_getElem (by simp [invpart, invM])
  intro i h1 h2
  have : i < n := by simpa [invpart] using h1
  simp [invpart, invM, this]
theorem invpart_set (m : List (List UInt8)) (n k : Nat) (_h : k < n) : (invpart m n k).set k (invrow m n k) = invpart m n (k + 1) := by
  apply List.ext_getElem (by simp [invpart])
  intro i h1 h2
  rw [List.getElem_set]
  simp only [invpart, List.getElem_map, List.getElem_range]
  by_cases e : k = i
  · subst e; simp
  · rw [if_neg e]
    by_cases e2 : i < k
    · rw [if_pos e2, if_pos (by omega)]
    · rw [if_neg e2, if_neg (by omega)]

def InvI (m : List (List UInt8)) (n k : Nat) (w2 wr : World) : Prop :=
  ∃ cs, RowsBlk wr w2.heap.size 22 cs (invpart m n k) ∧ Below w2.heap.size w2 wr

set_option maxHeartbeats 4000000 in
theorem inverse_any (A : Option Addr) (n c : Nat) (m : List (List UInt8)) (w : World) (h : MS w A n c m) (hm : Rect m n) (hn : 0 < n) (hn64 : n ≤ 64) (hreg : (elimI m n).2 = n) :
    Calls Try.prog 63 #[.slice A n c] w (Rets0 (NewM 22 (invM m n)) w) := by
  have HC := Lib.hid (ncols_eq hm (by rw [h.1]; exact hn))
  have HREG := Lib.hid hreg
  clear hreg
  have hmk := make_rows n (by omega)
  go_enter Try.func63, Try.ntmps63
  go_wp2_with fail
  refine (valid_any A n c m n _ h hm hn64 hn64).mono ?_
  rintro e w' ⟨rfl, rfl⟩
  go_wp2_with fail
  refine (columns_any A n c m _ h).mono ?_
  rintro e w' ⟨rfl, rfl⟩
  rw [HC.out]
  go_wp2_with fail
  refine (identity_any n _ hn64).mono ?_
  rintro e w1 ⟨rfl, hgrid⟩
  have hid : MS w1 (some ⟨w.heap.size, 0, none⟩) n n (idm n) :=
    (hgrid.rowsBlk (fun i _ => unit_length n i) (by unfold lim; omega)).toMS (idm_length n) (Nat.le_refl _) (by unfold lim; omega)
  have hb1 : Below w.heap.size w w1 := hgrid.2.2.1
  have hw1 := h.kept hb1
  clear hgrid
  go_wp2_with fail
  refine (eliminate_any A (some ⟨w.heap.size, 0, none⟩) n c n m (idm n) w1 hw1 hid hm (idm_rect n) hn hn64).mono ?_
  rintro e w2 ⟨ge, gr, cap, m2, np, Ap, cp, pr, cs, F, rfl, hred, hE, hR, hnp, hb2⟩
  obtain rfl : np = n := by
    have := HREG.out
    unfold elimI at this
    rw [hred] at this
    exact this
  have HM2 : Hid (m2 = (elimI m np).1) := Lib.hid (by unfold elimI; rw [hred])
  have ce := hE.rowsCell
  have cp2 := hE.pivCell
  have HE := Lib.hid hE
  have HB2 := Lib.hid (below_then hb1 hb2)
  have hgel := hE.1.lt
  clear hred hE hid hw1 hb1 hb2 hnp
  go_wp2_with fail
  clear hmk
  go_loopw [39] (fun i wr => ∃ k : Nat, k ≤ np ∧ i = .int .i64 (k : Int) ∧ InvI m np k w2 wr) (fun i _ => np - (intOf i).toNat)
  case atStart =>
    refine ⟨0, by omega, rfl, _, ⟨Blk.new _ _ _, by rw [invpart_length]; simp, fun i hi => ?_⟩, (Below.refl _ _).alloc (Nat.le_refl _) _⟩
    rw [invpart_length] at hi
    refine ⟨none, 0, 0, by simp [hi], ?_⟩
    rw [invpart_get _ _ _ _ hi, if_neg (by omega)]
    exact BS.nil
  case round =>
    obtain ⟨k, hk, rfl, cs', h1, hb⟩ := hrel
    by_cases hlt : k < np
    · have hE2 := HE.out.kept hb
      obtain ⟨A1, c1, hc1, hr1⟩ := hE2.row hR hlt
      obtain ⟨g1, o1, rfl, _⟩ := hr1.at_ (Below.refl _ _) (show 0 < np + np by omega)
      have hc2 := hr1.2.1
      have ec1 : ¬ c1 = np := by omega
      have HD : Hid (BS wr (some ⟨g1, o1 + np, none⟩) np (c1 - np) (invrow m np k)) := by
        have := hr1.drop (k := np) (by omega)
        rw [show np + np - np = np by omega, HM2.out] at this
        exact Lib.hid this
      have HO0 : Hid ((wr.alloc (.cells #[] 5)).ownsRow wr.heap.size 5 1 (.slice (some ⟨wr.heap.size, 0, none⟩) 0 0) 0 (([] : List UInt8).map B)) :=
        Lib.hid (World.ownsRow_lit wr #[] 0 (Nat.le_refl _) (by simp [maxLen]) rfl)
      have HD0 := Lib.hid (HD.out.kept (w' := wr.alloc (.cells #[] 5)) ((Below.refl _ _).alloc (Nat.le_refl _) _))
      obtain ⟨A0, n0, c0, hc0, _⟩ := h1.cell (i := k) (by rw [invpart_length]; exact hlt)
      have HB := Lib.hid hb
      have H1 := Lib.hid h1
      clear hb h1 hE2 hr1
      go_wp2_with (first
        | (at_builtin; refine wpList_appB _ rfl (.tmp 46) (.tmp 50) rfl wr.heap.size (.slice (some ⟨wr.heap.size, 0, none⟩) 0 0) 0 [] rfl HO0.out (some ⟨g1, o1 + np, none⟩) np (c1 - np) (invrow m np k) rfl HD0.out (by omega) (by simp) ?_; intro v1 w3 hp1; have hb3 : Below wr.heap.size wr w3 := ((Below.refl _ _).alloc (Nat.le_refl _) _).grown hp1.2.1 (by simp) (by simp [Value.ownBlock]); obtain ⟨A3, c3, rfl, hbs3⟩ := BS.of_own hp1.1 (by unfold lim; omega); rw [Nat.zero_add] at hbs3; have hc3 := cell_kept hb3 hc0; have hf3 := (H1.out.1.kept hb3).frozen k; have HB3 := Lib.hid hb3; have HBS3 := Lib.hid hbs3; clear hp1 hb3 hbs3))
      have HR : Hid (InvI m np (k + 1) w2 (w3.setCell ⟨w2.heap.size, k, none⟩ (.slice A3 np c3))) := by
        have h4 := (H1.out.kept HB3.out).set_ (i := k) (by rw [invpart_length]; exact hlt) HBS3.out
        rw [List.nil_append, invpart_set _ _ _ hlt] at h4
        exact Lib.hid ⟨_, h4, (below_thenB HB.out HB.out.size HB3.out).setCell (Nat.le_refl _) _⟩
      go_roundw
      case rel => exact ⟨k + 1, by omega, by go_num, HR.out⟩
      case measure => simp [intOf]; omega
    · obtain rfl : k = np := by omega
      have HR : Hid (NewM 22 (invM m k) w (.slice (some ⟨w2.heap.size, 0, none⟩) k k) wr) := by
        rw [invpart_all] at h1
        exact Lib.hid ⟨w2.heap.size, cs', k, rfl, by simp [invM], HB2.out.size, h1, below_then HB2.out hb⟩
      clear h1 hb
      go_wp2
      go_ret2
      exact ⟨_, rfl, HR.out⟩
end Go.Proofs.Ytoeeklkebcgmaaa
