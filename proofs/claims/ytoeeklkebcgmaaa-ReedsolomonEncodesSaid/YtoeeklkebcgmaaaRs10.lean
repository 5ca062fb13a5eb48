/- Contracts of package reedsolomon: Reconstruct. -/
import Derived.Test.YtoeeklkebcgmaaaRs9
namespace Go.Proofs.Ytoeeklkebcgmaaa
open Go.RowKit Gf

attribute [local go_sem] Gf.xor_bits Gf.and_bits Gf.or_bits Gf.ne_zero_iff Gf.eq_zero_iff Gf.eq_one_iff Gf.beq_bytes Gf.bne_bytes Gf.bv_toNat

/-- The blocks that the first d pieces determine. -/
def recM (d : Nat) (z : List Nat) (m : List (List UInt8)) (L : Nat) : List (List UInt8) := cmat (invT d z) (m.take d) L d 0

set_option maxHeartbeats 4000000 in
theorem reconstruct_ok (d t : Nat) (A A' : Option Addr) (n c c' : Nat) (z : List Nat) (m : List (List UInt8)) (L : Nat) (w : World) (h : IS w A n c (ints z)) (h' : MS w A' n c' m)
    (hok : gvE d t (ints z) m = 0) (hd : 1 ≤ d) (hd8 : d ≤ 8) (hz : ∀ i, i < n → gN z i < 16) (hn : d ≤ n) (hrect : Rect m L) (hL : L ≤ 65536) (hreg : Reg d z) :
    Calls Try.prog 24 #[.int .i64 (d : Int), .int .i64 (t : Int), .slice A n c, .slice A' n c'] w (Rets0 (NewM 22 (recM d z m L)) w) := by
  have HZ : Hid (z.length = n) := Lib.hid (by rw [← ints_length, h.1])
  have hlen := h'.len_le
  have hcc := h'.2.1
  have qc : (d : Int) ≤ (c' : Int) := by omega
  obtain ⟨g, o, _, _, _, rfl, _⟩ := h'.at_ (Below.refl _ _) (show 0 < n by omega)
  have HI := Lib.hid h
  have HM := Lib.hid h'
  clear h h'
  go_enter Try.func24, Try.ntmps24
  go_wp2_with fail
  refine (checkGiven_any d t A _ n c n c' (ints z) m w HI.out HM.out).mono ?_
  rintro e w1 ⟨rfl, hb1⟩
  rw [hok]
  go_wp2_with fail
  refine Text.wp_region_text (fun _ => True) [(0, 4), (2, 4), (4, 4), (5, 4), (6, 4), (1, 2), (3, 2), (7, 2), (8, 4), (9, 4), (10, 4), (11, 4)] (by kernel_rfl) (by kernel_rfl) (fun _ _ _ _ _ h => h) (trivial) ?_
  iterate 5 (refine Text.purek rfl rfl (fun K hK => ⟨_, fun w' => by go_simp <;> rfl, ?_⟩); go_simp; refine hK _ ?_; clear hK K)
  refine Text.eff rfl rfl (fun K hK => ?_)
  go_simp
  refine (newTable_any d _ hd8).mono ?_
  rintro e w2 ⟨rfl, htab, hb2'⟩
  have hb2 : Below w1.heap.size w1 w2 := below_ofDrew hb2'
  refine hK _ _ trivial ?_
  clear hK K
  refine Text.eff rfl rfl (fun K hK => ?_)
  go_simp
  refine (inverse_t w1.heap.size d A n c z w2 htab hd8 hd ((HI.out.kept hb1).kept hb2) hz hn hreg).mono ?_
  rintro e w3 ⟨v3, rfl, hv3⟩
  obtain ⟨g3, n3, rfl, hn3, hms3, hb3⟩ := hv3.ms (by rw [invT_length]; unfold lim; omega)
  obtain rfl : n3 = d := by rw [← hn3, invT_length]
  refine hK _ _ trivial ?_
  clear hK K hv3 hn3
  refine Text.eff rfl rfl (fun K hK => ?_)
  go_simp
  refine (apply_any _ _ n3 n3 n3 c' (invT n3 z) (m.take n3) L w3 hms3 ((((HM.out.kept hb1).kept hb2).kept hb3).take hn) (invT_rect (by rw [HZ.out]; exact hn)) (hrect.take _) (by omega) (by omega) (by omega) (by omega) (by omega)).mono ?_
  rintro e w9 ⟨v9, rfl, g9, cs9, n9, rfl, hn9, hg9, hr9, hb9⟩
  have HR : Hid (NewM 22 (recM n3 z m L) w (.slice (some ⟨g9, 0, none⟩) n9 n9) w9) :=
    Lib.hid ⟨g9, cs9, n9, rfl, hn9, Nat.le_trans hb1.size (Nat.le_trans hb2.size (Nat.le_trans hb3.size hg9)), hr9, below_then (below_then (below_then hb1 hb2) hb3) hb9⟩
  refine hK _ _ trivial ?_
  clear hK K hms3 hn9 hr9 hb9 hb3 hb2 hb1 hb2' htab
  iterate 4 (refine Text.purek rfl rfl (fun K hK => ⟨_, fun w' => by go_simp <;> rfl, ?_⟩); go_simp; refine hK _ ?_; clear hK K)
  refine Text.done ?_
  go_wp2_with fail
  go_ret2
  exact ⟨_, rfl, HR.out⟩
end Go.Proofs.Ytoeeklkebcgmaaa
