/- Several texts in one: Rf3, Rf4, Rf5, Rs8, Rs9, Rs10, Rs11, Bits, Rs12, Rs13, Sort, Rs14, Ctx. -/
import Derived.Test.YtfcakjpljjnjnaaGreatDoorC33
import Derived.Test.YtfcakjpljjnjnaaGreatDoorC5
import Derived.Test.YtfcakjpljjnjnaaGreatDoorC8
import Derived.Test.YtfcakjpljjnjnaaGreatDoorShelf
import Derived.Sort.OwnSortedInts
/- Contracts of the references kinkeepref04: Same, Ints. -/
namespace Go.Proofs.YtfcakjpljjnjnaaGreatDoor
open Go.RowKit Gf

end Go.Proofs.YtfcakjpljjnjnaaGreatDoor
/- Contracts of kinkeeplaw08.few and kinkeepref08.Blocks. -/
namespace Go.Proofs.YtfcakjpljjnjnaaGreatDoor
open Go.RowKit Gf

end Go.Proofs.YtfcakjpljjnjnaaGreatDoor
/- Contracts of the references kinkeepref08: Piece, Encode; and that they are what the program computes. -/
namespace Go.Proofs.YtfcakjpljjnjnaaGreatDoor
open Go.RowKit Gf

attribute [local go_sem] Gf.xor_bits Gf.and_bits Gf.or_bits Gf.ne_zero_iff Gf.eq_zero_iff Gf.eq_one_iff Gf.beq_bytes Gf.bne_bytes Gf.bv_toNat

/-- The sum of the first k products at place i. -/
def xs1 (r : List UInt8) (m : List (List UInt8)) (i : Nat) : Nat → UInt8
 | 0 => 0
 | k + 1 => xs1 r m i k ^^^ mul (gB r k) (gB (gR m k) i)
def pcR (r : List UInt8) (m : List (List UInt8)) (L : Nat) : List UInt8 := (List.range L).map fun i => xs1 r m i m.length
def ppart (r : List UInt8) (m : List (List UInt8)) (L j k : Nat) : List UInt8 := (List.range L).map fun i => if i < j then xs1 r m i m.length else if i = j then xs1 r m i k else 0
theorem pcR_length (r : List UInt8) (m : List (List UInt8)) (L : Nat) : (pcR r m L).length = L := by simp [pcR]
theorem ppart_length (r : List UInt8) (m : List (List UInt8)) (L j k : Nat) : (ppart r m L j k).length = L := by simp [ppart]
theorem ppart_zero (r : List UInt8) (m : List (List UInt8)) (L : Nat) : ppart r m L 0 0 = zeros L := by
 apply List.ext_getElem (by simp [ppart, zeros])
 intro i h1 h2
 simp [ppart, zeros, xs1]
theorem ppart_all (r : List UInt8) (m : List (List UInt8)) (L : Nat) : ppart r m L L 0 = pcR r m L := by
 unfold ppart pcR
 apply List.map_congr_left
 intro i hi; rw [if_pos (List.mem_range.1 hi)]
theorem ppart_next (r : List UInt8) (m : List (List UInt8)) (L j : Nat) : ppart r m L j m.length = ppart r m L (j + 1) 0 := by
 unfold ppart
 apply List.map_congr_left
 intro i hi
 by_cases h1 : i < j
 ·
  rw [if_pos h1, if_pos (by omega)]
 ·
  rw [if_neg h1]
  by_cases h2 : i = j
  ·
   rw [if_pos h2, if_pos (by omega)]
  ·
   rw [if_neg h2, if_neg (by omega)]; split <;> rfl
theorem ppart_get (r : List UInt8) (m : List (List UInt8)) (L j k : Nat) (h : j < L) : gB (ppart r m L j k) j = xs1 r m j k := by
 rw [gB_eq (by rw [ppart_length]; exact h)]; simp [ppart]
theorem ppart_set (r : List UInt8) (m : List (List UInt8)) (L j k : Nat) : (ppart r m L j k).set j (xs1 r m j (k + 1)) = ppart r m L j (k + 1) := by
 apply List.ext_getElem (by simp [ppart])
 intro i h1 h2
 rw [List.getElem_set]
 simp only [ppart, List.getElem_map, List.getElem_range]
 by_cases e : j = i
 ·
  subst e; simp
 ·
  rw [if_neg e]
  by_cases h3 : i < j
  ·
   rw [if_pos h3, if_pos h3]
  ·
   rw [if_neg h3, if_neg (fun e' => e e'.symm), if_neg h3, if_neg (fun e' => e e'.symm)]

def PcI (r : List UInt8) (m : List (List UInt8)) (L j k g gr : Nat) (w wr : World) : Prop :=
 Blk wr g 5 (row (ppart r m L j k)) ∧ Blk wr gr 5 (row r) ∧ Below w.heap.size w wr

set_option maxRecDepth 100000 in
set_option maxHeartbeats 2000000 in
theorem e8rpiece_any (d i : Nat) (A : Option Addr) (n c : Nat) (m : List (List UInt8)) (L : Nat) (w : World) (h : MS w A n c m) (hr : Rect m L) (hn : 0 < n) (hnd : n ≤ d) (hd8 : d ≤ 8) (hi : i < 16) :
  Calls Tryz.prog 124 #[.int .i64 (d : Int), .int .i64 (i : Int), .slice A n c] w (Rets (NewB 5 (pcR (crw d i) m L)) w) := by
 have HLm := Lib.hid h.1
 have HM := Lib.hid h
 have HRC := Lib.hid hr
 clear h hr
 go_enter Tryz.func124, Tryz.ntmps124
 go_wp2_with fail
 refine (rrow_any d i w hd8 hi).mono ?_
 rintro e w1 ⟨rfl, hk1, hb1⟩
 obtain ⟨g0, o0, A0, n0, c0, rfl, hc0, hr0⟩ := HM.out.at_ hb1 hn
 obtain rfl : n0 = L := by rw [← hr0.1]; exact HRC.out 0 (by rw [HLm.out]; exact hn)
 rw [Nat.add_zero] at hc0
 have hL := hr0.len_le
 have hmk := make_bytes n0 hL
 have HK1 := Lib.hid hk1
 have HB1 := Lib.hid hb1
 clear hk1 hb1 hr0
 go_wp2_with fail
 clear hmk
 obtain ⟨g, hg⟩ : ∃ g, g = w1.heap.size := ⟨_, rfl⟩
 have HGR : Hid (w.heap.size ≠ g ∧ w.heap.size ≤ g) := Lib.hid (by have := HK1.out.lt; have := HB1.out.size; omega)
 have HI : Hid (PcI (crw d i) m n0 0 0 g w.heap.size w (w1.alloc (.cells (row (zeros n0)) 5))) := Lib.hid ⟨by rw [ppart_zero, hg]; exact Blk.new w1 _ _, HK1.out.alloc _, HB1.out.alloc HB1.out.size _⟩
 rw [← hg]
 clear hg HK1 HB1
 go_loopw [9] (fun x wr => ∃ j : Nat, j ≤ n0 ∧ x = .int .i64 (j : Int) ∧ Hid (PcI (crw d i) m n0 j 0 g w.heap.size w wr)) (fun x _ => n0 - (intOf x).toNat)
 case atStart => exact ⟨0, by omega, rfl, HI⟩
 case round =>
  obtain ⟨j, hj, rfl, hI⟩ := hrel
  by_cases hlt : j < n0
  ·
   go_wp2_with fail
   obtain ⟨wo, rfl⟩ : ∃ wo : World, wo = wr := ⟨_, rfl⟩
   go_loopw [10] (fun x wr => ∃ k : Nat, k ≤ n ∧ x = .int .i64 (k : Int) ∧ Hid (PcI (crw d i) m n0 j k g w.heap.size w wr)) (fun x _ => n - (intOf x).toNat)
   case atStart => exact ⟨0, by omega, rfl, hI⟩
   case round =>
    obtain ⟨k, hk, rfl, hI2⟩ := hrel
    by_cases hkn : k < n
    ·
     obtain ⟨h1, h2, hb⟩ := hI2.out
     obtain ⟨g2, o2, A2, n2, c2, e2, hc2, hr2⟩ := HM.out.at_ hb hkn
     injection e2 with e2
     injection e2 with e21 e22
     subst e21 e22
     obtain rfl : n2 = n0 := by rw [← hr2.1]; exact HRC.out k (by rw [HLm.out]; exact hkn)
     obtain ⟨g3, o3, rfl, hc3⟩ := hr2.at_ (Below.refl _ _) hlt
     have x1 : wr.cell? ⟨g, j, none⟩ = some (B (xs1 (crw d i) m j k)) := by
      rw [h1.cell, row_get _ _ (by rw [ppart_length]; exact hlt), ppart_get _ _ _ _ _ hlt]
     have x2 := h1.frozen j
     have x3 : wr.cell? ⟨w.heap.size, k, none⟩ = some (B (gB (crw d i) k)) := by
      rw [h2.cell]; exact row_get _ _ (by rw [crw_length]; omega)
     have hkd : (k : Int) < (d : Int) := by omega
     have HR : Hid (PcI (crw d i) m n2 j (k + 1) g w.heap.size w (wr.setCell ⟨g, j, none⟩ (B (xs1 (crw d i) m j k ^^^ mul (gB (crw d i) k) (gB (gR m k) j))))) := by
      have h3 := h1.set_ j (B (xs1 (crw d i) m j (k + 1)))
      rw [row_set, ppart_set] at h3
      exact Lib.hid ⟨h3, h2.far HGR.out.1 _, hb.setCell (p := ⟨g, j, none⟩) HGR.out.2 _⟩
     obtain ⟨xa, hxa⟩ : ∃ xa, xa = xs1 (crw d i) m j k := ⟨_, rfl⟩
     obtain ⟨xb, hxb⟩ : ∃ xb, xb = gB (crw d i) k := ⟨_, rfl⟩
     obtain ⟨xc, hxc⟩ : ∃ xc, xc = gB (gR m k) j := ⟨_, rfl⟩
     rw [← hxa] at x1 HR
     rw [← hxb] at x3 HR
     rw [← hxc] at hc3 HR
     clear h1 h2 hb hr2 hI2 hxa hxb hxc hI
     go_wp2_with fail
     refine Text.wp_region_text (fun _ => True) [(0, 4), (1, 4), (2, 4), (3, 4), (4, 4), (6, 4), (7, 4), (8, 4), (10, 4), (11, 4), (12, 4), (14, 4), (5, 1), (9, 1), (13, 1), (15, 4), (16, 1), (17, 1), (18, 4), (19, 4), (20, 2)] (by kernel_rfl) (by kernel_rfl) (fun _ _ _ _ _ h => h) (trivial) ?_
     iterate 12 (refine Text.purek rfl rfl (fun K hK => ⟨_, fun w' => by go_simp <;> rfl, ?_⟩); go_simp; refine hK _ ?_; clear hK K)
     iterate 3 (refine Text.readk rfl rfl (fun K hK => ⟨_, by go_simp <;> rfl, ?_⟩); go_simp; refine hK _ ?_; clear hK K)
     (refine Text.purek rfl rfl (fun K hK => ⟨_, fun w' => by go_simp <;> rfl, ?_⟩); go_simp; refine hK _ ?_; clear hK K)
     (refine Text.readk rfl rfl (fun K hK => ⟨_, by go_simp <;> rfl, ?_⟩); go_simp; refine hK _ ?_; clear hK K)
     refine Text.quietk rfl rfl (fun K hK => ?_)
     refine ⟨_, _, _, by go_simp <;> rfl, rmul_any xb xc _, ?_⟩
     go_simp
     refine hK _ ?_
     clear hK K
     iterate 2 (refine Text.purek rfl rfl (fun K hK => ⟨_, fun w' => by go_simp <;> rfl, ?_⟩); go_simp; refine hK _ ?_; clear hK K)
     refine Text.eff rfl rfl (fun K hK => ?_)
     go_simp
     refine hK _ _ trivial ?_
     clear hK K
     refine Text.done ?_
     go_wp2_with fail
     go_roundw
     case rel => exact ⟨k + 1, by omega, by go_num, Lib.hid ⟨HR.out.1.drew, HR.out.2.1.drew, HR.out.2.2.drew⟩⟩
     case measure => simp [intOf]; omega
    ·
     obtain rfl : k = n := by omega
     have HR : Hid (PcI (crw d i) m n0 (j + 1) 0 g w.heap.size w wr) := Lib.hid (by rw [PcI, ← ppart_next, HLm.out]; exact hI2.out)
     clear hI2 hI
     go_wp2_with fail
     go_roundw
     case rel => exact ⟨j + 1, by omega, by go_num, HR⟩
     case measure => simp [intOf]; omega
  ·
   obtain rfl : j = n0 := by omega
   have HR : Hid (NewB 5 (pcR (crw d i) m j) w (.slice (some ⟨g, 0, none⟩) j j) wr) := Lib.hid ⟨g, j, rfl, pcR_length _ _ _, HGR.out.2, by rw [← ppart_all]; exact hI.out.1, hI.out.2.2⟩
   clear hI
   go_wp2_with fail
   go_ret
   exact ⟨_, rfl, HR.out⟩

def rencM (d t : Nat) (m : List (List UInt8)) (L : Nat) : List (List UInt8) := (List.range t).map fun i => pcR (crw d i) m L
theorem rencM_succ (d t : Nat) (m : List (List UInt8)) (L : Nat) : rencM d (t + 1) m L = rencM d t m L ++ [pcR (crw d t) m L] := by simp [rencM, List.range_succ]

set_option maxRecDepth 100000 in
set_option maxHeartbeats 2000000 in
theorem rencode_any (d t : Nat) (A : Option Addr) (n c : Nat) (m : List (List UInt8)) (L : Nat) (w : World) (h : MS w A n c m) (hr : Rect m L) (hL : 0 < L) (hn : 0 < n) (hnd : n ≤ d) (hd8 : d ≤ 8) (ht : t ≤ 16) :
  Calls Tryz.prog 84 #[.int .i64 (d : Int), .int .i64 (t : Int), .slice A n c] w fun e w' => ∃ v, e = .returned v ∧ OwnM w' w.heap.size v t (rencM d t m L) ∧ Below w.heap.size w w' := by
 have HM := Lib.hid h
 have HRC := Lib.hid hr
 clear h hr
 have ht16 : (t : Int) ≤ 16 := by omega
 go_enter Tryz.func84, Tryz.ntmps84
 go_wp2_with fail
 have HO : Hid (OwnM (w.alloc (.cells #[] 39)) w.heap.size (.slice (some ⟨w.heap.size, 0, none⟩) 0 0) 0 (rencM d 0 m L)) := Lib.hid ⟨rfl, [], World.ownsRow_lit w #[] 0 (Nat.le_refl _) (by simp [maxLen]) rfl, fun j hj => absurd hj (by omega)⟩
 go_loopw [7, 8] (fun v i wr => ∃ k : Nat, k ≤ t ∧ i = .int .i64 (k : Int) ∧ Hid (OwnM wr w.heap.size v k (rencM d k m L)) ∧ Hid (Below w.heap.size w wr)) (fun _ i _ => t - (intOf i).toNat)
 case atStart => exact ⟨0, by omega, rfl, HO, Lib.hid ((Below.refl _ _).alloc (Nat.le_refl _) _)⟩
 case round =>
  obtain ⟨k, hk, rfl, ho, hb⟩ := hrel
  by_cases hlt : k < t
  ·
   go_wp2_with fail
   refine (e8rpiece_any d k A n c m L wr (HM.out.kept hb.out) HRC.out hn hnd hd8 (by omega)).mono ?_
   rintro e w1 ⟨v1, rfl, g1, n1, rfl, hn1, hg1, hk1, hb1⟩
   obtain rfl : n1 = L := by rw [← hn1, pcR_length]
   have HBS : Hid (BS w1 (some ⟨g1, 0, none⟩) n1 n1 (pcR (crw d k) m n1)) := Lib.hid (BS.of_blk hk1 hn1 (by
    obtain ⟨_, _, _, _, _, _, _, hr0⟩ := HM.out.at_ (Below.refl _ _) hn
    have h1 := hr0.len_le
    have h2 := hr0.1
    rw [HRC.out 0 (by have := HM.out.1; omega)] at h2
    unfold lim; omega))
   obtain ⟨hm, ps, hown, hps⟩ := ho.out
   obtain ⟨wA, hwA⟩ : ∃ wA, wA = w1.alloc (.cells #[.slice (some ⟨g1, 0, none⟩) n1 n1] 39) := ⟨_, rfl⟩
   have hbA : Below wr.heap.size wr wA := by rw [hwA]; exact hb1.alloc hb1.size _
   have hbA1 : Below w1.heap.size w1 wA := by rw [hwA]; exact (Below.refl _ _).alloc (Nat.le_refl _) _
   have HOW := Lib.hid (Kp.own (S := fun _ => False) (Kp.of_below hbA) hown (fun _ _ => id))
   have HKA : Hid (Blk wA w1.heap.size 39 #[.slice (some ⟨g1, 0, none⟩) n1 n1]) := Lib.hid (by rw [hwA]; exact Blk.new _ _ _)
   have HSA : Hid (w.heap.size ≤ wA.heap.size) := Lib.hid (Nat.le_trans hb.out.size hbA.size)
   have HBA := Lib.hid hbA
   have HBA1 := Lib.hid hbA1
   have HM' := Lib.hid hm
   have HPS := Lib.hid hps
   have HOWN := Lib.hid hown
   have HG1 := Lib.hid hg1
   have HWA := Lib.hid hwA
   clear hm hown hps hn1 hg1 hk1 hb1 hbA hbA1 hwA
   go_wp2_with (first
    | (at_builtin; rw [← HWA.out]; refine wpList_app1 wA rfl (.tmp 15) (.tmp 20) 45 39 (.slice none 0 0) 24 Tryz.underlying45 infoBytes rfl rfl w.heap.size u7 k ps rfl HOW.out w1.heap.size 1 39 (.slice (some ⟨g1, 0, none⟩) n1 n1) rfl HKA.out rfl (by omega) (by omega) HSA.out ?_; intro v4 w4 hp4))
   have HR : Hid (OwnM w4 w.heap.size v4 (k + 1) (rencM d (k + 1) m n1) ∧ Below w.heap.size w w4) := by
    have hpl : ps.length = k := by have := HOWN.out.1; simpa using this
    have h5 := OwnM.push HSA.out HM'.out (fun j hj => by
     obtain ⟨A', k', c', p1, p2, p3, p4⟩ := HPS.out j hj
     exact ⟨A', k', c', p1, p2.kept HBA.out, p3, p4⟩) hpl (HBS.out.kept HBA1.out) hL (fun g' o' e e' => by
      injection e with e
      injection e with e
      have := HOWN.out.lt g' e'
      have := HG1.out
      omega) hp4
    rw [← rencM_succ] at h5
    exact Lib.hid ⟨h5, (below_thenB hb.out hb.out.size HBA.out).grown hp4.2.1 HSA.out (fun b hb' => own_base HOWN.out b hb')⟩
   clear hp4
   go_roundw
   case rel => exact ⟨k + 1, by omega, by go_num, Lib.hid HR.out.1, Lib.hid HR.out.2⟩
   case measure => simp [intOf]; omega
  ·
   obtain rfl : k = t := by omega
   go_wp2_with fail
   go_ret
   exact ⟨_, rfl, ho.out, hb.out⟩

/-! The program's sums are the reference's. -/
theorem muladd_get {dst src : List UInt8} {c : UInt8} {i : Nat} (h : dst.length = src.length) (hi : i < src.length) : gB (muladd dst src c) i = mul c (gB src i) ^^^ gB dst i := by
 rw [gB_eq (by rw [muladd_length _ _ _ h]; exact hi), gB_eq hi, gB_eq (by omega)]
 simp [muladd]
theorem comb_get {r : List UInt8} {m : List (List UInt8)} {L : Nat} (hr : Rect m L) {i : Nat} (hi : i < L) : ∀ k, k ≤ m.length → gB (comb r m L k) i = xs1 r m i k
 | 0, _ => by rw [comb, gB_eq (by rw [zeros_length]; exact hi)]; simp [zeros, xs1]
 | k + 1, hk => by
  have ih := comb_get (r := r) hr hi k (by omega)
  have hl := comb_length r m L hr k (by omega)
  have hm : (gR m k).length = L := hr k (by omega)
  simp only [comb, xs1]
  by_cases e : gB r k = 0
  ·
   rw [if_pos e, e, zero_mul, ih]; simp
  ·
   rw [if_neg e, muladd_get (by rw [hl, hm]) (by rw [hm]; exact hi), ih, xor_comm]
theorem comb_pcR {r : List UInt8} {m : List (List UInt8)} {L : Nat} (hr : Rect m L) : comb r m L m.length = pcR r m L := by
 apply List.ext_getElem (by rw [comb_length r m L hr _ (Nat.le_refl _), pcR_length])
 intro i h1 h2
 rw [pcR_length] at h2
 have := comb_get (r := r) hr h2 m.length (Nat.le_refl _)
 rw [gB_eq h1] at this
 rw [this]
 simp [pcR]
theorem encM_eq {d t : Nat} {blocks : List (List UInt8)} {L : Nat} (hr : Rect blocks L) (hn : blocks.length ≤ d) : encM d t blocks L = rencM d t (fillB blocks L d) L := by
 have hR := fillB_rect blocks L d hr hn
 have hl := fillB_length blocks L d hn
 unfold encM rencM cmat
 rw [show (ofM d (List.range t)).length = t by simp [ofM]]
 apply List.map_congr_left
 intro i hi
 have hi' := List.mem_range.1 hi
 have hg : gR (ofM d (List.range t)) i = crw d i := by rw [gR_eq (by simp [ofM]; exact hi')]; simp [ofM]
 rw [crow, if_pos hi', hg, crw_length]
 have := comb_pcR (r := crw d i) hR
 rwa [hl] at this
end Go.Proofs.YtfcakjpljjnjnaaGreatDoor
/- Contracts of package reedsolomon: conflict. -/
namespace Go.Proofs.YtfcakjpljjnjnaaGreatDoor
open Go.RowKit Gf

attribute [local go_sem] Gf.xor_bits Gf.and_bits Gf.or_bits Gf.ne_zero_iff Gf.eq_zero_iff Gf.eq_one_iff Gf.beq_bytes Gf.bne_bytes Gf.bv_toNat

end Go.Proofs.YtfcakjpljjnjnaaGreatDoor
/- Contracts of package reedsolomon: the refusals of Encode, Repair, Coefficients. -/
namespace Go.Proofs.YtfcakjpljjnjnaaGreatDoor
open Go.RowKit Gf

attribute [local go_sem] Gf.xor_bits Gf.and_bits Gf.or_bits Gf.ne_zero_iff Gf.eq_zero_iff Gf.eq_one_iff Gf.beq_bytes Gf.bne_bytes Gf.bv_toNat

end Go.Proofs.YtfcakjpljjnjnaaGreatDoor
/- Contracts of package reedsolomon: Reconstruct. -/
namespace Go.Proofs.YtfcakjpljjnjnaaGreatDoor
open Go.RowKit Gf

attribute [local go_sem] Gf.xor_bits Gf.and_bits Gf.or_bits Gf.ne_zero_iff Gf.eq_zero_iff Gf.eq_one_iff Gf.beq_bytes Gf.bne_bytes Gf.bv_toNat

/-- The blocks that the first d pieces determine. -/
def recM (d : Nat) (z : List Nat) (m : List (List UInt8)) (L : Nat) : List (List UInt8) := cmat (invT d z) (m.take d) L d 0

set_option maxHeartbeats 4000000 in
theorem reconstruct_ok (d t : Nat) (A A' : Option Addr) (n c c' : Nat) (z : List Nat) (m : List (List UInt8)) (L : Nat) (w : World) (h : IS w A n c (ints z)) (h' : MS w A' n c' m)
  (hok : gvE d t (ints z) m = 0) (hd : 1 ≤ d) (hd8 : d ≤ 8) (hz : ∀ i, i < n → gN z i < 16) (hn : d ≤ n) (hrect : Rect m L) (hL : L ≤ 65536) (hreg : Reg d z) :
  Calls Tryz.prog 74 #[.int .i64 (d : Int), .int .i64 (t : Int), .slice A n c, .slice A' n c'] w (Rets0 (NewM 39 (recM d z m L)) w) := by
 have HZ : Hid (z.length = n) := Lib.hid (by rw [← ints_length, h.1])
 have hlen := h'.len_le
 have hcc := h'.2.1
 have qc : (d : Int) ≤ (c' : Int) := by omega
 obtain ⟨g, o, _, _, _, rfl, _⟩ := h'.at_ (Below.refl _ _) (show 0 < n by omega)
 have HI := Lib.hid h
 have HM := Lib.hid h'
 clear h h'
 go_enter Tryz.func74, Tryz.ntmps74
 go_wp2_with fail
 refine (checkGiven_any d t A _ n c n c' (ints z) m w HI.out HM.out).mono ?_
 rintro e w1 ⟨rfl, hb1⟩
 rw [hok]
 go_wp2_with fail
 refine Text.wp_region_text (fun _ => True) [(0, 4), (2, 4), (4, 4), (5, 4), (6, 4), (1, 2), (3, 2), (7, 2), (8, 4), (9, 4), (10, 4), (11, 4)] (by kernel_rfl) (by kernel_rfl) (fun _ _ _ _ _ h => h) (trivial) ?_
 iterate 5 (refine Text.purek rfl rfl (fun K hK => ⟨_, fun w' => by go_simp <;> rfl, ?_⟩); go_simp; refine hK _ ?_; clear hK K)
 refine Text.eff rfl rfl (fun K hK => ?_)
 go_simp
 refine (newTable_any d _ hd8).mono ?_
 rintro e w2 ⟨rfl, htab, hb2'⟩
 have hb2 : Below w1.heap.size w1 w2 := below_ofDrew hb2'
 refine hK _ _ trivial ?_
 clear hK K
 refine Text.eff rfl rfl (fun K hK => ?_)
 go_simp
 refine (inverse_t w1.heap.size d A n c z w2 htab hd8 hd ((HI.out.kept hb1).kept hb2) hz hn hreg).mono ?_
 rintro e w3 ⟨v3, rfl, hv3⟩
 obtain ⟨g3, n3, rfl, hn3, hms3, hb3⟩ := hv3.ms (by rw [invT_length]; unfold lim; omega)
 obtain rfl : n3 = d := by rw [← hn3, invT_length]
 refine hK _ _ trivial ?_
 clear hK K hv3 hn3
 refine Text.eff rfl rfl (fun K hK => ?_)
 go_simp
 refine (apply_any _ _ n3 n3 n3 c' (invT n3 z) (m.take n3) L w3 hms3 ((((HM.out.kept hb1).kept hb2).kept hb3).take hn) (invT_rect (by rw [HZ.out]; exact hn)) (hrect.take _) (by omega) (by omega) (by omega) (by omega) (by omega)).mono ?_
 rintro e w9 ⟨v9, rfl, g9, cs9, n9, rfl, hn9, hg9, hr9, hb9⟩
 have HR : Hid (NewM 39 (recM n3 z m L) w (.slice (some ⟨g9, 0, none⟩) n9 n9) w9) :=
  Lib.hid ⟨g9, cs9, n9, rfl, hn9, Nat.le_trans hb1.size (Nat.le_trans hb2.size (Nat.le_trans hb3.size hg9)), hr9, below_then (below_then (below_then hb1 hb2) hb3) hb9⟩
 refine hK _ _ trivial ?_
 clear hK K hms3 hn9 hr9 hb9 hb3 hb2 hb1 hb2' htab
 iterate 4 (refine Text.purek rfl rfl (fun K hK => ⟨_, fun w' => by go_simp <;> rfl, ?_⟩); go_simp; refine hK _ ?_; clear hK K)
 refine Text.done ?_
 go_wp2_with fail
 go_ret2
 exact ⟨_, rfl, HR.out⟩
end Go.Proofs.YtfcakjpljjnjnaaGreatDoor
/- Contracts of package reedsolomon: the refusals of Reconstruct, Repair, Coefficients. -/
namespace Go.Proofs.YtfcakjpljjnjnaaGreatDoor
open Go.RowKit Gf

end Go.Proofs.YtfcakjpljjnjnaaGreatDoor
/- Contract of math/bits.OnesCount for small numbers. -/
namespace Go.Proofs.YtfcakjpljjnjnaaGreatDoor
open Go.RowKit Gf

end Go.Proofs.YtfcakjpljjnjnaaGreatDoor
/- Contracts of package reedsolomon: the closure inside fits. -/
namespace Go.Proofs.YtfcakjpljjnjnaaGreatDoor
open Go.RowKit Gf

attribute [local go_sem] Gf.xor_bits Gf.and_bits Gf.or_bits Gf.ne_zero_iff Gf.eq_zero_iff Gf.eq_one_iff Gf.beq_bytes Gf.bne_bytes Gf.bv_toNat

end Go.Proofs.YtfcakjpljjnjnaaGreatDoor
/- Contracts of package reedsolomon: fits. -/
namespace Go.Proofs.YtfcakjpljjnjnaaGreatDoor
open Go.RowKit Gf

attribute [local go_sem] Gf.xor_bits Gf.and_bits Gf.or_bits Gf.ne_zero_iff Gf.eq_zero_iff Gf.eq_one_iff Gf.beq_bytes Gf.bne_bytes Gf.bv_toNat

end Go.Proofs.YtfcakjpljjnjnaaGreatDoor
/- slices.Sort of a row of ints that the call made. -/
namespace Go.Proofs.YtfcakjpljjnjnaaGreatDoor
open Go.RowKit Gf Go.Sort
end Go.Proofs.YtfcakjpljjnjnaaGreatDoor
/- Contracts of package reedsolomon: differing. -/
namespace Go.Proofs.YtfcakjpljjnjnaaGreatDoor
open Go.RowKit Gf

attribute [local go_sem] Gf.xor_bits Gf.and_bits Gf.or_bits Gf.ne_zero_iff Gf.eq_zero_iff Gf.eq_one_iff Gf.beq_bytes Gf.bne_bytes Gf.bv_toNat

end Go.Proofs.YtfcakjpljjnjnaaGreatDoor
/- Rows that a call owns, several at once, in blocks of their own. -/
namespace Go.Proofs.YtfcakjpljjnjnaaGreatDoor
open Go.RowKit Gf

/-- A row: its elements' type, its slice, its length, its values. -/
structure ORow where
 e : TypeId
 v : Value
 n : Nat
 xs : List Value
def nilRow (e : TypeId) : ORow := ⟨e, .slice none 0 0, 0, []⟩

/-- The rows 0 .. k - 1 are owned and lie in different blocks. -/
structure Ctx (base k : Nat) (w : World) (r : Nat → ORow) : Prop where
 own : ∀ i, i < k → w.ownsRow base (r i).e 1 (r i).v (r i).n (r i).xs
 dis : ∀ i j, i < k → j < k → i ≠ j → ∀ g, (r i).v.ownBlock = some g → (r j).v.ownBlock ≠ some g
def upd (r : Nat → ORow) (i : Nat) (x : ORow) : Nat → ORow := fun j => if j = i then x else r j
theorem upd_self (r : Nat → ORow) (i : Nat) (x : ORow) : upd r i x i = x := by simp [upd]
theorem upd_ne (r : Nat → ORow) {i j : Nat} (x : ORow) (h : j ≠ i) : upd r i x j = r j := by simp [upd, h]

variable {base k : Nat} {w w' : World} {r : Nat → ORow}
theorem Ctx.kept (h : Ctx base k w r) (hb : Below w.heap.size w w') : Ctx base k w' r :=
 ⟨fun i hi => Kp.own (S := fun _ => False) (Kp.of_below hb) (h.own i hi) (fun _ _ => id), h.dis⟩
theorem Ctx.alloc (h : Ctx base k w r) (o : Obj) : Ctx base k (w.alloc o) r := h.kept ((Below.refl _ _).alloc (Nat.le_refl _) _)
theorem Ctx.drew (h : Ctx base k w r) : Ctx base k w.drew r := ⟨h.own, h.dis⟩
theorem Ctx.app (h : Ctx base k w r) {i : Nat} (hi : i < k) {e : TypeId} {v : Value} {n m : Nat} (he : (r i).e = e) (hv : (r i).v = v) {xs : List Value} {v' : Value} (hp : AppPost base e v n m xs v' w w') :
  Ctx base k w' (upd r i ⟨e, v', n + m, xs⟩) := by
 have hK : Kp (fun b => v.ownBlock = some b) w w' := (Kp.refl _ _).grown hp.2.1 (fun _ e => .inl e)
 subst hv
 have hfr : ∀ j, j < k → j ≠ i → ∀ g, v'.ownBlock = some g → (r j).v.ownBlock ≠ some g := by
  intro j hj hne g hg hg'
  rcases hp.2.2 with h1 | h1
  ·
   exact h.dis j i hj hi hne g hg' (h1.symm.trans hg)
  ·
   have := ((h.own j hj).lt g hg').2
   rw [h1] at hg
   injection hg with hg
   omega
 refine ⟨fun j hj => ?_, fun a b ha hb hne g hg => ?_⟩
 ·
  by_cases e1 : j = i
  ·
   subst e1; rw [upd_self]; exact hp.1
  ·
   rw [upd_ne _ _ e1]
   exact Kp.own hK (h.own j hj) (fun g hg hg' => h.dis j i hj hi e1 g hg hg')
 ·
  by_cases e1 : a = i
  ·
   subst e1
   rw [upd_self] at hg
   rw [upd_ne _ _ (fun e => hne e.symm)]
   exact hfr b hb (fun e => hne e.symm) g hg
  ·
   rw [upd_ne _ _ e1] at hg
   by_cases e2 : b = i
   ·
    subst e2
    rw [upd_self]
    exact fun hg' => hfr a ha e1 g hg' hg
   ·
    rw [upd_ne _ _ e2]; exact h.dis a b ha hb hne g hg
theorem Ctx.nil (h : Ctx base k w r) (i : Nat) (e : TypeId) : Ctx base k w (upd r i (nilRow e)) := by
 refine ⟨fun j hj => ?_, fun a b ha hb hne g hg => ?_⟩
 ·
  by_cases e1 : j = i
  ·
   subst e1; rw [upd_self]; exact World.ownsRow_nil _ _ _ _
  ·
   rw [upd_ne _ _ e1]; exact h.own j hj
 ·
  by_cases e1 : a = i
  ·
   subst e1; rw [upd_self] at hg; simp [nilRow, Value.ownBlock] at hg
  ·
   rw [upd_ne _ _ e1] at hg
   by_cases e2 : b = i
   ·
    subst e2; rw [upd_self]; simp [nilRow, Value.ownBlock]
   ·
    rw [upd_ne _ _ e2]; exact h.dis a b ha hb hne g hg
theorem Ctx.new (base k : Nat) (w : World) (e : Nat → TypeId) : Ctx base k w (fun i => nilRow (e i)) :=
 ⟨fun _ _ => World.ownsRow_nil _ _ _ _, fun _ _ _ _ _ g hg => by simp [nilRow, Value.ownBlock] at hg⟩
/-- An owned row of ints reads. -/
theorem Ctx.is (h : Ctx base k w r) {i : Nat} (hi : i < k) {v : Value} {n : Nat} {z : List Int} (e : r i = ⟨3, v, n, z.map (Value.int .i64)⟩) (hn : n * 8 ≤ lim) : ∃ A c, v = .slice A n c ∧ IS w A n c z := by
 have := h.own i hi
 rw [e] at this
 exact IS.of_own this hn

/-- Slices that read as the rows of a list, in the world before. -/
def Pcs (w0 : World) (ps : List Value) (m : List (List UInt8)) : Prop := ps.length = m.length ∧ ∀ j, j < m.length → ∃ A n c, ps[j]? = some (.slice A n c) ∧ BS w0 A n c (gR m j)
theorem Pcs.nil (w0 : World) : Pcs w0 [] [] := ⟨rfl, fun j hj => absurd hj (by simp)⟩
theorem Pcs.push {w0 : World} {ps : List Value} {m : List (List UInt8)} (h : Pcs w0 ps m) {A : Option Addr} {n c : Nat} {l : List UInt8} (hl : BS w0 A n c l) : Pcs w0 (ps ++ [.slice A n c]) (m ++ [l]) := by
 refine ⟨by simp [h.1], fun j hj => ?_⟩
 by_cases hjn : j < m.length
 ·
  obtain ⟨A1, n1, c1, h1, h2⟩ := h.2 j hjn
  exact ⟨A1, n1, c1, by rw [List.getElem?_append_left (by rw [h.1]; exact hjn)]; exact h1, by rw [gR_append_left hjn]; exact h2⟩
 ·
  have : j = m.length := by simp at hj; omega
  subst this
  exact ⟨A, n, c, by rw [List.getElem?_append_right (by rw [h.1]; exact Nat.le_refl _), h.1, Nat.sub_self]; rfl, by rw [gR_append_self]; exact hl⟩
theorem Ctx.ms (h : Ctx base k w r) {w0 : World} (hb : Below w0.heap.size w0 w) {i : Nat} (hi : i < k) {v : Value} {n : Nat} {ps : List Value} {m : List (List UInt8)} (e : r i = ⟨39, v, n, ps⟩) (hp : Pcs w0 ps m) (hm : m.length = n) (hn : n * 24 ≤ lim) : ∃ A c, v = .slice A n c ∧ MS w A n c m := by
 have hown := h.own i hi
 rw [e] at hown
 simp only at hown
 rcases hown.2 with ⟨rfl, rfl⟩ | ⟨g, cap, cur, rfl, _, hh, hnc, _, hsz, htk⟩
 ·
  exact ⟨none, 0, rfl, hm, Nat.le_refl _, hn, fun k hk => absurd hk (by omega)⟩
 ·
  refine ⟨some ⟨g, 0, none⟩, cap, rfl, hm, hnc, hn, fun k hk => ?_⟩
  obtain ⟨A, k', c, h1, h2⟩ := hp.2 k (by omega)
  exact ⟨g, 0, A, k', c, rfl, by rw [Nat.zero_add, hown.cellAt k (by have := hown.1; omega)]; exact h1, h2.kept hb⟩
end Go.Proofs.YtfcakjpljjnjnaaGreatDoor
