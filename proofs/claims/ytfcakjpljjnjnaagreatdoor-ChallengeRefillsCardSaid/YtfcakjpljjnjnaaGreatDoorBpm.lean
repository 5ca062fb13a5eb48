/- What Refills makes, plainly: two other pieces give each piece. -/
import Derived.Test.YtfcakjpljjnjnaaGreatDoorBjm
import Derived.Test.YtfcakjpljjnjnaaGreatDoorC21
namespace Go.Proofs.YtfcakjpljjnjnaaGreatDoor
open Go Go.RowKit Go.Shelf Gf Sha

theorem tkR_end {s : Sp} {st : List Int × List (List UInt8)} (h : (st.2.length : Int) = s.d) : ∀ r, tkR s st r = st
 | [] => rfl
 | p :: r => by unfold tkR; rw [if_pos h]
def R2 (x : UInt8) : List Rf := [(nameL x 1, 0, 10), (nameL x 2, 0, 20)]
def mB (b : List UInt8) : List (List UInt8) := [b, zeros 64]
def rwB (b : List UInt8) : List (List UInt8) := encM 2 4 (mB b) 64
def spR (x : UInt8) (b : List UInt8) : Sp := ⟨rt (sumsL (rwB b)), 0, 64, 2, 4, R2 x⟩
theorem mB_rect {b : List UInt8} (hb : b.length = 64) : Rect (mB b) 64 := fun i hi => by
 match i, hi with
 | 0, _ => exact hb
 | 1, _ => exact zeros_length 64
theorem rwB_eq {b : List UInt8} (hb : b.length = 64) : rwB b = rencM 2 4 (mB b) 64 := by
 have h1 := encM_eq (t := 4) (d := 2) (mB_rect hb) (Nat.le_refl 2)
 have h2 := fillB_start (mB b) 64
 unfold rwB
 rw [h1]
 exact congrArg (fun m => rencM 2 4 m 64) h2
theorem rwB_length (b : List UInt8) : (rwB b).length = 4 := encM_length _ _ _ _
theorem rwB_rect {b : List UInt8} (hb : b.length = 64) : Rect (rwB b) 64 := by rw [rwB_eq hb]; exact rencM_rect _ _ _ _
theorem rwB_row {b : List UInt8} (hb : b.length = 64) {j : Nat} (hj : j < 4) : gR (rwB b) j = pcR (crw 2 j) (mB b) 64 := by
 rw [rwB_eq hb, gR_eq (by simpa [rencM] using hj)]
 simp [rencM]
theorem sums_len (b : List UInt8) : (sumsL (rwB b)).length = 4 := by unfold sumsL; rw [List.length_map, rwB_length]
theorem idR_len {b : List UInt8} (hb : b.length = 64) : (rt (sumsL (rwB b))).length = 32 :=
 rt_length (sums_lv (rect_le (rwB_rect hb) (by decide))) (by rw [sums_len]; decide) (by rw [sums_len]; decide)
theorem nameL_ne (x : UInt8) : nameL x 1 ≠ nameL x 2 := fun h => by
 unfold nameL at h
 injection h with _ h
 injection h with h _
 exact absurd h (by decide)
theorem nameL_len (x y : UInt8) : (nameL x y).length = 32 := by simp [nameL]
theorem R2_ok (x : UInt8) : okB rfB rfN (R2 x) = true := ok_all (fun k hk => by
 match k, hk with
 | 0, _ => exact ok_hit (x := (nameL x 1, 0, 10)) rfl (by unfold rfB; rw [nameL_len]; rfl) rfl
 | 1, _ => exact ok_hit (x := (nameL x 2, 0, 20)) rfl (by unfold rfB; rw [nameL_len]; rfl) (by
   show ([((nameL x 1, 0, 10) : Rf)].any fun y => rfN y == nameL x 2) = false
   rw [List.any_cons, List.any_nil, Bool.or_false, beq_eq_false_iff_ne]
   exact nameL_ne x))
theorem uv_small {n : Nat} (h : n < 128) : (uv n).length = 1 := by
 unfold uv uvf
 rw [if_pos h]
 rfl
theorem R2_cls (x : UInt8) {r : Rf} (h : r ∈ R2 x) : clsR r = 64 := by
 have hc : ∀ n : Nat, n ≤ 40 → clsOf (needN n) = 64 := fun n hn => by
  have h9 : needN n ≤ clsAt 0 := by unfold needN; rw [uv_small (by omega)]; show 1 + n + 16 ≤ 64; omega
  unfold clsOf
  rw [clsG_hit h9]
  rfl
 unfold R2 at h
 simp only [List.mem_cons, List.not_mem_nil, or_false] at h
 rcases h with rfl | rfl
 ·
  unfold clsR; exact congrArg (fun k : Nat => (k : Int)) (hc 10 (by decide))
 ·
  unfold clsR; exact congrArg (fun k : Nat => (k : Int)) (hc 20 (by decide))
theorem spR_ok (x : UInt8) {b : List UInt8} (hb : b.length = 64) : spB (spR x b) = true := by
 have h1 : (R2 x).all (fun r => decide (clsR r = 64)) = true := List.all_eq_true.2 (fun r hr => decide_eq_true (R2_cls x hr))
 unfold spB
 show (decide ((rt (sumsL (rwB b))).length = 32) && (decide ((0 : Int) ≤ 0) && (decide ((0 : Int) ≤ 11) && (cdB 2 4 && (decide (1 ≤ (R2 x).length) && (decide (((R2 x).length : Int) ≤ 2) && (okB rfB rfN (R2 x) && (R2 x).all fun r => decide (clsR r = 64)))))))) = true
 rw [idR_len hb, R2_ok, h1]
 rfl
theorem pie_fits (x : UInt8) {b : List UInt8} (hb : b.length = 64) {j : Nat} (hj : j < 4) : sfiB (spR x b) (pieN (rwB b) j) = true := by
 have hlv := sums_lv (rect_le (rwB_rect hb) (by decide))
 have hdl : (gR (rwB b) j).length = 64 := rwB_rect hb j (by rw [rwB_length]; exact hj)
 have hsm : smB (sumsL (rwB b)) = true := List.all_eq_true.2 (fun s hs => decide_eq_true (hlv s hs))
 have hps : psum (gR (rwB b) j) = gR (sumsL (rwB b)) j := by
  have q1 : j < (rwB b).length := by rw [rwB_length]; exact hj
  have q2 : j < (sumsL (rwB b)).length := by rw [sums_len]; exact hj
  rw [gR_eq q1, gR_eq q2]
  simp [sumsL]
 have hv : verP (pieN (rwB b) j) = true := by
  unfold verP pieN
  simp only [Int.toNat_natCast]
  rw [idR_len hb, sums_len, hsm, hdl, hps]
  simp only [Bool.and_eq_true, decide_eq_true_eq]
  repeat' apply And.intro
  all_goals first | rfl | trivial | decide | omega
 unfold sfiB
 rw [hv]
 unfold pieN spR
 simp only [sums_len, hdl]
 rfl
theorem rec_mB {b : List UInt8} (hb : b.length = 64) {j1 j2 : Nat} (h1 : j1 < 4) (h2 : j2 < 4) (hne : j1 ≠ j2) : recM 2 [j1, j2] [gR (rwB b) j1, gR (rwB b) j2] 64 = mB b := by
 have hj : ∀ j, j < 4 → (gR (rwB b) j).length = 64 := fun j hj => rwB_rect hb j (by rw [rwB_length]; exact hj)
 have hr : Rect [gR (rwB b) j1, gR (rwB b) j2] 64 := fun i hi => by
  match i, hi with
  | 0, _ => exact hj j1 h1
  | 1, _ => exact hj j2 h2
 have hrr : Rect (recM 2 [j1, j2] [gR (rwB b) j1, gR (rwB b) j2] 64) 64 := recM_rect hr (Nat.le_refl 2) (Nat.le_refl 2)
 have hlen := recM_length 2 [j1, j2] [gR (rwB b) j1, gR (rwB b) j2] 64
 have hnd : (([j1, j2] : List Nat).take 2).Nodup := by simp [hne]
 have h16 : ∀ r ∈ ([j1, j2] : List Nat).take 2, r < 16 := fun r hr => by
  simp only [List.take_succ_cons, List.take_zero, List.mem_cons, List.not_mem_nil, or_false] at hr
  omega
 have hrow : ∀ c, c < 2 → gR (recM 2 [j1, j2] [gR (rwB b) j1, gR (rwB b) j2] 64) c = gR (mB b) c := fun c hc => by
  refine row_ext (L := 64) (hrr c (by rw [hlen]; exact hc)) (mB_rect hb c hc) (fun l hl => ?_)
  refine (rec_only hnd h16 (by decide) (Nat.le_refl 2) hr (Nat.le_refl 2) (fun c => gB (gR (mB b) c) l) hl (fun i hi => ?_) hc).symm
  have hdot : ∀ j, j < 4 → dot (crw 2 j) (fun c => gB (gR (mB b) c) l) 2 = gB (gR (rwB b) j) l := fun j hj4 => by
   rw [rwB_row hb hj4, pcR_get hl]
   rfl
  match i, hi with
  | 0, _ => exact hdot j1 h1
  | 1, _ => exact hdot j2 h2
 refine List.ext_getElem (by rw [hlen]; rfl) (fun c hc1 hc2 => ?_)
 have h9 := hrow c (by rw [hlen] at hc1; exact hc1)
 rw [gR_eq hc1, gR_eq hc2] at h9
 exact h9
theorem tk_two (x : UInt8) {b : List UInt8} (hb : b.length = 64) {j1 j2 : Nat} (h1 : j1 < 4) (h2 : j2 < 4) (hne : j1 ≠ j2) (js : List Nat) :
  tkR (spR x b) ([], []) ((j1 :: j2 :: js).map (pieN (rwB b))) = ([(j1 : Int), (j2 : Int)], [gR (rwB b) j1, gR (rwB b) j2]) := by
 have e1 : tkS (spR x b) ([], []) (pieN (rwB b) j1) = ([(j1 : Int)], [gR (rwB b) j1]) := by
  unfold tkS
  rw [pie_fits x hb h1]
  rfl
 have e2 : tkS (spR x b) ([(j1 : Int)], [gR (rwB b) j1]) (pieN (rwB b) j2) = ([(j1 : Int), (j2 : Int)], [gR (rwB b) j1, gR (rwB b) j2]) := by
  unfold tkS
  rw [pie_fits x hb h2]
  have hc : ([(j1 : Int)] : List Int).contains (pieN (rwB b) j2).ix = false := by
   have h9 : ((j2 : Int)) ≠ (j1 : Int) := by omega
   show ([(j1 : Int)] : List Int).contains (j2 : Int) = false
   simp [h9]
  rw [hc]
  rfl
 rw [List.map_cons, List.map_cons, tkR, if_neg (by show ¬((0 : Nat) : Int) = 2; decide), e1, tkR, if_neg (by show ¬((1 : Nat) : Int) = 2; decide), e2]
 exact tkR_end rfl _
theorem res_two (x : UInt8) {b : List UInt8} (hb : b.length = 64) {j1 j2 : Nat} (h1 : j1 < 4) (h2 : j2 < 4) (hne : j1 ≠ j2) (js : List Nat) :
  resE (spR x b) ((j1 :: j2 :: js).map (pieN (rwB b))) = (0, pcsL (rwB b)) := by
 unfold resE
 simp only [tk_two x hb h1 h2 hne js]
 rw [if_neg (by show ¬((2 : Nat) : Int) < 2; decide)]
 have e : recM (spR x b).d.toNat (([(j1 : Int), (j2 : Int)] : List Int).map Int.toNat) [gR (rwB b) j1, gR (rwB b) j2] (spR x b).b.toNat = mB b := rec_mB hb h1 h2 hne
 rw [e]
 have e2 : encM (spR x b).d.toNat (spR x b).t.toNat (mB b) (spR x b).b.toNat = rwB b := rfl
 rw [e2, if_pos (by rfl), if_pos (by rfl)]
theorem reb_two (x : UInt8) {b : List UInt8} (hb : b.length = 64) {j1 j2 k : Nat} (h1 : j1 < 4) (h2 : j2 < 4) (hne : j1 ≠ j2) (js : List Nat) (hk : k < 4) :
  rebE (spR x b) ((j1 :: j2 :: js).map (pieN (rwB b))) (k : Int) = (0, pieN (rwB b) k) := by
 unfold rebE
 rw [if_pos ⟨spR_ok x hb, by omega, by show (k : Int) < 4; omega⟩, res_two x hb h1 h2 hne js, if_pos rfl]
 show (0, (pcsL (rwB b)).getD (k : Int).toNat peN) = _
 rw [Int.toNat_natCast, List.getD_eq_getElem?_getD]
 unfold pcsL
 rw [List.getElem?_map, List.getElem?_range (by rw [rwB_length]; exact hk)]
 rfl
theorem tksB_pie (x : UInt8) {b : List UInt8} (hb : b.length = 64) {k : Nat} (hk : k < 4) : tksB (keysK x) (pieN (rwB b) k).id (pieN (rwB b) k).ix (pieN (rwB b) k).da.length 3 2 = true := by
 have hdl : (gR (rwB b) k).length = 64 := rwB_rect hb k (by rw [rwB_length]; exact hk)
 unfold tksB pieN idB dataB
 simp only [keysK_ok, idR_len hb, hdl]
 have : decide ((k : Int) < 16) = true := decide_eq_true (by omega)
 have h0 : decide ((0 : Int) ≤ (k : Int)) = true := decide_eq_true (by omega)
 rw [this, h0]
 rfl
/-- Refilled tokens are those of the piece itself. -/
theorem rfi_two (x : UInt8) {b : List UInt8} (hb : b.length = 64) {j1 j2 k : Nat} (h1 : j1 < 4) (h2 : j2 < 4) (hne : j1 ≠ j2) (js : List Nat) (hk : k < 4) :
  rfiV (keysK x) (spR x b) (k : Int) ((j1 :: j2 :: js).map (pieN (rwB b))) 3 2 = (tksV (keysK x) (pieN (rwB b) k).id (pieN (rwB b) k).da (pieN (rwB b) k).ix (pieN (rwB b) k).da.length 3 2, 0) := by
 unfold rfiV
 rw [if_pos ⟨keysK_ok x, by rfl⟩, reb_two x hb h1 h2 hne js hk, if_pos rfl]
 simp only [tksB_pie x hb hk]
 rfl
end Go.Proofs.YtfcakjpljjnjnaaGreatDoor
