/- The reference's Refill. -/
import Derived.Test.YtfcakjpljjnjnaaGreatDoorBmm
import Derived.Test.YtfcakjpljjnjnaaGreatDoorC17
namespace Go.Proofs.YtfcakjpljjnjnaaGreatDoor
open Go Go.RowKit Go.Shelf Gf Sha

section
set_option maxRecDepth 100000
set_option maxHeartbeats 8000000
theorem rrefill_any (Kx : Ky) (cs : List Value) (s : Sp) (A : Option Addr) (n c : Nat) (ps : List Pe) (i f c9 : Int) (w : World) (hs : rSp w cs s) (hp : LS rPe 4 72 w A n c ps) (hT : Tabs w) (hn : n ≤ 1000) :
  Calls Tryz.prog 9 #[Kx.val, .agg cs.toArray, .int .i64 i, .slice A n c, .int .i64 f, .int .i64 c9] w (TksRet (rfiV Kx s i ps f c9).1 (rfiV Kx s i ps f c9).2 w) := by
 have HSP := Lib.hid hs
 have HP := Lib.hid hp
 have HT := Lib.hid hT
 have HN := Lib.hid hn
 obtain ⟨R, rn, e, rfl, _⟩ := hs
 clear hp hT hn
 cases hk : okK Kx with
 | false =>
  have HK := Lib.hid hk
  have HR : Hid (rfiV Kx s i ps f c9 = ([], 1)) := Lib.hid (by unfold rfiV; rw [if_neg (by rw [hk]; rintro ⟨h, _⟩; cases h)])
  clear hk
  go_enter Tryz.func9, Tryz.ntmps9
  go_wp2_with (first
   | ((with_reducible show OpW 6); refine wpList_box _ rfl 23 (.tmp 0) rfl Kx.cells rfl ?_; intro w1 a1 a2 a3; have HG1 := Lib.hid a1; have HB1 := Lib.hid a2; clear a1 a2 a3)
   | ((with_reducible show OpW 7); refine wpList_box _ rfl 26 (.tmp 1) rfl (spC s R rn e) rfl ?_; intro w2 y1 y2 y3; have HG2 := Lib.hid (HG1.out.kept y2); have HV2 := Lib.hid y1; have HB2 := Lib.hid (below_then HB1.out y2); clear y1 y2 y3)
   | ((with_reducible show OpW 16); refine wpList_loadv _ rfl 23 (.tmp 6) rfl 5 (by kernel_rfl) w.heap.size 0 Kx.cells rfl (BL.all HG2.out) rfl ?_)
   | (go_at_call 25; refine (rkeys_any Kx w2).mono ?_; rintro e9 w3 ⟨rfl, r2⟩; rw [HK.out]; have HB3 := Lib.hid (below_then HB2.out r2); have HG3 := Lib.hid (HG2.out.kept r2); have HV3 := Lib.hid (HV2.out.kept r2); clear r2)
   | (go_at_call 26; refine (rnums_any f c9 w3).mono ?_; rintro e9 w9 ⟨rfl, rfl⟩; rw [HRG.out])
   | ((with_reducible show OpW 26); refine wpList_loadvg _ rfl 26 (.tmp 7) rfl 6 (by kernel_rfl) w1.heap.size 0 (spC s R rn e) rfl (BL.all HV3.out) rfl ?_)
   | (go_at_call 27; refine (rvalid_any _ s w3 (stay_sp _ _ _ _ HSP.out HB3.out)).mono ?_; rintro e9 w4 ⟨rfl, r2⟩; rw [HVB.out]; have HB4 := Lib.hid (below_then HB3.out r2); have HG4 := Lib.hid (HG3.out.kept r2); have HV4 := Lib.hid (HV3.out.kept r2); have p4 := BL.get (j := 4) HV4.out rfl; clear r2)
   | fail)
  go_ret2
  exact ⟨_, 0, by rw [HR.out]; rfl, by rw [HR.out]; rfl, by omega, by rw [HR.out]; exact RW.nil _ _ _, HB3.out⟩
 | true =>
 have HK := Lib.hid hk
 cases hr : rangeB f c9 with
 | false =>
  have HRG := Lib.hid hr
  have HR : Hid (rfiV Kx s i ps f c9 = ([], 1)) := Lib.hid (by unfold rfiV; rw [if_neg (by rw [hr]; rintro ⟨_, h⟩; cases h)])
  clear hk hr
  go_enter Tryz.func9, Tryz.ntmps9
  go_wp2_with (first
   | ((with_reducible show OpW 6); refine wpList_box _ rfl 23 (.tmp 0) rfl Kx.cells rfl ?_; intro w1 a1 a2 a3; have HG1 := Lib.hid a1; have HB1 := Lib.hid a2; clear a1 a2 a3)
   | ((with_reducible show OpW 7); refine wpList_box _ rfl 26 (.tmp 1) rfl (spC s R rn e) rfl ?_; intro w2 y1 y2 y3; have HG2 := Lib.hid (HG1.out.kept y2); have HV2 := Lib.hid y1; have HB2 := Lib.hid (below_then HB1.out y2); clear y1 y2 y3)
   | ((with_reducible show OpW 16); refine wpList_loadv _ rfl 23 (.tmp 6) rfl 5 (by kernel_rfl) w.heap.size 0 Kx.cells rfl (BL.all HG2.out) rfl ?_)
   | (go_at_call 25; refine (rkeys_any Kx w2).mono ?_; rintro e9 w3 ⟨rfl, r2⟩; rw [HK.out]; have HB3 := Lib.hid (below_then HB2.out r2); have HG3 := Lib.hid (HG2.out.kept r2); have HV3 := Lib.hid (HV2.out.kept r2); clear r2)
   | (go_at_call 26; refine (rnums_any f c9 w3).mono ?_; rintro e9 w9 ⟨rfl, rfl⟩; rw [HRG.out])
   | ((with_reducible show OpW 26); refine wpList_loadvg _ rfl 26 (.tmp 7) rfl 6 (by kernel_rfl) w1.heap.size 0 (spC s R rn e) rfl (BL.all HV3.out) rfl ?_)
   | (go_at_call 27; refine (rvalid_any _ s w3 (stay_sp _ _ _ _ HSP.out HB3.out)).mono ?_; rintro e9 w4 ⟨rfl, r2⟩; rw [HVB.out]; have HB4 := Lib.hid (below_then HB3.out r2); have HG4 := Lib.hid (HG3.out.kept r2); have HV4 := Lib.hid (HV3.out.kept r2); have p4 := BL.get (j := 4) HV4.out rfl; clear r2)
   | fail)
  go_ret2
  exact ⟨_, 0, by rw [HR.out]; rfl, by rw [HR.out]; rfl, by omega, by rw [HR.out]; exact RW.nil _ _ _, HB3.out⟩
 | true =>
 have HRG := Lib.hid hr
 have HRE0 : Hid (rfiV Kx s i ps f c9 = if (rebE s ps i).1 = 0 then (tksV Kx (rebE s ps i).2.id (rebE s ps i).2.da (rebE s ps i).2.ix (rebE s ps i).2.da.length f c9, errV (tksB Kx (rebE s ps i).2.id (rebE s ps i).2.ix (rebE s ps i).2.da.length f c9)) else ([], (rebE s ps i).1)) := Lib.hid (by unfold rfiV; rw [if_pos ⟨hk, hr⟩])
 have HR1 : Hid (rebE s ps i = (1, peN) → rfiV Kx s i ps f c9 = ([], 1)) := Lib.hid (fun h => by rw [HRE0.out, h]; rfl)
 clear hk hr
 cases hv : spB s with
 | false =>
  have HVB := Lib.hid hv
  have HR : Hid (rfiV Kx s i ps f c9 = ([], 1)) := Lib.hid (HR1.out (by unfold rebE; rw [if_neg (by rw [hv]; rintro ⟨h, _⟩; cases h)]))
  clear hv
  go_enter Tryz.func9, Tryz.ntmps9
  go_wp2_with (first
   | ((with_reducible show OpW 6); refine wpList_box _ rfl 23 (.tmp 0) rfl Kx.cells rfl ?_; intro w1 a1 a2 a3; have HG1 := Lib.hid a1; have HB1 := Lib.hid a2; clear a1 a2 a3)
   | ((with_reducible show OpW 7); refine wpList_box _ rfl 26 (.tmp 1) rfl (spC s R rn e) rfl ?_; intro w2 y1 y2 y3; have HG2 := Lib.hid (HG1.out.kept y2); have HV2 := Lib.hid y1; have HB2 := Lib.hid (below_then HB1.out y2); clear y1 y2 y3)
   | ((with_reducible show OpW 16); refine wpList_loadv _ rfl 23 (.tmp 6) rfl 5 (by kernel_rfl) w.heap.size 0 Kx.cells rfl (BL.all HG2.out) rfl ?_)
   | (go_at_call 25; refine (rkeys_any Kx w2).mono ?_; rintro e9 w3 ⟨rfl, r2⟩; rw [HK.out]; have HB3 := Lib.hid (below_then HB2.out r2); have HG3 := Lib.hid (HG2.out.kept r2); have HV3 := Lib.hid (HV2.out.kept r2); clear r2)
   | (go_at_call 26; refine (rnums_any f c9 w3).mono ?_; rintro e9 w9 ⟨rfl, rfl⟩; rw [HRG.out])
   | ((with_reducible show OpW 26); refine wpList_loadvg _ rfl 26 (.tmp 7) rfl 6 (by kernel_rfl) w1.heap.size 0 (spC s R rn e) rfl (BL.all HV3.out) rfl ?_)
   | (go_at_call 27; refine (rvalid_any _ s w3 (stay_sp _ _ _ _ HSP.out HB3.out)).mono ?_; rintro e9 w4 ⟨rfl, r2⟩; rw [HVB.out]; have HB4 := Lib.hid (below_then HB3.out r2); have HG4 := Lib.hid (HG3.out.kept r2); have HV4 := Lib.hid (HV3.out.kept r2); have p4 := BL.get (j := 4) HV4.out rfl; clear r2)
   | fail)
  go_ret2
  exact ⟨_, 0, by rw [HR.out]; rfl, by rw [HR.out]; rfl, by omega, by rw [HR.out]; exact RW.nil _ _ _, HB4.out⟩
 | true =>
 have HVB := Lib.hid hv
 cases c1 : decide (i < 0) with
 | true =>
  have HR : Hid (rfiV Kx s i ps f c9 = ([], 1)) := Lib.hid (HR1.out (by unfold rebE; rw [if_neg (by rintro ⟨_, h, _⟩; have := of_decide_eq_true c1; omega)]))
  clear hv
  go_enter Tryz.func9, Tryz.ntmps9
  go_wp2_with (first
   | ((with_reducible show OpW 6); refine wpList_box _ rfl 23 (.tmp 0) rfl Kx.cells rfl ?_; intro w1 a1 a2 a3; have HG1 := Lib.hid a1; have HB1 := Lib.hid a2; clear a1 a2 a3)
   | ((with_reducible show OpW 7); refine wpList_box _ rfl 26 (.tmp 1) rfl (spC s R rn e) rfl ?_; intro w2 y1 y2 y3; have HG2 := Lib.hid (HG1.out.kept y2); have HV2 := Lib.hid y1; have HB2 := Lib.hid (below_then HB1.out y2); clear y1 y2 y3)
   | ((with_reducible show OpW 16); refine wpList_loadv _ rfl 23 (.tmp 6) rfl 5 (by kernel_rfl) w.heap.size 0 Kx.cells rfl (BL.all HG2.out) rfl ?_)
   | (go_at_call 25; refine (rkeys_any Kx w2).mono ?_; rintro e9 w3 ⟨rfl, r2⟩; rw [HK.out]; have HB3 := Lib.hid (below_then HB2.out r2); have HG3 := Lib.hid (HG2.out.kept r2); have HV3 := Lib.hid (HV2.out.kept r2); clear r2)
   | (go_at_call 26; refine (rnums_any f c9 w3).mono ?_; rintro e9 w9 ⟨rfl, rfl⟩; rw [HRG.out])
   | ((with_reducible show OpW 26); refine wpList_loadvg _ rfl 26 (.tmp 7) rfl 6 (by kernel_rfl) w1.heap.size 0 (spC s R rn e) rfl (BL.all HV3.out) rfl ?_)
   | (go_at_call 27; refine (rvalid_any _ s w3 (stay_sp _ _ _ _ HSP.out HB3.out)).mono ?_; rintro e9 w4 ⟨rfl, r2⟩; rw [HVB.out]; have HB4 := Lib.hid (below_then HB3.out r2); have HG4 := Lib.hid (HG3.out.kept r2); have HV4 := Lib.hid (HV3.out.kept r2); have p4 := BL.get (j := 4) HV4.out rfl; clear r2)
   | fail)
  go_ret2
  exact ⟨_, 0, by rw [HR.out]; rfl, by rw [HR.out]; rfl, by omega, by rw [HR.out]; exact RW.nil _ _ _, HB4.out⟩
 | false =>
 cases c2 : decide (i ≥ s.t) with
 | true =>
  have HR : Hid (rfiV Kx s i ps f c9 = ([], 1)) := Lib.hid (HR1.out (by unfold rebE; rw [if_neg (by rintro ⟨_, _, h⟩; have := of_decide_eq_true c2; omega)]))
  clear hv
  go_enter Tryz.func9, Tryz.ntmps9
  go_wp2_with (first
   | ((with_reducible show OpW 6); refine wpList_box _ rfl 23 (.tmp 0) rfl Kx.cells rfl ?_; intro w1 a1 a2 a3; have HG1 := Lib.hid a1; have HB1 := Lib.hid a2; clear a1 a2 a3)
   | ((with_reducible show OpW 7); refine wpList_box _ rfl 26 (.tmp 1) rfl (spC s R rn e) rfl ?_; intro w2 y1 y2 y3; have HG2 := Lib.hid (HG1.out.kept y2); have HV2 := Lib.hid y1; have HB2 := Lib.hid (below_then HB1.out y2); clear y1 y2 y3)
   | ((with_reducible show OpW 16); refine wpList_loadv _ rfl 23 (.tmp 6) rfl 5 (by kernel_rfl) w.heap.size 0 Kx.cells rfl (BL.all HG2.out) rfl ?_)
   | (go_at_call 25; refine (rkeys_any Kx w2).mono ?_; rintro e9 w3 ⟨rfl, r2⟩; rw [HK.out]; have HB3 := Lib.hid (below_then HB2.out r2); have HG3 := Lib.hid (HG2.out.kept r2); have HV3 := Lib.hid (HV2.out.kept r2); clear r2)
   | (go_at_call 26; refine (rnums_any f c9 w3).mono ?_; rintro e9 w9 ⟨rfl, rfl⟩; rw [HRG.out])
   | ((with_reducible show OpW 26); refine wpList_loadvg _ rfl 26 (.tmp 7) rfl 6 (by kernel_rfl) w1.heap.size 0 (spC s R rn e) rfl (BL.all HV3.out) rfl ?_)
   | (go_at_call 27; refine (rvalid_any _ s w3 (stay_sp _ _ _ _ HSP.out HB3.out)).mono ?_; rintro e9 w4 ⟨rfl, r2⟩; rw [HVB.out]; have HB4 := Lib.hid (below_then HB3.out r2); have HG4 := Lib.hid (HG3.out.kept r2); have HV4 := Lib.hid (HV3.out.kept r2); have p4 := BL.get (j := 4) HV4.out rfl; clear r2)
   | fail)
  go_ret2
  exact ⟨_, 0, by rw [HR.out]; rfl, by rw [HR.out]; rfl, by omega, by rw [HR.out]; exact RW.nil _ _ _, HB4.out⟩
 | false =>
  have i0 := of_decide_eq_false c1
  have i1 := of_decide_eq_false c2
  have hre : rebE s ps i = if (resE s ps).1 = 0 then (0, (resE s ps).2.getD i.toNat peN) else ((resE s ps).1, peN) := by unfold rebE; rw [if_pos ⟨hv, by omega, by omega⟩]
  have HRE := HRE0
  rw [hre] at HRE
  have ht16 : s.t ≤ 16 := by have h9 := (spB_spec hv).2.1; unfold cdB at h9; simp only [Bool.and_eq_true, decide_eq_true_eq] at h9; omega
  clear HRE0 HR1
  rcases resE_err s ps with h | h | h
  ·
   have HE := Lib.hid h
   obtain ⟨j, rfl⟩ : ∃ j : Nat, i = (j : Int) := ⟨i.toNat, by omega⟩
   obtain ⟨rows, W, hrow, hrt, hrect, _, hW⟩ := resE_ok hv h
   obtain ⟨L, hL⟩ : ∃ L, L = (resE s ps).2 := ⟨_, rfl⟩
   rw [← hL] at hrow
   have hll : L.length = s.t.toNat := by rw [hrow]; simp [pcsL]; omega
   have hjl : j < L.length := by omega
   have hlim : L.length ≤ 16 := by omega
   have HL := Lib.hid hL
   obtain ⟨y, hy⟩ : ∃ y, L[j]? = some y := ⟨L[j], List.getElem?_eq_getElem hjl⟩
   have HY := Lib.hid hy
   have HR : Hid (rfiV Kx s (j : Int) ps f c9 = (tksV Kx y.id y.da y.ix y.da.length f c9, errV (tksB Kx y.id y.ix y.da.length f c9))) := Lib.hid (by
    rw [HRE.out, if_pos h, if_pos rfl, ← hL, Int.toNat_natCast, List.getD_eq_getElem?_getD, hy]; rfl)
   obtain ⟨q, hq⟩ : ∃ q, q = L.length := ⟨_, rfl⟩
   have HQ := Lib.hid hq.symm
   rw [← hq] at hjl hlim
   have hjI : (j : Int) < (q : Int) := by omega
   clear hll HRE h hL hv hrow hrt hrect hW hre hy hq
   go_enter Tryz.func9, Tryz.ntmps9
   go_wp2_with (first
    | ((with_reducible show OpW 6); refine wpList_box _ rfl 23 (.tmp 0) rfl Kx.cells rfl ?_; intro w1 a1 a2 a3; have HG1 := Lib.hid a1; have HB1 := Lib.hid a2; clear a1 a2 a3)
    | ((with_reducible show OpW 7); refine wpList_box _ rfl 26 (.tmp 1) rfl (spC s R rn e) rfl ?_; intro w2 y1 y2 y3; have HG2 := Lib.hid (HG1.out.kept y2); have HV2 := Lib.hid y1; have HB2 := Lib.hid (below_then HB1.out y2); clear y1 y2 y3)
    | ((with_reducible show OpW 16); refine wpList_loadv _ rfl 23 (.tmp 6) rfl 5 (by kernel_rfl) w.heap.size 0 Kx.cells rfl (BL.all HG2.out) rfl ?_)
    | (go_at_call 25; refine (rkeys_any Kx w2).mono ?_; rintro e9 w3 ⟨rfl, r2⟩; rw [HK.out]; have HB3 := Lib.hid (below_then HB2.out r2); have HG3 := Lib.hid (HG2.out.kept r2); have HV3 := Lib.hid (HV2.out.kept r2); clear r2)
    | (go_at_call 26; refine (rnums_any f c9 w3).mono ?_; rintro e9 w9 ⟨rfl, rfl⟩; rw [HRG.out])
    | ((with_reducible show OpW 26); refine wpList_loadvg _ rfl 26 (.tmp 7) rfl 6 (by kernel_rfl) w1.heap.size 0 (spC s R rn e) rfl (BL.all HV3.out) rfl ?_)
    | (go_at_call 27; refine (rvalid_any _ s w3 (stay_sp _ _ _ _ HSP.out HB3.out)).mono ?_; rintro e9 w4 ⟨rfl, r2⟩; rw [HVB.out]; have HB4 := Lib.hid (below_then HB3.out r2); have HG4 := Lib.hid (HG3.out.kept r2); have HV4 := Lib.hid (HV3.out.kept r2); have p4 := BL.get (j := 4) HV4.out rfl; clear r2)
    | ((with_reducible show OpW 41); refine wpList_loadv _ rfl 26 (.tmp 7) rfl 6 (by kernel_rfl) w1.heap.size 0 (spC s R rn e) rfl (BL.all HV4.out) rfl ?_)
    | (go_at_call 28; refine (rwhole_any _ s A n c ps w4 (stay_sp _ _ _ _ HSP.out HB4.out) HVB.out (HP.out.kept stay_pe HB4.out) (HT.out.kept HB4.out) HN.out).mono ?_; rintro e9 w5 ⟨v2, rfl, hol, r2⟩; rw [HE.out]; have hol := hol HE.out; rw [← HL.out] at hol; obtain ⟨A4, c4, e4, h4⟩ := hol.ls (b := 72) (by rw [HQ.out]; unfold lim; omega); rw [HQ.out] at e4 h4; subst e4; obtain ⟨y', g, o, cy, hy', ea, hat, hry⟩ := h4.at_ stay_pe (Below.refl _ _) hjl; obtain rfl : y = y' := Option.some.inj (HY.out.symm.trans hy'); subst ea; have HAT := Lib.hid hat; obtain ⟨A9, n9, d9, B9, m9, k9, rfl, hbs, _⟩ := hry; have HBS := Lib.hid hbs; have q2 : w5.cell? ⟨g, o + j * 4 + 2, none⟩ = some (.slice A9 n9 d9) := hat 2 _ rfl; clear hat h4 hy' hbs); have HB5 := Lib.hid (below_then HB4.out r2); have HG5 := Lib.hid (HG4.out.kept r2); clear r2 hol)
   refine Text.wp_region_text (fun w' => w'.cell? ⟨g, o + j * 4 + 2, none⟩ = some (.slice A9 n9 d9) ∧ Below w5.heap.size w5 w') [(1, 4), (2, 4), (3, 4), (4, 4), (6, 4), (7, 4), (8, 4), (9, 4), (11, 4), (12, 4), (0, 0), (5, 0), (10, 0), (13, 2), (14, 4), (15, 4), (16, 4), (17, 4)] (by kernel_rfl) (by kernel_rfl) (fun _ _ _ _ _ h => h) (⟨q2, (Below.refl _ _).drew⟩) ?_
   iterate 10 (refine Text.purek rfl rfl (fun K hK => ⟨_, fun w' => by go_simp <;> rfl, ?_⟩); go_simp; refine hK _ ?_; clear hK K)
   refine Text.heldk rfl rfl (fun K hK => ?_)
   refine ⟨_, fun w' hw' => exec_loadv 23 (.tmp 6) rfl 5 (by kernel_rfl) w.heap.size 0 Kx.cells rfl (BL.all (HG5.out.kept hw'.2)) rfl, ?_⟩
   go_simp
   refine hK _ ?_
   clear hK K
   refine Text.heldk rfl rfl (fun K hK => ?_)
   refine ⟨_, fun w' hw' => exec_loadv 31 (.tmp 53) rfl 2 (by kernel_rfl) g (o + j * 4) [.string (strB y.id), .int .i64 y.ix] (by go_simp) (fun j' v hj => (At.kept HAT.out hw'.2) j' v (by match j', hj with | 0, hj => exact hj | 1, hj => exact hj)) rfl, ?_⟩
   go_simp
   refine hK _ ?_
   clear hK K
   (refine Text.heldk rfl rfl (fun K hK => ⟨_, fun w' hw' => by go_simp <;> rfl, ?_⟩); go_simp; refine hK _ ?_; clear hK K)
   refine Text.eff rfl rfl (fun K hK => ?_)
   go_simp
   refine (rtokens_all Kx y.id y.da y.ix n9 d9 f c9 A9 _ (HBS.out.kept (Below.refl _ _).drew)).mono ?_
   rintro e9 w7 ⟨v7, n7, rfl, r1, r2, r3, r4⟩
   have H71 := Lib.hid r1
   have H72 := Lib.hid r2
   have H73 := Lib.hid r3
   have HX7 : Hid (Below w5.heap.size w5 w7) := Lib.hid (below_then (Below.refl _ _).drew r4)
   have HB7 := Lib.hid (below_then HB5.out HX7.out)
   refine hK _ _ ⟨cell_kept HX7.out q2, HX7.out⟩ ?_
   clear hK K r1 r2 r3 r4
   iterate 4 (refine Text.purek rfl rfl (fun K hK => ⟨_, fun w' => by go_simp <;> rfl, ?_⟩); go_simp; refine hK _ ?_; clear hK K)
   refine Text.done ?_
   go_wp2_with fail
   go_ret2
   exact ⟨v7, n7, by rw [HR.out, HBS.out.1]; rfl, by rw [HR.out, HBS.out.1]; exact H71.out, H72.out, by rw [HR.out, HBS.out.1]; exact H73.out, HB7.out⟩
  ·
   have HE := Lib.hid h
   have HR : Hid (rfiV Kx s i ps f c9 = ([], 9)) := Lib.hid (by rw [HRE.out, h]; rfl)
   clear HRE h
   go_enter Tryz.func9, Tryz.ntmps9
   go_wp2_with (first
    | ((with_reducible show OpW 6); refine wpList_box _ rfl 23 (.tmp 0) rfl Kx.cells rfl ?_; intro w1 a1 a2 a3; have HG1 := Lib.hid a1; have HB1 := Lib.hid a2; clear a1 a2 a3)
    | ((with_reducible show OpW 7); refine wpList_box _ rfl 26 (.tmp 1) rfl (spC s R rn e) rfl ?_; intro w2 y1 y2 y3; have HG2 := Lib.hid (HG1.out.kept y2); have HV2 := Lib.hid y1; have HB2 := Lib.hid (below_then HB1.out y2); clear y1 y2 y3)
    | ((with_reducible show OpW 16); refine wpList_loadv _ rfl 23 (.tmp 6) rfl 5 (by kernel_rfl) w.heap.size 0 Kx.cells rfl (BL.all HG2.out) rfl ?_)
    | (go_at_call 25; refine (rkeys_any Kx w2).mono ?_; rintro e9 w3 ⟨rfl, r2⟩; rw [HK.out]; have HB3 := Lib.hid (below_then HB2.out r2); have HG3 := Lib.hid (HG2.out.kept r2); have HV3 := Lib.hid (HV2.out.kept r2); clear r2)
    | (go_at_call 26; refine (rnums_any f c9 w3).mono ?_; rintro e9 w9 ⟨rfl, rfl⟩; rw [HRG.out])
    | ((with_reducible show OpW 26); refine wpList_loadvg _ rfl 26 (.tmp 7) rfl 6 (by kernel_rfl) w1.heap.size 0 (spC s R rn e) rfl (BL.all HV3.out) rfl ?_)
    | (go_at_call 27; refine (rvalid_any _ s w3 (stay_sp _ _ _ _ HSP.out HB3.out)).mono ?_; rintro e9 w4 ⟨rfl, r2⟩; rw [HVB.out]; have HB4 := Lib.hid (below_then HB3.out r2); have HG4 := Lib.hid (HG3.out.kept r2); have HV4 := Lib.hid (HV3.out.kept r2); have p4 := BL.get (j := 4) HV4.out rfl; clear r2)
    | ((with_reducible show OpW 41); refine wpList_loadv _ rfl 26 (.tmp 7) rfl 6 (by kernel_rfl) w1.heap.size 0 (spC s R rn e) rfl (BL.all HV4.out) rfl ?_)
    | (go_at_call 28; refine (rwhole_any _ s A n c ps w4 (stay_sp _ _ _ _ HSP.out HB4.out) HVB.out (HP.out.kept stay_pe HB4.out) (HT.out.kept HB4.out) HN.out).mono ?_; rintro e9 w5 ⟨v2, rfl, hol, r2⟩; rw [HE.out]; skip); have HB5 := Lib.hid (below_then HB4.out r2); have HG5 := Lib.hid (HG4.out.kept r2); clear r2 hol)
   go_ret2
   exact ⟨_, 0, by rw [HR.out]; rfl, by rw [HR.out]; rfl, by omega, by rw [HR.out]; exact RW.nil _ _ _, HB5.out⟩
  ·
   have HE := Lib.hid h
   have HR : Hid (rfiV Kx s i ps f c9 = ([], 10)) := Lib.hid (by rw [HRE.out, h]; rfl)
   clear HRE h
   go_enter Tryz.func9, Tryz.ntmps9
   go_wp2_with (first
    | ((with_reducible show OpW 6); refine wpList_box _ rfl 23 (.tmp 0) rfl Kx.cells rfl ?_; intro w1 a1 a2 a3; have HG1 := Lib.hid a1; have HB1 := Lib.hid a2; clear a1 a2 a3)
    | ((with_reducible show OpW 7); refine wpList_box _ rfl 26 (.tmp 1) rfl (spC s R rn e) rfl ?_; intro w2 y1 y2 y3; have HG2 := Lib.hid (HG1.out.kept y2); have HV2 := Lib.hid y1; have HB2 := Lib.hid (below_then HB1.out y2); clear y1 y2 y3)
    | ((with_reducible show OpW 16); refine wpList_loadv _ rfl 23 (.tmp 6) rfl 5 (by kernel_rfl) w.heap.size 0 Kx.cells rfl (BL.all HG2.out) rfl ?_)
    | (go_at_call 25; refine (rkeys_any Kx w2).mono ?_; rintro e9 w3 ⟨rfl, r2⟩; rw [HK.out]; have HB3 := Lib.hid (below_then HB2.out r2); have HG3 := Lib.hid (HG2.out.kept r2); have HV3 := Lib.hid (HV2.out.kept r2); clear r2)
    | (go_at_call 26; refine (rnums_any f c9 w3).mono ?_; rintro e9 w9 ⟨rfl, rfl⟩; rw [HRG.out])
    | ((with_reducible show OpW 26); refine wpList_loadvg _ rfl 26 (.tmp 7) rfl 6 (by kernel_rfl) w1.heap.size 0 (spC s R rn e) rfl (BL.all HV3.out) rfl ?_)
    | (go_at_call 27; refine (rvalid_any _ s w3 (stay_sp _ _ _ _ HSP.out HB3.out)).mono ?_; rintro e9 w4 ⟨rfl, r2⟩; rw [HVB.out]; have HB4 := Lib.hid (below_then HB3.out r2); have HG4 := Lib.hid (HG3.out.kept r2); have HV4 := Lib.hid (HV3.out.kept r2); have p4 := BL.get (j := 4) HV4.out rfl; clear r2)
    | ((with_reducible show OpW 41); refine wpList_loadv _ rfl 26 (.tmp 7) rfl 6 (by kernel_rfl) w1.heap.size 0 (spC s R rn e) rfl (BL.all HV4.out) rfl ?_)
    | (go_at_call 28; refine (rwhole_any _ s A n c ps w4 (stay_sp _ _ _ _ HSP.out HB4.out) HVB.out (HP.out.kept stay_pe HB4.out) (HT.out.kept HB4.out) HN.out).mono ?_; rintro e9 w5 ⟨v2, rfl, hol, r2⟩; rw [HE.out]; skip); have HB5 := Lib.hid (below_then HB4.out r2); have HG5 := Lib.hid (HG4.out.kept r2); clear r2 hol)
   go_ret2
   exact ⟨_, 0, by rw [HR.out]; rfl, by rw [HR.out]; rfl, by omega, by rw [HR.out]; exact RW.nil _ _ _, HB5.out⟩
end
end Go.Proofs.YtfcakjpljjnjnaaGreatDoor
