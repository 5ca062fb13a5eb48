/- challenge.Refill. -/
import Derived.Test.YtfcakjpljjnjnaaGreatDoorC41
namespace Go.Proofs.YtfcakjpljjnjnaaGreatDoor
open Go Go.RowKit Go.Shelf Gf Sha

/-- What Refill returns: its tokens, its error. -/
def rfiV (K : Ky) (s : Sp) (i : Int) (ps : List Pe) (f c : Int) : List Tk × Int :=
 if okK K = true ∧ rangeB f c = true then
  (if (rebE s ps i).1 = 0 then
   (tksV K (rebE s ps i).2.id (rebE s ps i).2.da (rebE s ps i).2.ix (rebE s ps i).2.da.length f c, errV (tksB K (rebE s ps i).2.id (rebE s ps i).2.ix (rebE s ps i).2.da.length f c))
  else ([], (rebE s ps i).1))
 else ([], 1)
section
set_option maxRecDepth 100000
set_option maxHeartbeats 8000000
theorem refill_any (Kx : Ky) (cs : List Value) (s : Sp) (A : Option Addr) (n c : Nat) (ps : List Pe) (i f c9 : Int) (w : World) (hs : rSp w cs s) (hp : LS rPe 4 72 w A n c ps) (hT : Tabs w) (hn : n ≤ 1000) :
  Calls Tryz.prog 8 #[Kx.val, .agg cs.toArray, .int .i64 i, .slice A n c, .int .i64 f, .int .i64 c9] w (TksRet (rfiV Kx s i ps f c9).1 (rfiV Kx s i ps f c9).2 w) := by
 have HSP := Lib.hid hs
 have HP := Lib.hid hp
 have HT := Lib.hid hT
 have HN := Lib.hid hn
 obtain ⟨R, rn, e, rfl, _⟩ := hs
 clear hp hT hn
 cases hk : okK Kx with
 | false =>
  have HK := Lib.hid hk
  have HR : Hid (rfiV Kx s i ps f c9 = ([], 1)) := Lib.hid (by unfold rfiV; rw [if_neg (by rw [hk]; rintro ⟨h, _⟩; cases h)])
  clear hk
  go_enter Tryz.func8, Tryz.ntmps8
  go_wp2_with (first
   | ((with_reducible show OpW 6); refine wpList_box _ rfl 23 (.tmp 0) rfl Kx.cells rfl ?_; intro w1 a1 a2 a3; have HG1 := Lib.hid a1; have HB1 := Lib.hid a2; clear a1 a2 a3)
   | ((with_reducible show OpW 7); refine wpList_box _ rfl 26 (.tmp 1) rfl (spC s R rn e) rfl ?_; intro w2 y1 y2 y3; have HG2 := Lib.hid (HG1.out.kept y2); have HV2 := Lib.hid y1; have HB2 := Lib.hid (below_then HB1.out y2); clear y1 y2 y3)
   | ((with_reducible show OpW 16); refine wpList_loadv _ rfl 23 (.tmp 6) rfl 5 (by kernel_rfl) w.heap.size 0 Kx.cells rfl (BL.all HG2.out) rfl ?_)
   | (go_at_call 22; refine (areKeys_any Kx w2).mono ?_; rintro e9 w3 ⟨rfl, r2⟩; rw [HK.out]; have HB3 := Lib.hid (below_then HB2.out r2); have HG3 := Lib.hid (HG2.out.kept r2); have HV3 := Lib.hid (HV2.out.kept r2); clear r2)
   | (go_at_call 23; refine (isRange_any f c9 w3).mono ?_; rintro e9 w9 ⟨rfl, rfl⟩; rw [HRG.out])
   | fail)
  go_ret2
  exact ⟨_, 0, by rw [HR.out]; rfl, by rw [HR.out]; rfl, by omega, by rw [HR.out]; exact RW.nil _ _ _, HB3.out⟩
 | true =>
  have HK := Lib.hid hk
  cases hr : rangeB f c9 with
  | false =>
   have HRG := Lib.hid hr
   have HR : Hid (rfiV Kx s i ps f c9 = ([], 1)) := Lib.hid (by unfold rfiV; rw [if_neg (by rw [hr]; rintro ⟨_, h⟩; cases h)])
   clear hk hr
   go_enter Tryz.func8, Tryz.ntmps8
   go_wp2_with (first
    | ((with_reducible show OpW 6); refine wpList_box _ rfl 23 (.tmp 0) rfl Kx.cells rfl ?_; intro w1 a1 a2 a3; have HG1 := Lib.hid a1; have HB1 := Lib.hid a2; clear a1 a2 a3)
    | ((with_reducible show OpW 7); refine wpList_box _ rfl 26 (.tmp 1) rfl (spC s R rn e) rfl ?_; intro w2 y1 y2 y3; have HG2 := Lib.hid (HG1.out.kept y2); have HV2 := Lib.hid y1; have HB2 := Lib.hid (below_then HB1.out y2); clear y1 y2 y3)
    | ((with_reducible show OpW 16); refine wpList_loadv _ rfl 23 (.tmp 6) rfl 5 (by kernel_rfl) w.heap.size 0 Kx.cells rfl (BL.all HG2.out) rfl ?_)
    | (go_at_call 22; refine (areKeys_any Kx w2).mono ?_; rintro e9 w3 ⟨rfl, r2⟩; rw [HK.out]; have HB3 := Lib.hid (below_then HB2.out r2); have HG3 := Lib.hid (HG2.out.kept r2); have HV3 := Lib.hid (HV2.out.kept r2); clear r2)
    | (go_at_call 23; refine (isRange_any f c9 w3).mono ?_; rintro e9 w9 ⟨rfl, rfl⟩; rw [HRG.out])
    | fail)
   go_ret2
   exact ⟨_, 0, by rw [HR.out]; rfl, by rw [HR.out]; rfl, by omega, by rw [HR.out]; exact RW.nil _ _ _, HB3.out⟩
  | true =>
   have HRG := Lib.hid hr
   have HRE : Hid (rfiV Kx s i ps f c9 = if (rebE s ps i).1 = 0 then (tksV Kx (rebE s ps i).2.id (rebE s ps i).2.da (rebE s ps i).2.ix (rebE s ps i).2.da.length f c9, errV (tksB Kx (rebE s ps i).2.id (rebE s ps i).2.ix (rebE s ps i).2.da.length f c9)) else ([], (rebE s ps i).1)) := Lib.hid (by unfold rfiV; rw [if_pos ⟨hk, hr⟩])
   clear hk hr
   obtain ⟨y, hy⟩ : ∃ y, y = (rebE s ps i).2 := ⟨_, rfl⟩
   obtain ⟨z, hz⟩ : ∃ z, z = (rebE s ps i).1 := ⟨_, rfl⟩
   have HRB : ∀ (w3 : World), Below w.heap.size w w3 → Calls Tryz.prog 24 #[.agg (spC s R rn e).toArray, .slice A n c, .int .i64 i] w3 fun e w' => ∃ pc, e = .returned (.tuple #[.agg pc.toArray, .int .i64 z]) ∧ rPe w' pc y ∧ Below w3.heap.size w3 w' := fun w3 hb => by
    rw [hy, hz]
    exact rebuild_any _ s A n c ps i w3 (stay_sp _ _ _ _ HSP.out hb) (HP.out.kept stay_pe hb) (HT.out.kept hb) HN.out
   rw [← hy, ← hz] at HRE
   have HRB := Lib.hid HRB
   clear hy hz
   by_cases h0 : z = 0
   ·
    subst h0
    have HR : Hid (rfiV Kx s i ps f c9 = (tksV Kx y.id y.da y.ix y.da.length f c9, errV (tksB Kx y.id y.ix y.da.length f c9))) := Lib.hid (by rw [HRE.out, if_pos rfl])
    go_enter Tryz.func8, Tryz.ntmps8
    go_wp2_with (first
     | ((with_reducible show OpW 6); refine wpList_box _ rfl 23 (.tmp 0) rfl Kx.cells rfl ?_; intro w1 a1 a2 a3; have HG1 := Lib.hid a1; have HB1 := Lib.hid a2; clear a1 a2 a3)
     | ((with_reducible show OpW 7); refine wpList_box _ rfl 26 (.tmp 1) rfl (spC s R rn e) rfl ?_; intro w2 y1 y2 y3; have HG2 := Lib.hid (HG1.out.kept y2); have HV2 := Lib.hid y1; have HB2 := Lib.hid (below_then HB1.out y2); clear y1 y2 y3)
     | ((with_reducible show OpW 16); refine wpList_loadv _ rfl 23 (.tmp 6) rfl 5 (by kernel_rfl) w.heap.size 0 Kx.cells rfl (BL.all HG2.out) rfl ?_)
     | (go_at_call 22; refine (areKeys_any Kx w2).mono ?_; rintro e9 w3 ⟨rfl, r2⟩; rw [HK.out]; have HB3 := Lib.hid (below_then HB2.out r2); have HG3 := Lib.hid (HG2.out.kept r2); have HV3 := Lib.hid (HV2.out.kept r2); clear r2)
     | (go_at_call 23; refine (isRange_any f c9 w3).mono ?_; rintro e9 w9 ⟨rfl, rfl⟩; rw [HRG.out])
     | ((with_reducible show OpW 26); refine wpList_loadv _ rfl 26 (.tmp 7) rfl 6 (by kernel_rfl) w1.heap.size 0 (spC s R rn e) rfl (BL.all HV3.out) rfl ?_)
     | (go_at_call 24; refine (HRB.out w3 HB3.out).mono ?_; rintro e9 w4 ⟨pc, rfl, hpc, r2⟩; have HPC := Lib.hid hpc; obtain ⟨A9, n9, d9, B9, m9, k9, rfl, hbs, _⟩ := hpc; have HBS := Lib.hid hbs; clear hbs; have HB4 := Lib.hid (below_then HB3.out r2); have HG4 := Lib.hid (HG3.out.kept r2); clear r2)
     | ((with_reducible show OpW 14); refine wpList_alloc _ rfl 48 rfl peZ peZero ?_; intro w5 a1 a2 a3; have HP5 := Lib.hid a1; have HX5 := Lib.hid a2; clear a1 a2 a3)
     | ((with_reducible show OpN); refine wpList_storev _ rfl 48 (.tmp 14) (.tmp 30) rfl 4 (by kernel_rfl) w4.heap.size 0 _ peZ (peC y A9 n9 d9 B9 m9 k9) rfl rfl HP5.out rfl (one_pe y A9 n9 d9 B9 m9 k9) (by decide) ?_; intro w6 a1 a2 a3; have HP6 : Hid (BL w6 w4.heap.size 48 (peC y A9 n9 d9 B9 m9 k9)) := Lib.hid a1; have HX6 : Hid (Below w4.heap.size w4 w6) := Lib.hid (low_kp HX5.out a2 (fun i hi e => by omega)); have HG6 := Lib.hid (HG4.out.kept HX6.out); have q2 := BL.get (j := 2) HP6.out rfl; clear a1 a2 a3)
     | ((with_reducible show OpW 35); refine wpList_loadv _ rfl 23 (.tmp 6) rfl 5 (by kernel_rfl) w.heap.size 0 Kx.cells rfl (BL.all HG6.out) rfl ?_)
     | ((with_reducible show OpW 37); refine wpList_loadv _ rfl 31 (.tmp 36) rfl 2 (by kernel_rfl) w4.heap.size 0 [.string (strB y.id), .int .i64 y.ix] (by go_simp) (fun j v hj => (BL.all HP6.out) j v (by match j, hj with | 0, hj => exact hj | 1, hj => exact hj)) rfl ?_)
     | (go_at_call 14; refine (tokens_all Kx y.id y.da y.ix n9 d9 f c9 A9 w6 (HBS.out.kept HX6.out) (HT.out.kept (below_then HB4.out HX6.out))).mono ?_; rintro e9 w7 ⟨v7, n7, rfl, r1, r2, r3, r4⟩; have H71 := Lib.hid r1; have H72 := Lib.hid r2; have H73 := Lib.hid r3; have HB7 := Lib.hid (below_then (below_then HB4.out HX6.out) r4); clear r1 r2 r3 r4))
    go_ret2
    exact ⟨v7, n7, by rw [HR.out, HBS.out.1]; rfl, by rw [HR.out, HBS.out.1]; exact H71.out, H72.out, by rw [HR.out, HBS.out.1]; exact H73.out, HB7.out⟩
   ·
    have HR : Hid (rfiV Kx s i ps f c9 = ([], z)) := Lib.hid (by rw [HRE.out, if_neg h0])
    have f0 : (z != 0) = true := by rw [bne_iff_ne]; exact h0
    clear h0
    go_enter Tryz.func8, Tryz.ntmps8
    go_wp2_with (first
     | ((with_reducible show OpW 6); refine wpList_box _ rfl 23 (.tmp 0) rfl Kx.cells rfl ?_; intro w1 a1 a2 a3; have HG1 := Lib.hid a1; have HB1 := Lib.hid a2; clear a1 a2 a3)
     | ((with_reducible show OpW 7); refine wpList_box _ rfl 26 (.tmp 1) rfl (spC s R rn e) rfl ?_; intro w2 y1 y2 y3; have HG2 := Lib.hid (HG1.out.kept y2); have HV2 := Lib.hid y1; have HB2 := Lib.hid (below_then HB1.out y2); clear y1 y2 y3)
     | ((with_reducible show OpW 16); refine wpList_loadv _ rfl 23 (.tmp 6) rfl 5 (by kernel_rfl) w.heap.size 0 Kx.cells rfl (BL.all HG2.out) rfl ?_)
     | (go_at_call 22; refine (areKeys_any Kx w2).mono ?_; rintro e9 w3 ⟨rfl, r2⟩; rw [HK.out]; have HB3 := Lib.hid (below_then HB2.out r2); have HG3 := Lib.hid (HG2.out.kept r2); have HV3 := Lib.hid (HV2.out.kept r2); clear r2)
     | (go_at_call 23; refine (isRange_any f c9 w3).mono ?_; rintro e9 w9 ⟨rfl, rfl⟩; rw [HRG.out])
     | ((with_reducible show OpW 26); refine wpList_loadv _ rfl 26 (.tmp 7) rfl 6 (by kernel_rfl) w1.heap.size 0 (spC s R rn e) rfl (BL.all HV3.out) rfl ?_)
     | (go_at_call 24; refine (HRB.out w3 HB3.out).mono ?_; rintro e9 w4 ⟨pc, rfl, hpc, r2⟩; have HPC := Lib.hid hpc; obtain ⟨A9, n9, d9, B9, m9, k9, rfl, _⟩ := hpc; have HB4 := Lib.hid (below_then HB3.out r2); have HG4 := Lib.hid (HG3.out.kept r2); clear r2)
     | ((with_reducible show OpW 14); refine wpList_alloc _ rfl 48 rfl peZ peZero ?_; intro w5 a1 a2 a3; have HP5 := Lib.hid a1; have HX5 := Lib.hid a2; clear a1 a2 a3)
     | ((with_reducible show OpN); refine wpList_storev _ rfl 48 (.tmp 14) (.tmp 30) rfl 4 (by kernel_rfl) w4.heap.size 0 _ peZ (peC y A9 n9 d9 B9 m9 k9) rfl rfl HP5.out rfl (one_pe y A9 n9 d9 B9 m9 k9) (by decide) ?_; intro w6 a1 a2 a3; have HB6 : Hid (Below w.heap.size w w6) := Lib.hid (below_then HB4.out (low_kp HX5.out a2 (fun i hi e => by omega))); clear a1 a2 a3))
    go_ret2
    exact ⟨_, 0, by rw [HR.out]; rfl, by rw [HR.out]; rfl, by omega, by rw [HR.out]; exact RW.nil _ _ _, HB6.out⟩
end
end Go.Proofs.YtfcakjpljjnjnaaGreatDoor
