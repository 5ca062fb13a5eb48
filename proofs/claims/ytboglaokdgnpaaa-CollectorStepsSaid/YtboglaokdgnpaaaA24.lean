/- Several texts in one: Tf, Tg. -/
import Derived.Test.YtboglaokdgnpaaaA22
/- The situation's propose. -/
namespace Go.Proofs.Ytboglaokdgnpaaa
open Go Go.RowKit Gf Sha

set_option maxRecDepth 100000 in
set_option maxHeartbeats 4000000 in
theorem propose_any (w : World) (b : Nat) (m0 m1 m2 m3 m4 m5 m6 m7 : Nat) (a0 : Option Addr) (n0 c0 : Nat) (a1 : Option Addr) (n1 c1 : Nat) (a2 : Option Addr) (n2 c2 : Nat) (a3 : Option Addr) (n3 c3 : Nat) (a4 : Option Addr) (n4 c4 : Nat) (a5 : Option Addr) (n5 c5 : Nat) (x : Si) (h : StM w b m0 m1 m2 m3 m4 m5 m6 m7 a0 n0 c0 a1 n1 c1 a2 n2 c2 a3 n3 c3 a4 n4 c4 a5 n5 c5 x.pct (st0 x)) (hq : SiOk w a0 n0 c0 a1 n1 c1 a2 n2 c2 a3 n3 c3 a4 n4 c4 a5 n5 c5 x) (hv : siB x = true) (hbig : x.sp.length ≤ 1000) :
  Calls Try.prog 40 #[.pointer (some ⟨b, 0, none⟩)] w fun e w' => ∃ cs, e = .returned (.agg cs.toArray) ∧ rStpT w' cs (prStp x) ∧ Below w.heap.size w w' := by
 have hn := hq.sp.len_le
 have H := Lib.hid hq
 have HL := Lib.hid hq.sp.1
 have HBG := Lib.hid hbig
 have HST := Lib.hid h
 have HPC := Lib.hid (siB_pct hv)
 clear h hq hbig
 go_enter Try.func40, Try.ntmps40
 go_wp2_with (first
  | ((with_reducible show OpW 1); refine wpList_box1 _ rfl 74 (.tmp 0) rfl (.pointer (some ⟨b, 0, none⟩)) rfl rfl ?_; intro w1 a1 a2 a3; have HC1 := Lib.hid a1; have HB1 := Lib.hid a2; clear a1 a2 a3)
  | ((with_reducible show OpW 2); refine wpList_alloc _ rfl 44 rfl stpZ stpZero ?_; intro w2 a1 a2 a3; have HS2 := Lib.hid a1; have HB2 := Lib.hid (below_then HB1.out a2); have HC2 := Lib.hid (HC1.out.kept a2); clear a1 a2 a3)
  | ((with_reducible show OpN); refine wpList_store1 _ rfl 3 (.tmp 14) (.const (.int .i64 2)) rfl (intSz _) w1.heap.size 0 _ _ (.int .i64 2) rfl rfl HS2.out rfl rfl (by simp) ?_; intro wk a1 a2 a3; have HSk := Lib.hid a1; have HKk := Lib.hid a2; have HCk := Lib.hid (a2.bl HC2.out (HC2.out.ne HS2.out (by decide))); clear a1 a2 a3)
  | ((with_reducible show OpW 15); refine wpList_makeG (enc := usC) _ rfl 77 9 rfl (.int .i64 0) ?_; intro wm a1 a2 a3; have HMm := Lib.hid a1; have HBm := Lib.hid a2; have HSm := Lib.hid (HSk.out.kept a2); have HCm := Lib.hid (HCk.out.kept a2); clear a1 a2 a3)
  | ((with_reducible show OpW 3); refine wpList_alloc1 _ rfl 77 rfl (.map none) mapSIZero rfl ?_; intro wa a1 a2 a3; have HDa := Lib.hid a1; have HBa := Lib.hid a2; have HMa := Lib.hid (HMm.out.kept a2); have HSa := Lib.hid (HSm.out.kept a2); have HCa := Lib.hid (HCm.out.kept a2); clear a1 a2 a3)
  | ((with_reducible show OpN); refine wpList_store1 _ rfl 77 (.tmp 3) (.tmp 15) rfl (ptrSz _) wm.heap.size 0 _ _ (.map (some wk.heap.size)) rfl rfl HDa.out rfl rfl (by simp) ?_; intro wi a1 a2 a3; have HDi := Lib.hid a1; have HKi := Lib.hid a2; have HSi := Lib.hid (a2.bl HSa.out (HSa.out.ne HDa.out (by decide))); have HCi := Lib.hid (a2.bl HCa.out (HCa.out.ne HDa.out (by decide))); have HMi := Lib.hid (HMa.out.kp a2 (fun e => HMa.out.no_cells (by rw [e]; exact HDa.out))); have p0 := (a2.bl HCa.out (HCa.out.ne HDa.out (by decide))).get (j := 0) rfl; have HBi : Hid (Below w.heap.size w wi) := Lib.hid ((((((Kp.of_below (S := fun _ => False) HB2.out).after HKk.out (fun i hi e => by have := HB1.out.size; omega)).then HBm.out).then HBa.out).after a2 (fun i hi e => by have h1 := HB2.out.size; have h2 := HKk.out.size; have h3 := HBm.out.size; omega)).below (Nat.le_refl _) (fun _ h => h.elim)); have q0 := (HST.out.blk.kept HBi.out).get (j := 0) rfl; clear a1 a2 a3))
 have HPS : Hid (PS w wi b w.heap.size w1.heap.size wm.heap.size wk.heap.size (cntN (cfOf x (x.sp.take 0))) none 0 0 []) := Lib.hid ⟨HCi.out, HDi.out, HMi.out, ⟨HSi.out, OL.nil _ _ _ _ _, OL.nil _ _ _ _ _⟩, by have h1 := HB2.out.size; have h2 := HKk.out.size; have h3 := HBm.out.size; have h4 := HB1.out.size; omega, HBi.out⟩
 obtain ⟨g1, hg1⟩ : ∃ g1, g1 = w.heap.size := ⟨_, rfl⟩
 obtain ⟨gs, hgs⟩ : ∃ gs, gs = w1.heap.size := ⟨_, rfl⟩
 obtain ⟨g2, hg2⟩ : ∃ g2, g2 = wm.heap.size := ⟨_, rfl⟩
 obtain ⟨ms, hms⟩ : ∃ ms, ms = wk.heap.size := ⟨_, rfl⟩
 replace HPS : Hid (PS w wi b g1 gs g2 ms (cntN (cfOf x (x.sp.take 0))) none 0 0 []) := by rw [hg1, hgs, hg2, hms]; exact HPS
 rw [← hg1, ← hgs, ← hg2, ← hms]
 clear p0 q0 hg1 hgs hg2 hms HC1 HB1 HS2 HB2 HC2 HSk HKk HCk HMm HBm HSm HCm HDa HBa HMa HSa HCa HDi HKi HSi HCi HMi HBi
 go_loopw [23] (fun iv wr => ∃ k : Nat, k ≤ n0 ∧ iv = .int .i64 (k : Int) ∧ Hid (PS w wr b g1 gs g2 ms (cntN (cfOf x (x.sp.take k))) none 0 0 [])) (fun iv _ => n0 - (intOf iv).toNat)
 case atStart => exact ⟨0, by omega, rfl, HPS⟩
 case round =>
  obtain ⟨k, hk, rfl, hps⟩ := hrel
  obtain ⟨wx, hwx⟩ : ∃ x, x = wr := ⟨_, rfl⟩
  rw [← hwx] at hps ⊢
  clear hwx
  have HBx := Lib.hid hps.out.bel
  by_cases hlt : k < n0
  ·
   obtain ⟨s, g, o, cs, hs, rfl, hat, hsp⟩ := H.out.sp.at_ stay_sp (Below.refl _ _) hlt
   obtain ⟨A, m, c, rfl, hlr, hid, _⟩ := hsp
   have HLR := Lib.hid hlr
   have HID := Lib.hid hid
   have HX := Lib.hid hs
   have HTK : Hid (x.sp.take (k + 1) = x.sp.take k ++ [s]) := Lib.hid (take_next hs)
   have HA := Lib.hid (hat.kept HBx.out)
   have HM8 : Hid (m ≤ 1000000) := Lib.hid (by have h1 := sp_refs8 hv s (List.mem_of_getElem? hs); have h2 := hlr.1; omega)
   clear hs hat hlr hid
   cases h0 : liveB x s.id with
   | false =>
    have HF : Hid (cfOf x (x.sp.take (k + 1)) = cfOf x (x.sp.take k)) := Lib.hid (by rw [HTK.out, cfOf_step, h0]; simp)
    go_wp2_with (first
     | ((with_reducible show OpW 26); refine wpList_loadv _ rfl 61 (.tmp 25) rfl 6 (by kernel_rfl) g (o + k * 6) (spC s A m c) (by go_simp) HA.out rfl ?_)
     | ((with_reducible show OpW 6); refine wpList_alloc _ rfl 61 rfl spZ spZero ?_; intro w3 a1 a2 a3; have HV3 := Lib.hid a1; have HX3 := Lib.hid a2; clear a1 a2 a3)
     | ((with_reducible show OpN); refine wpList_storev _ rfl 61 (.tmp 6) (.tmp 26) rfl 6 (by kernel_rfl) wx.heap.size 0 _ spZ (spC s A m c) rfl rfl HV3.out rfl (one_sp s A m c) (by decide) ?_; intro w4 a1 a2 a3; have HV4 : Hid (BL w4 wx.heap.size 61 (spC s A m c)) := Lib.hid a1; have HX4 : Hid (Below wx.heap.size wx w4) := Lib.hid (((Kp.of_below (S := fun _ => False) HX3.out).after a2 (fun i hi e => by omega)).below (Nat.le_refl _) (fun _ h => h.elim)); clear a1 a2 a3; have r0 := HV4.out.get (j := 0) rfl; have p0 := (hps.out.c1.kept HX4.out).get (j := 0) rfl)
     | (go_at_call 78; refine (live_st _ _ _ _ _ _ _ _ _ _ _ _ _ _ _ _ _ _ _ _ _ _ _ _ _ _ _ _ _ _ (HST.out.kept (below_thenB HBx.out HBx.out.size HX4.out)) s.id HID.out).mono ?_; rintro e w5 ⟨rfl, hw⟩; rw [hw, st0_live (List.mem_of_getElem? HX.out), h0]; clear hw w5))
    go_roundw
    case rel => exact ⟨k + 1, by omega, by go_num, Lib.hid (by rw [HF.out]; exact hps.out.kept HX4.out)⟩
    case measure => simp [intOf]; omega
   | true =>
    have HF : Hid ((if (st0 x).carr s.id then addF (cntN (cfOf x (x.sp.take k))) s.refs 1 else cntN (cfOf x (x.sp.take k))) = cntN (cfOf x (x.sp.take (k + 1)))) := Lib.hid (by
     rw [HTK.out, cfOf_step, h0, Bool.true_and]
     show (if hasB x.carr s.id then _ else _) = _
     by_cases hc : hasB x.carr s.id = true
     ·
      rw [if_pos hc, if_pos hc]
      funext n
      rw [cntN_append]
      show _ + 1 * _ = _
      omega
     ·
      rw [if_neg hc, if_neg hc, List.append_nil])
    have HSF : Hid (SmallF (cntN (cfOf x (x.sp.take k)))) := Lib.hid (fun n => by have := cf_bound hv HBG.out k n; omega)
    go_wp2_with (first
     | ((with_reducible show OpW 26); refine wpList_loadv _ rfl 61 (.tmp 25) rfl 6 (by kernel_rfl) g (o + k * 6) (spC s A m c) (by go_simp) HA.out rfl ?_)
     | ((with_reducible show OpW 6); refine wpList_alloc _ rfl 61 rfl spZ spZero ?_; intro w3 a1 a2 a3; have HV3 := Lib.hid a1; have HX3 := Lib.hid a2; clear a1 a2 a3)
     | ((with_reducible show OpN); refine wpList_storev _ rfl 61 (.tmp 6) (.tmp 26) rfl 6 (by kernel_rfl) wx.heap.size 0 _ spZ (spC s A m c) rfl rfl HV3.out rfl (one_sp s A m c) (by decide) ?_; intro w4 a1 a2 a3; have HV4 : Hid (BL w4 wx.heap.size 61 (spC s A m c)) := Lib.hid a1; have HX4 : Hid (Below wx.heap.size wx w4) := Lib.hid (((Kp.of_below (S := fun _ => False) HX3.out).after a2 (fun i hi e => by omega)).below (Nat.le_refl _) (fun _ h => h.elim)); clear a1 a2 a3; have r0 := HV4.out.get (j := 0) rfl; have p0 := (hps.out.c1.kept HX4.out).get (j := 0) rfl)
     | (go_at_call 78; refine (live_st _ _ _ _ _ _ _ _ _ _ _ _ _ _ _ _ _ _ _ _ _ _ _ _ _ _ _ _ _ _ (HST.out.kept (below_thenB HBx.out HBx.out.size HX4.out)) s.id HID.out).mono ?_; rintro e w5 ⟨rfl, hw⟩; rw [hw, st0_live (List.mem_of_getElem? HX.out), h0]; clear hw w5)
     | ((with_reducible show OpW 32); refine wpList_loadv _ rfl 61 (.tmp 6) rfl 6 (by kernel_rfl) wx.heap.size 0 (spC s A m c) rfl (BL.all HV4.out) rfl ?_)
     | (go_at_call 81; refine (pcount_any _ _ _ _ _ _ _ _ _ _ _ _ _ _ _ _ _ _ _ _ _ _ _ _ _ _ _ _ _ _ (HST.out.kept (below_thenB HBx.out HBx.out.size HX4.out)) g1 g2 ms _ (hps.out.kept HX4.out).c1 (hps.out.kept HX4.out).c2 (hps.out.kept HX4.out).sf HSF.out s HID.out A m c (HLR.out.kept stay_rf (below_thenB HBx.out HBx.out.size HX4.out)) HM8.out 1 (by omega) (by omega)).mono ?_; rintro e w7 ⟨rfl, f7, k7⟩; rw [HF.out] at f7; have HPS7 := Lib.hid ((hps.out.kept HX4.out).setF k7 f7); clear f7 k7))
    go_roundw
    case rel => exact ⟨k + 1, by omega, by go_num, HPS7⟩
    case measure => simp [intOf]; omega
  ·
   obtain rfl : n0 = k := by omega
   have HPS0 : Hid (PS w wx b g1 gs g2 ms (pRun x (x.sp.take 0)).1 none 0 0 (pRun x (x.sp.take 0)).2) := Lib.hid (by
    have := hps.out
    rw [take_end HL.out] at this
    exact this)
   clear hps
   have p0 := HPS0.out.c1.get (j := 0) rfl
   have q0 := (HST.out.blk.kept HBx.out).get (j := 0) rfl
   go_wp2_with fail
   clear p0 q0
   go_loopw [41] (fun iv wr => ∃ k : Nat, k ≤ n0 ∧ iv = .int .i64 (k : Int) ∧ Hid (∃ A1 k1 C1, PS w wr b g1 gs g2 ms (pRun x (x.sp.take k)).1 A1 k1 C1 (pRun x (x.sp.take k)).2)) (fun iv _ => n0 - (intOf iv).toNat)
   case atStart => exact ⟨0, by omega, rfl, Lib.hid ⟨none, 0, 0, HPS0.out⟩⟩
   case round =>
    obtain ⟨k, hk, rfl, hps'⟩ := hrel
    obtain ⟨wx, hwx⟩ : ∃ x, x = wr := ⟨_, rfl⟩
    rw [← hwx] at hps' ⊢
    clear hwx
    obtain ⟨A1, k1, C1, hps⟩ := hps'.out
    clear hps'
    replace hps := Lib.hid hps
    have HBx := Lib.hid hps.out.bel
    by_cases hlt : k < n0
    ·
     obtain ⟨s, g, o, cs, hs, rfl, hat, hsp⟩ := H.out.sp.at_ stay_sp (Below.refl _ _) hlt
     obtain ⟨A, m, c, rfl, hlr, hid, _⟩ := hsp
     have HLR := Lib.hid hlr
     have HID := Lib.hid hid
     have HX := Lib.hid hs
     have HTK : Hid (x.sp.take (k + 1) = x.sp.take k ++ [s]) := Lib.hid (take_next hs)
     have HA := Lib.hid (hat.kept HBx.out)
     have HSB := Lib.hid (spB_refs (okB_at (siB_sp hv) hs))
     have HSZ : Hid (szOk s.refs) := Lib.hid (szOk_of (by have := HSB.out.1; omega) HSB.out.2.2)
     have HM8 : Hid (m ≤ 1000000) := Lib.hid (by have h1 := HSB.out.1; have h2 := hlr.1; omega)
     have HK1000 : Hid (k ≤ 1000) := Lib.hid (by have := HBG.out; have := HL.out; omega)
     have HSF : Hid (SmallF (pRun x (x.sp.take k)).1) := Lib.hid (fun n => by have := pRun_small hv HBG.out k HK1000.out n; omega)
     have HK1 : Hid (k1 ≤ 1000) := Lib.hid (by have h8 := pRun_len x k; have h9 := hps.out.sb.s.len; have := HK1000.out; omega)
     clear hs hat hlr hid
     cases h0 : liveB x s.id with
     | false =>
      have HF : Hid (pRun x (x.sp.take (k + 1)) = pRun x (x.sp.take k)) := Lib.hid (by rw [HTK.out, pRun_step, pStep, ← st0_unneed, ← st0_sparse, h0]; rfl)
      go_wp2_with (first
       | ((with_reducible show OpW 44); refine wpList_loadv _ rfl 61 (.tmp 43) rfl 6 (by kernel_rfl) g (o + k * 6) (spC s A m c) (by go_simp) HA.out rfl ?_)
       | ((with_reducible show OpW 8); refine wpList_alloc _ rfl 61 rfl spZ spZero ?_; intro w3 a1 a2 a3; have HV3 := Lib.hid a1; have HX3 := Lib.hid a2; clear a1 a2 a3)
       | ((with_reducible show OpN); refine wpList_storev _ rfl 61 (.tmp 8) (.tmp 44) rfl 6 (by kernel_rfl) wx.heap.size 0 _ spZ (spC s A m c) rfl rfl HV3.out rfl (one_sp s A m c) (by decide) ?_; intro w4 a1 a2 a3; have HV4 : Hid (BL w4 wx.heap.size 61 (spC s A m c)) := Lib.hid a1; have HX4 : Hid (Below wx.heap.size wx w4) := Lib.hid (((Kp.of_below (S := fun _ => False) HX3.out).after a2 (fun i hi e => by omega)).below (Nat.le_refl _) (fun _ h => h.elim)); clear a1 a2 a3; have r0 := HV4.out.get (j := 0) rfl; have p0 := (hps.out.c1.kept HX4.out).get (j := 0) rfl)
       | (go_at_call 78; refine (live_st _ _ _ _ _ _ _ _ _ _ _ _ _ _ _ _ _ _ _ _ _ _ _ _ _ _ _ _ _ _ (HST.out.kept (below_thenB HBx.out HBx.out.size HX4.out)) s.id HID.out).mono ?_; rintro e w5 ⟨rfl, hw⟩; rw [hw, st0_live (List.mem_of_getElem? HX.out), h0]; clear hw w5)
       | fail)
      go_roundw
      case rel => exact ⟨k + 1, by omega, by go_num, Lib.hid (by rw [HF.out]; exact ⟨A1, k1, C1, hps.out.kept HX4.out⟩)⟩
      case measure => simp [intOf]; omega
     | true =>
      cases h1 : useU (st0 x) s.refs with
      | true =>
       have HGO : Hid ((unneedB x s || sparseB x s) = true) := Lib.hid (by rw [← st0_unneed, h0, h1]; rfl)
       obtain ⟨S, hS⟩ : ∃ S, S = useS (st0 x) x.pct s.refs := ⟨_, rfl⟩
       have h2 := hS.symm
       clear hS
       have HFE : Hid ((if (st0 x).carr s.id then addF (pRun x (x.sp.take k)).1 s.refs (-1) else (pRun x (x.sp.take k)).1) = pTake x (pRun x (x.sp.take k)).1 s) := Lib.hid rfl
       go_wp2_with (first
        | ((with_reducible show OpW 44); refine wpList_loadv _ rfl 61 (.tmp 43) rfl 6 (by kernel_rfl) g (o + k * 6) (spC s A m c) (by go_simp) HA.out rfl ?_)
        | ((with_reducible show OpW 8); refine wpList_alloc _ rfl 61 rfl spZ spZero ?_; intro w3 a1 a2 a3; have HV3 := Lib.hid a1; have HX3 := Lib.hid a2; clear a1 a2 a3)
        | ((with_reducible show OpN); refine wpList_storev _ rfl 61 (.tmp 8) (.tmp 44) rfl 6 (by kernel_rfl) wx.heap.size 0 _ spZ (spC s A m c) rfl rfl HV3.out rfl (one_sp s A m c) (by decide) ?_; intro w4 a1 a2 a3; have HV4 : Hid (BL w4 wx.heap.size 61 (spC s A m c)) := Lib.hid a1; have HX4 : Hid (Below wx.heap.size wx w4) := Lib.hid (((Kp.of_below (S := fun _ => False) HX3.out).after a2 (fun i hi e => by omega)).below (Nat.le_refl _) (fun _ h => h.elim)); clear a1 a2 a3; have r0 := HV4.out.get (j := 0) rfl; have p0 := (hps.out.c1.kept HX4.out).get (j := 0) rfl)
        | (go_at_call 78; refine (live_st _ _ _ _ _ _ _ _ _ _ _ _ _ _ _ _ _ _ _ _ _ _ _ _ _ _ _ _ _ _ (HST.out.kept (below_thenB HBx.out HBx.out.size HX4.out)) s.id HID.out).mono ?_; rintro e w5 ⟨rfl, hw⟩; rw [hw, st0_live (List.mem_of_getElem? HX.out), h0]; clear hw w5)
        | ((with_reducible show OpW 52); refine wpList_loadv _ rfl 61 (.tmp 8) rfl 6 (by kernel_rfl) wx.heap.size 0 (spC s A m c) rfl (BL.all HV4.out) rfl ?_)
        | (go_at_call 80; refine (use_any _ _ _ _ _ _ _ _ _ _ _ _ _ _ _ _ _ _ _ _ _ _ _ _ _ _ _ _ _ _ (HST.out.kept (below_thenB HBx.out HBx.out.size HX4.out)) HPC.out s A m c (HLR.out.kept stay_rf (below_thenB HBx.out HBx.out.size HX4.out)) HSZ.out).mono ?_; rintro e w6 ⟨rfl, b6⟩; rw [h1, h2]; have HX6 := Lib.hid (below_thenB HX4.out HX4.out.size b6); have HV6 := Lib.hid (HV4.out.kept b6); clear b6)
        | ((with_reducible show OpW 63); refine wpList_loadv _ rfl 61 (.tmp 8) rfl 6 (by kernel_rfl) wx.heap.size 0 (spC s A m c) rfl (BL.all HV6.out) rfl ?_)
        | (go_at_call 81; refine (pcount_any _ _ _ _ _ _ _ _ _ _ _ _ _ _ _ _ _ _ _ _ _ _ _ _ _ _ _ _ _ _ (HST.out.kept (below_thenB HBx.out HBx.out.size HX6.out)) g1 g2 ms _ (hps.out.kept HX6.out).c1 (hps.out.kept HX6.out).c2 (hps.out.kept HX6.out).sf HSF.out s HID.out A m c (HLR.out.kept stay_rf (below_thenB HBx.out HBx.out.size HX6.out)) HM8.out (-1) (by omega) (by omega)).mono ?_; rintro e w7 ⟨rfl, f7, k7⟩; rw [HFE.out] at f7; have HPS7 := Lib.hid ((hps.out.kept HX6.out).setF k7 f7); have HV7 := Lib.hid (k7.bl HV6.out (fun e => (hps.out.kept HX6.out).sf.no_cells (by rw [← e]; exact HV6.out))); have p5 := (k7.bl HV6.out (fun e => (hps.out.kept HX6.out).sf.no_cells (by rw [← e]; exact HV6.out))).get (j := 5) rfl; clear f7 k7))
       clear p5
       have hm := HLR.out.len_le
       have HML := Lib.hid HLR.out.1
       go_loopw [11, 68] (fun u iv wr => ∃ j : Nat, j ≤ m ∧ iv = .int .i64 (j : Int) ∧ Hid (u = .bool ((s.refs.take j).all (pOk x (pTake x (pRun x (x.sp.take k)).1 s)))) ∧ Hid (Below w7.heap.size w7 wr)) (fun _ iv _ => m - (intOf iv).toNat)
       case atStart => exact ⟨0, by omega, rfl, Lib.hid rfl, Lib.hid (Below.refl _ _)⟩
       case round =>
        obtain ⟨j, hj, rfl, hu, hb'⟩ := hrel
        obtain ⟨wy, hwy⟩ : ∃ x, x = wr := ⟨_, rfl⟩
        rw [← hwy] at hb' ⊢
        clear hwy
        obtain rfl := hu.out
        clear hu
        have HBy := Lib.hid (below_thenB HPS7.out.bel HPS7.out.bel.size hb'.out)
        by_cases hjm : j < m
        ·
         obtain ⟨r, g', o', cs', hr', e', hat', hcs', hok⟩ := HLR.out.at_ stay_rf (Below.refl _ _) hjm
         subst e'
         subst hcs'
         have HA' := Lib.hid (hat'.kept HBy.out)
         have HKS := Lib.hid (keyS r.1 (reach_key hok.1))
         have HAL : Hid ((s.refs.take (j + 1)).all (pOk x (pTake x (pRun x (x.sp.take k)).1 s)) = ((s.refs.take j).all (pOk x (pTake x (pRun x (x.sp.take k)).1 s)) && pOk x (pTake x (pRun x (x.sp.take k)).1 s) r)) := Lib.hid (by rw [take_next hr', List.all_append]; simp)
         clear hr' hat' hok
         cases h3 : (s.refs.take j).all (pOk x (pTake x (pRun x (x.sp.take k)).1 s)) with
         | false =>
          go_wp2_with (first
           | ((with_reducible show OpW 71); refine wpList_loadv _ rfl 73 (.tmp 70) rfl 3 (by kernel_rfl) g' (o' + j * 3) (rfL r) (by go_simp) HA'.out rfl ?_)
           | ((with_reducible show OpW 13); refine wpList_alloc _ rfl 73 rfl rfZ rfZero ?_; intro w3 a1 a2 a3; have HV3 := Lib.hid a1; have HX3 := Lib.hid a2; clear a1 a2 a3)
           | ((with_reducible show OpN); refine wpList_storev _ rfl 73 (.tmp 13) (.tmp 71) rfl 3 (by kernel_rfl) wy.heap.size 0 _ rfZ (rfL r) rfl rfl HV3.out rfl (one_rf r) (by decide) ?_; intro w4 a1 a2 a3; have HV4 : Hid (BL w4 wy.heap.size 73 (rfL r)) := Lib.hid a1; have HX4 : Hid (Below wy.heap.size wy w4) := Lib.hid (((Kp.of_below (S := fun _ => False) HX3.out).after a2 (fun i hi e => by omega)).below (Nat.le_refl _) (fun _ h => h.elim)); clear a1 a2 a3; have r0 := HV4.out.get (j := 0) rfl; have p0 := (HPS7.out.c1.kept (below_thenB hb'.out hb'.out.size HX4.out)).get (j := 0) rfl; have p2 := (HPS7.out.c2.kept (below_thenB hb'.out hb'.out.size HX4.out)).get (j := 0) rfl; have q8 := (HST.out.blk.kept (below_thenB HBy.out HBy.out.size HX4.out)).get (j := 8) rfl)
           | fail)
          refine Text.wp_region_text (fun _ => True) [(0, 4), (1, 4), (2, 4), (3, 4), (4, 4), (5, 4), (6, 4), (7, 4), (8, 4), (9, 4), (10, 4), (11, 4), (12, 4), (13, 4), (14, 4), (15, 4), (16, 4), (17, 4), (18, 4)] (by kernel_rfl) (by kernel_rfl) (fun _ _ _ _ _ h => h) (trivial) ?_
          iterate 2 (refine Text.purek rfl rfl (fun K hK => ⟨_, fun w' => by go_simp <;> rfl, ?_⟩); go_simp; refine hK _ ?_; clear hK K)
          iterate 15 (refine Text.skipk (.inr (.inr rfl)) rfl rfl (fun K hK => ?_); go_simp; refine hK _ ?_; clear hK K)
          iterate 2 (refine Text.purek rfl rfl (fun K hK => ⟨_, fun w' => by go_simp <;> rfl, ?_⟩); go_simp; refine hK _ ?_; clear hK K)
          refine Text.done ?_
          go_wp2_with fail
          go_roundw
          case rel => exact ⟨j + 1, by omega, by go_num, Lib.hid (by rw [HAL.out, h3]; rfl), Lib.hid (below_thenB hb'.out hb'.out.size HX4.out.drew)⟩
          case measure => simp [intOf]; omega
         | true =>
          cases h4 : (st0 x).need r.1 with
          | false =>
           go_wp2_with (first
            | ((with_reducible show OpW 71); refine wpList_loadv _ rfl 73 (.tmp 70) rfl 3 (by kernel_rfl) g' (o' + j * 3) (rfL r) (by go_simp) HA'.out rfl ?_)
            | ((with_reducible show OpW 13); refine wpList_alloc _ rfl 73 rfl rfZ rfZero ?_; intro w3 a1 a2 a3; have HV3 := Lib.hid a1; have HX3 := Lib.hid a2; clear a1 a2 a3)
            | ((with_reducible show OpN); refine wpList_storev _ rfl 73 (.tmp 13) (.tmp 71) rfl 3 (by kernel_rfl) wy.heap.size 0 _ rfZ (rfL r) rfl rfl HV3.out rfl (one_rf r) (by decide) ?_; intro w4 a1 a2 a3; have HV4 : Hid (BL w4 wy.heap.size 73 (rfL r)) := Lib.hid a1; have HX4 : Hid (Below wy.heap.size wy w4) := Lib.hid (((Kp.of_below (S := fun _ => False) HX3.out).after a2 (fun i hi e => by omega)).below (Nat.le_refl _) (fun _ h => h.elim)); clear a1 a2 a3; have r0 := HV4.out.get (j := 0) rfl; have p0 := (HPS7.out.c1.kept (below_thenB hb'.out hb'.out.size HX4.out)).get (j := 0) rfl; have p2 := (HPS7.out.c2.kept (below_thenB hb'.out hb'.out.size HX4.out)).get (j := 0) rfl; have q8 := (HST.out.blk.kept (below_thenB HBy.out HBy.out.size HX4.out)).get (j := 8) rfl)
            | fail)
           refine Text.wp_region_text (fun _ => True) [(0, 4), (1, 4), (6, 4), (2, 1), (3, 4), (4, 4), (5, 1), (7, 1), (8, 2), (9, 4), (10, 4), (11, 4), (12, 4), (13, 4), (14, 4), (15, 4), (16, 4), (17, 4), (18, 4)] (by kernel_rfl) (by kernel_rfl) (fun _ _ _ _ _ h => h) (trivial) ?_
           iterate 3 (refine Text.purek rfl rfl (fun K hK => ⟨_, fun w' => by go_simp <;> rfl, ?_⟩); go_simp; refine hK _ ?_; clear hK K)
           (refine Text.readk rfl rfl (fun K hK => ⟨_, by go_simp <;> rfl, ?_⟩); go_simp; refine hK _ ?_; clear hK K)
           iterate 2 (refine Text.purek rfl rfl (fun K hK => ⟨_, fun w' => by go_simp <;> rfl, ?_⟩); go_simp; refine hK _ ?_; clear hK K)
           iterate 2 (refine Text.readk rfl rfl (fun K hK => ⟨_, by go_simp <;> rfl, ?_⟩); go_simp; refine hK _ ?_; clear hK K)
           refine Text.effw rfl rfl (fun K hK => ?_)
           refine wp_lookG _ (.tmp 77) (.tmp 79) 78 9 4 rfl strKeyed mapSB (.bool false) boolZero m1 _ rfl (HST.out.maps.kept (below_thenB HBy.out HBy.out.size HX4.out.drew)).need r.1 rfl HKS.out ?_
           rw [h4]
           go_simp
           refine hK _ _ trivial ?_
           clear hK K
           iterate 2 (refine Text.purek rfl rfl (fun K hK => ⟨_, fun w' => by go_simp <;> rfl, ?_⟩); go_simp; refine hK _ ?_; clear hK K)
           iterate 5 (refine Text.skipk (.inr (.inr rfl)) rfl rfl (fun K hK => ?_); go_simp; refine hK _ ?_; clear hK K)
           iterate 3 (refine Text.purek rfl rfl (fun K hK => ⟨_, fun w' => by go_simp <;> rfl, ?_⟩); go_simp; refine hK _ ?_; clear hK K)
           refine Text.done ?_
           go_wp2_with fail
           go_roundw
           case rel => exact ⟨j + 1, by omega, by go_num, Lib.hid (by rw [HAL.out, h3, pOk, show hasB x.need r.1 = false from h4]; rfl), Lib.hid (below_thenB hb'.out hb'.out.size HX4.out.drew)⟩
           case measure => simp [intOf]; omega
          | true =>
           obtain ⟨N, hN⟩ : ∃ N, N = pTake x (pRun x (x.sp.take k)).1 s r.1 := ⟨_, rfl⟩
           have HN := Lib.hid hN.symm
           have HOKN : Hid (pOk x (pTake x (pRun x (x.sp.take k)).1 s) r = decide (0 < N)) := Lib.hid (by rw [pOk, show hasB x.need r.1 = true from h4, hN]; rfl)
           clear hN
           go_wp2_with (first
            | ((with_reducible show OpW 71); refine wpList_loadv _ rfl 73 (.tmp 70) rfl 3 (by kernel_rfl) g' (o' + j * 3) (rfL r) (by go_simp) HA'.out rfl ?_)
            | ((with_reducible show OpW 13); refine wpList_alloc _ rfl 73 rfl rfZ rfZero ?_; intro w3 a1 a2 a3; have HV3 := Lib.hid a1; have HX3 := Lib.hid a2; clear a1 a2 a3)
            | ((with_reducible show OpN); refine wpList_storev _ rfl 73 (.tmp 13) (.tmp 71) rfl 3 (by kernel_rfl) wy.heap.size 0 _ rfZ (rfL r) rfl rfl HV3.out rfl (one_rf r) (by decide) ?_; intro w4 a1 a2 a3; have HV4 : Hid (BL w4 wy.heap.size 73 (rfL r)) := Lib.hid a1; have HX4 : Hid (Below wy.heap.size wy w4) := Lib.hid (((Kp.of_below (S := fun _ => False) HX3.out).after a2 (fun i hi e => by omega)).below (Nat.le_refl _) (fun _ h => h.elim)); clear a1 a2 a3; have r0 := HV4.out.get (j := 0) rfl; have p0 := (HPS7.out.c1.kept (below_thenB hb'.out hb'.out.size HX4.out)).get (j := 0) rfl; have p2 := (HPS7.out.c2.kept (below_thenB hb'.out hb'.out.size HX4.out)).get (j := 0) rfl; have q8 := (HST.out.blk.kept (below_thenB HBy.out HBy.out.size HX4.out)).get (j := 8) rfl)
            | fail)
           refine Text.wp_region_text (fun _ => True) [(0, 4), (1, 4), (6, 4), (2, 1), (3, 4), (4, 4), (5, 1), (7, 1), (8, 2), (9, 4), (10, 4), (12, 4), (11, 1), (13, 1), (14, 2), (15, 4), (16, 4), (17, 4), (18, 4)] (by kernel_rfl) (by kernel_rfl) (fun _ _ _ _ _ h => h) (trivial) ?_
           iterate 3 (refine Text.purek rfl rfl (fun K hK => ⟨_, fun w' => by go_simp <;> rfl, ?_⟩); go_simp; refine hK _ ?_; clear hK K)
           (refine Text.readk rfl rfl (fun K hK => ⟨_, by go_simp <;> rfl, ?_⟩); go_simp; refine hK _ ?_; clear hK K)
           iterate 2 (refine Text.purek rfl rfl (fun K hK => ⟨_, fun w' => by go_simp <;> rfl, ?_⟩); go_simp; refine hK _ ?_; clear hK K)
           iterate 2 (refine Text.readk rfl rfl (fun K hK => ⟨_, by go_simp <;> rfl, ?_⟩); go_simp; refine hK _ ?_; clear hK K)
           refine Text.effw rfl rfl (fun K hK => ?_)
           refine wp_lookG _ (.tmp 77) (.tmp 79) 78 9 4 rfl strKeyed mapSB (.bool false) boolZero m1 _ rfl (HST.out.maps.kept (below_thenB HBy.out HBy.out.size HX4.out.drew)).need r.1 rfl HKS.out ?_
           rw [h4]
           go_simp
           refine hK _ _ trivial ?_
           clear hK K
           iterate 3 (refine Text.purek rfl rfl (fun K hK => ⟨_, fun w' => by go_simp <;> rfl, ?_⟩); go_simp; refine hK _ ?_; clear hK K)
           iterate 2 (refine Text.readk rfl rfl (fun K hK => ⟨_, by go_simp <;> rfl, ?_⟩); go_simp; refine hK _ ?_; clear hK K)
           refine Text.effw rfl rfl (fun K hK => ?_)
           refine wp_lookG _ (.tmp 83) (.tmp 85) 77 9 3 rfl strKeyed mapSI (.int .i64 0) intZero ms _ rfl (HPS7.out.sf.kept (below_thenB hb'.out hb'.out.size HX4.out.drew)) r.1 rfl HKS.out ?_
           rw [HN.out]
           go_simp
           refine hK _ _ trivial ?_
           clear hK K
           iterate 4 (refine Text.purek rfl rfl (fun K hK => ⟨_, fun w' => by go_simp <;> rfl, ?_⟩); go_simp; refine hK _ ?_; clear hK K)
           refine Text.done ?_
           go_wp2_with fail
           go_roundw
           case rel => exact ⟨j + 1, by omega, by go_num, Lib.hid (by rw [HAL.out, h3, HOKN.out]; rfl), Lib.hid (below_thenB hb'.out hb'.out.size HX4.out.drew)⟩
           case measure => simp [intOf]; omega
        ·
         obtain rfl : m = j := by omega
         rw [take_end HML.out]
         have HPS8 := Lib.hid (HPS7.out.kept hb'.out)
         have HV8 := Lib.hid (HV7.out.kept hb'.out)
         have p1 := HPS8.out.sb.blk.get (j := 1) rfl
         have r0 := HV8.out.get (j := 0) rfl
         cases h3 : s.refs.all (pOk x (pTake x (pRun x (x.sp.take k)).1 s)) with
         | true =>
          have HF : Hid (pRun x (x.sp.take (k + 1)) = (pTake x (pRun x (x.sp.take k)).1 s, (pRun x (x.sp.take k)).2 ++ [s.id])) := Lib.hid (by rw [HTK.out, pRun_step, pStep, HGO.out, if_pos rfl, pUp, h3, if_pos rfl])
          obtain ⟨css, hc1, hc2, hc3, hc4, hc5⟩ := HPS8.out.sb.s
          rw [HPS8.out.sb.s.len] at hc4
          have HC1 := Lib.hid hc1
          have HC2 := Lib.hid hc2
          have HC3 := Lib.hid hc3
          have HC4 := Lib.hid hc4
          have HC5 := Lib.hid hc5
          clear hc1 hc2 hc3 hc4 hc5
          go_wp2_with (first
           | ((with_reducible show OpW 96); refine wpList_bslice _ rfl 23 9 1 _ rfl #[(0, .string (strB s.id))] (by rw [List.map_toArray]; rfl) [.string (strB s.id)] (bslStr s.id _) ?_; intro w8 a1 a2 a3; have HG8 := Lib.hid a1; have HX8 := Lib.hid a2; clear a1 a2 a3)
           | ((with_reducible show OpW 97); obtain ⟨iS, i1, i2, i3, i4⟩ := info_some infoStr; refine wpList_appRW _ rfl (.tmp 93) (.tmp 96) 23 9 1 iS _ rfl Try.underlying23 i1 i2 i3 rfl _ k1 _ rfl (HC4.out.kept HX8.out) wy.heap.size _ rfl HG8.out rfl (one_str s.id) (by rw [i4]; have := HK1.out; omega) (by have := HK1.out; omega) ?_; intro v' w9 a1; obtain ⟨A9, C9, e9, _⟩ := a1.row.form; subst e9; have HR9 := Lib.hid a1; have HG9 := Lib.hid (a1.bl (HC4.out.kept HX8.out) (HPS8.out.sb.blk.kept HX8.out) (by decide)); clear a1 i1 i2 i3 i4)
           | ((with_reducible show OpN); refine wpList_store1 _ rfl 23 (.tmp 98) (.tmp 97) rfl (strSz _) gs 1 _ _ (.slice A9 (k1 + 1) C9) rfl rfl HG9.out rfl rfl (by simp) ?_; intro w10 a1 a2 a3; have HG10 := Lib.hid a1; have HK10 := Lib.hid a2; clear a1 a2 a3))
          have HP10 := Lib.hid ((HPS8.out.kept HX8.out).push HC1.out HC2.out HC3.out HC5.out (HC4.out.kept HX8.out) HID.out HR9.out HG10.out HK10.out)
          go_roundw
          case rel => exact ⟨k + 1, by omega, by go_num, Lib.hid (by rw [HF.out]; exact ⟨A9, k1 + 1, C9, HP10.out⟩)⟩
          case measure => simp [intOf]; omega
         | false =>
          have HF : Hid (pRun x (x.sp.take (k + 1)) = pRun x (x.sp.take k)) := Lib.hid (by rw [HTK.out, pRun_step, pStep, HGO.out, if_pos rfl, pUp, h3]; rfl)
          have HSF2 : Hid (SmallF (pTake x (pRun x (x.sp.take k)).1 s)) := Lib.hid (fun n => by
           have h5 := pRun_small hv HBG.out k HK1000.out n
           have h6 := pTake_bound x (pRun x (x.sp.take k)).1 s HSB.out.1 n
           omega)
          have HBK : Hid ((if (st0 x).carr s.id then addF (pTake x (pRun x (x.sp.take k)).1 s) s.refs 1 else pTake x (pRun x (x.sp.take k)).1 s) = (pRun x (x.sp.take k)).1) := Lib.hid (pTake_back x (pRun x (x.sp.take k)).1 s)
          go_wp2_with (first
           | ((with_reducible show OpW 100); refine wpList_loadv _ rfl 61 (.tmp 8) rfl 6 (by kernel_rfl) wx.heap.size 0 (spC s _ _ _) rfl (BL.all HV8.out) rfl ?_)
           | (go_at_call 81; refine (pcount_any _ _ _ _ _ _ _ _ _ _ _ _ _ _ _ _ _ _ _ _ _ _ _ _ _ _ _ _ _ _ (HST.out.kept HPS8.out.bel) g1 g2 ms _ HPS8.out.c1 HPS8.out.c2 HPS8.out.sf HSF2.out s HID.out _ _ _ (HLR.out.kept stay_rf HPS8.out.bel) HM8.out 1 (by omega) (by omega)).mono ?_; rintro e w9 ⟨rfl, f7, k7⟩; rw [HBK.out] at f7; have HPS9 := Lib.hid (HPS8.out.setF k7 f7); clear f7 k7))
          go_roundw
          case rel => exact ⟨k + 1, by omega, by go_num, Lib.hid (by rw [HF.out]; exact ⟨A1, k1, C1, HPS9.out⟩)⟩
          case measure => simp [intOf]; omega
      | false =>
       cases h2 : useS (st0 x) x.pct s.refs with
       | true =>
        have HGO : Hid ((unneedB x s || sparseB x s) = true) := Lib.hid (by rw [← st0_sparse, h0, h2, Bool.or_comm]; rfl)
        have HFE : Hid ((if (st0 x).carr s.id then addF (pRun x (x.sp.take k)).1 s.refs (-1) else (pRun x (x.sp.take k)).1) = pTake x (pRun x (x.sp.take k)).1 s) := Lib.hid rfl
        go_wp2_with (first
         | ((with_reducible show OpW 44); refine wpList_loadv _ rfl 61 (.tmp 43) rfl 6 (by kernel_rfl) g (o + k * 6) (spC s A m c) (by go_simp) HA.out rfl ?_)
         | ((with_reducible show OpW 8); refine wpList_alloc _ rfl 61 rfl spZ spZero ?_; intro w3 a1 a2 a3; have HV3 := Lib.hid a1; have HX3 := Lib.hid a2; clear a1 a2 a3)
         | ((with_reducible show OpN); refine wpList_storev _ rfl 61 (.tmp 8) (.tmp 44) rfl 6 (by kernel_rfl) wx.heap.size 0 _ spZ (spC s A m c) rfl rfl HV3.out rfl (one_sp s A m c) (by decide) ?_; intro w4 a1 a2 a3; have HV4 : Hid (BL w4 wx.heap.size 61 (spC s A m c)) := Lib.hid a1; have HX4 : Hid (Below wx.heap.size wx w4) := Lib.hid (((Kp.of_below (S := fun _ => False) HX3.out).after a2 (fun i hi e => by omega)).below (Nat.le_refl _) (fun _ h => h.elim)); clear a1 a2 a3; have r0 := HV4.out.get (j := 0) rfl; have p0 := (hps.out.c1.kept HX4.out).get (j := 0) rfl)
         | (go_at_call 78; refine (live_st _ _ _ _ _ _ _ _ _ _ _ _ _ _ _ _ _ _ _ _ _ _ _ _ _ _ _ _ _ _ (HST.out.kept (below_thenB HBx.out HBx.out.size HX4.out)) s.id HID.out).mono ?_; rintro e w5 ⟨rfl, hw⟩; rw [hw, st0_live (List.mem_of_getElem? HX.out), h0]; clear hw w5)
         | ((with_reducible show OpW 52); refine wpList_loadv _ rfl 61 (.tmp 8) rfl 6 (by kernel_rfl) wx.heap.size 0 (spC s A m c) rfl (BL.all HV4.out) rfl ?_)
         | (go_at_call 80; refine (use_any _ _ _ _ _ _ _ _ _ _ _ _ _ _ _ _ _ _ _ _ _ _ _ _ _ _ _ _ _ _ (HST.out.kept (below_thenB HBx.out HBx.out.size HX4.out)) HPC.out s A m c (HLR.out.kept stay_rf (below_thenB HBx.out HBx.out.size HX4.out)) HSZ.out).mono ?_; rintro e w6 ⟨rfl, b6⟩; rw [h1, h2]; have HX6 := Lib.hid (below_thenB HX4.out HX4.out.size b6); have HV6 := Lib.hid (HV4.out.kept b6); clear b6)
         | ((with_reducible show OpW 63); refine wpList_loadv _ rfl 61 (.tmp 8) rfl 6 (by kernel_rfl) wx.heap.size 0 (spC s A m c) rfl (BL.all HV6.out) rfl ?_)
         | (go_at_call 81; refine (pcount_any _ _ _ _ _ _ _ _ _ _ _ _ _ _ _ _ _ _ _ _ _ _ _ _ _ _ _ _ _ _ (HST.out.kept (below_thenB HBx.out HBx.out.size HX6.out)) g1 g2 ms _ (hps.out.kept HX6.out).c1 (hps.out.kept HX6.out).c2 (hps.out.kept HX6.out).sf HSF.out s HID.out A m c (HLR.out.kept stay_rf (below_thenB HBx.out HBx.out.size HX6.out)) HM8.out (-1) (by omega) (by omega)).mono ?_; rintro e w7 ⟨rfl, f7, k7⟩; rw [HFE.out] at f7; have HPS7 := Lib.hid ((hps.out.kept HX6.out).setF k7 f7); have HV7 := Lib.hid (k7.bl HV6.out (fun e => (hps.out.kept HX6.out).sf.no_cells (by rw [← e]; exact HV6.out))); have p5 := (k7.bl HV6.out (fun e => (hps.out.kept HX6.out).sf.no_cells (by rw [← e]; exact HV6.out))).get (j := 5) rfl; clear f7 k7))
        clear p5
        have hm := HLR.out.len_le
        have HML := Lib.hid HLR.out.1
        go_loopw [11, 68] (fun u iv wr => ∃ j : Nat, j ≤ m ∧ iv = .int .i64 (j : Int) ∧ Hid (u = .bool ((s.refs.take j).all (pOk x (pTake x (pRun x (x.sp.take k)).1 s)))) ∧ Hid (Below w7.heap.size w7 wr)) (fun _ iv _ => m - (intOf iv).toNat)
        case atStart => exact ⟨0, by omega, rfl, Lib.hid rfl, Lib.hid (Below.refl _ _)⟩
        case round =>
         obtain ⟨j, hj, rfl, hu, hb'⟩ := hrel
         obtain ⟨wy, hwy⟩ : ∃ x, x = wr := ⟨_, rfl⟩
         rw [← hwy] at hb' ⊢
         clear hwy
         obtain rfl := hu.out
         clear hu
         have HBy := Lib.hid (below_thenB HPS7.out.bel HPS7.out.bel.size hb'.out)
         by_cases hjm : j < m
         ·
          obtain ⟨r, g', o', cs', hr', e', hat', hcs', hok⟩ := HLR.out.at_ stay_rf (Below.refl _ _) hjm
          subst e'
          subst hcs'
          have HA' := Lib.hid (hat'.kept HBy.out)
          have HKS := Lib.hid (keyS r.1 (reach_key hok.1))
          have HAL : Hid ((s.refs.take (j + 1)).all (pOk x (pTake x (pRun x (x.sp.take k)).1 s)) = ((s.refs.take j).all (pOk x (pTake x (pRun x (x.sp.take k)).1 s)) && pOk x (pTake x (pRun x (x.sp.take k)).1 s) r)) := Lib.hid (by rw [take_next hr', List.all_append]; simp)
          clear hr' hat' hok
          cases h3 : (s.refs.take j).all (pOk x (pTake x (pRun x (x.sp.take k)).1 s)) with
          | false =>
           go_wp2_with (first
            | ((with_reducible show OpW 71); refine wpList_loadv _ rfl 73 (.tmp 70) rfl 3 (by kernel_rfl) g' (o' + j * 3) (rfL r) (by go_simp) HA'.out rfl ?_)
            | ((with_reducible show OpW 13); refine wpList_alloc _ rfl 73 rfl rfZ rfZero ?_; intro w3 a1 a2 a3; have HV3 := Lib.hid a1; have HX3 := Lib.hid a2; clear a1 a2 a3)
            | ((with_reducible show OpN); refine wpList_storev _ rfl 73 (.tmp 13) (.tmp 71) rfl 3 (by kernel_rfl) wy.heap.size 0 _ rfZ (rfL r) rfl rfl HV3.out rfl (one_rf r) (by decide) ?_; intro w4 a1 a2 a3; have HV4 : Hid (BL w4 wy.heap.size 73 (rfL r)) := Lib.hid a1; have HX4 : Hid (Below wy.heap.size wy w4) := Lib.hid (((Kp.of_below (S := fun _ => False) HX3.out).after a2 (fun i hi e => by omega)).below (Nat.le_refl _) (fun _ h => h.elim)); clear a1 a2 a3; have r0 := HV4.out.get (j := 0) rfl; have p0 := (HPS7.out.c1.kept (below_thenB hb'.out hb'.out.size HX4.out)).get (j := 0) rfl; have p2 := (HPS7.out.c2.kept (below_thenB hb'.out hb'.out.size HX4.out)).get (j := 0) rfl; have q8 := (HST.out.blk.kept (below_thenB HBy.out HBy.out.size HX4.out)).get (j := 8) rfl)
            | fail)
           refine Text.wp_region_text (fun _ => True) [(0, 4), (1, 4), (2, 4), (3, 4), (4, 4), (5, 4), (6, 4), (7, 4), (8, 4), (9, 4), (10, 4), (11, 4), (12, 4), (13, 4), (14, 4), (15, 4), (16, 4), (17, 4), (18, 4)] (by kernel_rfl) (by kernel_rfl) (fun _ _ _ _ _ h => h) (trivial) ?_
           iterate 2 (refine Text.purek rfl rfl (fun K hK => ⟨_, fun w' => by go_simp <;> rfl, ?_⟩); go_simp; refine hK _ ?_; clear hK K)
           iterate 15 (refine Text.skipk (.inr (.inr rfl)) rfl rfl (fun K hK => ?_); go_simp; refine hK _ ?_; clear hK K)
           iterate 2 (refine Text.purek rfl rfl (fun K hK => ⟨_, fun w' => by go_simp <;> rfl, ?_⟩); go_simp; refine hK _ ?_; clear hK K)
           refine Text.done ?_
           go_wp2_with fail
           go_roundw
           case rel => exact ⟨j + 1, by omega, by go_num, Lib.hid (by rw [HAL.out, h3]; rfl), Lib.hid (below_thenB hb'.out hb'.out.size HX4.out.drew)⟩
           case measure => simp [intOf]; omega
          | true =>
           cases h4 : (st0 x).need r.1 with
           | false =>
            go_wp2_with (first
             | ((with_reducible show OpW 71); refine wpList_loadv _ rfl 73 (.tmp 70) rfl 3 (by kernel_rfl) g' (o' + j * 3) (rfL r) (by go_simp) HA'.out rfl ?_)
             | ((with_reducible show OpW 13); refine wpList_alloc _ rfl 73 rfl rfZ rfZero ?_; intro w3 a1 a2 a3; have HV3 := Lib.hid a1; have HX3 := Lib.hid a2; clear a1 a2 a3)
             | ((with_reducible show OpN); refine wpList_storev _ rfl 73 (.tmp 13) (.tmp 71) rfl 3 (by kernel_rfl) wy.heap.size 0 _ rfZ (rfL r) rfl rfl HV3.out rfl (one_rf r) (by decide) ?_; intro w4 a1 a2 a3; have HV4 : Hid (BL w4 wy.heap.size 73 (rfL r)) := Lib.hid a1; have HX4 : Hid (Below wy.heap.size wy w4) := Lib.hid (((Kp.of_below (S := fun _ => False) HX3.out).after a2 (fun i hi e => by omega)).below (Nat.le_refl _) (fun _ h => h.elim)); clear a1 a2 a3; have r0 := HV4.out.get (j := 0) rfl; have p0 := (HPS7.out.c1.kept (below_thenB hb'.out hb'.out.size HX4.out)).get (j := 0) rfl; have p2 := (HPS7.out.c2.kept (below_thenB hb'.out hb'.out.size HX4.out)).get (j := 0) rfl; have q8 := (HST.out.blk.kept (below_thenB HBy.out HBy.out.size HX4.out)).get (j := 8) rfl)
             | fail)
            refine Text.wp_region_text (fun _ => True) [(0, 4), (1, 4), (6, 4), (2, 1), (3, 4), (4, 4), (5, 1), (7, 1), (8, 2), (9, 4), (10, 4), (11, 4), (12, 4), (13, 4), (14, 4), (15, 4), (16, 4), (17, 4), (18, 4)] (by kernel_rfl) (by kernel_rfl) (fun _ _ _ _ _ h => h) (trivial) ?_
            iterate 3 (refine Text.purek rfl rfl (fun K hK => ⟨_, fun w' => by go_simp <;> rfl, ?_⟩); go_simp; refine hK _ ?_; clear hK K)
            (refine Text.readk rfl rfl (fun K hK => ⟨_, by go_simp <;> rfl, ?_⟩); go_simp; refine hK _ ?_; clear hK K)
            iterate 2 (refine Text.purek rfl rfl (fun K hK => ⟨_, fun w' => by go_simp <;> rfl, ?_⟩); go_simp; refine hK _ ?_; clear hK K)
            iterate 2 (refine Text.readk rfl rfl (fun K hK => ⟨_, by go_simp <;> rfl, ?_⟩); go_simp; refine hK _ ?_; clear hK K)
            refine Text.effw rfl rfl (fun K hK => ?_)
            refine wp_lookG _ (.tmp 77) (.tmp 79) 78 9 4 rfl strKeyed mapSB (.bool false) boolZero m1 _ rfl (HST.out.maps.kept (below_thenB HBy.out HBy.out.size HX4.out.drew)).need r.1 rfl HKS.out ?_
            rw [h4]
            go_simp
            refine hK _ _ trivial ?_
            clear hK K
            iterate 2 (refine Text.purek rfl rfl (fun K hK => ⟨_, fun w' => by go_simp <;> rfl, ?_⟩); go_simp; refine hK _ ?_; clear hK K)
            iterate 5 (refine Text.skipk (.inr (.inr rfl)) rfl rfl (fun K hK => ?_); go_simp; refine hK _ ?_; clear hK K)
            iterate 3 (refine Text.purek rfl rfl (fun K hK => ⟨_, fun w' => by go_simp <;> rfl, ?_⟩); go_simp; refine hK _ ?_; clear hK K)
            refine Text.done ?_
            go_wp2_with fail
            go_roundw
            case rel => exact ⟨j + 1, by omega, by go_num, Lib.hid (by rw [HAL.out, h3, pOk, show hasB x.need r.1 = false from h4]; rfl), Lib.hid (below_thenB hb'.out hb'.out.size HX4.out.drew)⟩
            case measure => simp [intOf]; omega
           | true =>
            obtain ⟨N, hN⟩ : ∃ N, N = pTake x (pRun x (x.sp.take k)).1 s r.1 := ⟨_, rfl⟩
            have HN := Lib.hid hN.symm
            have HOKN : Hid (pOk x (pTake x (pRun x (x.sp.take k)).1 s) r = decide (0 < N)) := Lib.hid (by rw [pOk, show hasB x.need r.1 = true from h4, hN]; rfl)
            clear hN
            go_wp2_with (first
             | ((with_reducible show OpW 71); refine wpList_loadv _ rfl 73 (.tmp 70) rfl 3 (by kernel_rfl) g' (o' + j * 3) (rfL r) (by go_simp) HA'.out rfl ?_)
             | ((with_reducible show OpW 13); refine wpList_alloc _ rfl 73 rfl rfZ rfZero ?_; intro w3 a1 a2 a3; have HV3 := Lib.hid a1; have HX3 := Lib.hid a2; clear a1 a2 a3)
             | ((with_reducible show OpN); refine wpList_storev _ rfl 73 (.tmp 13) (.tmp 71) rfl 3 (by kernel_rfl) wy.heap.size 0 _ rfZ (rfL r) rfl rfl HV3.out rfl (one_rf r) (by decide) ?_; intro w4 a1 a2 a3; have HV4 : Hid (BL w4 wy.heap.size 73 (rfL r)) := Lib.hid a1; have HX4 : Hid (Below wy.heap.size wy w4) := Lib.hid (((Kp.of_below (S := fun _ => False) HX3.out).after a2 (fun i hi e => by omega)).below (Nat.le_refl _) (fun _ h => h.elim)); clear a1 a2 a3; have r0 := HV4.out.get (j := 0) rfl; have p0 := (HPS7.out.c1.kept (below_thenB hb'.out hb'.out.size HX4.out)).get (j := 0) rfl; have p2 := (HPS7.out.c2.kept (below_thenB hb'.out hb'.out.size HX4.out)).get (j := 0) rfl; have q8 := (HST.out.blk.kept (below_thenB HBy.out HBy.out.size HX4.out)).get (j := 8) rfl)
             | fail)
            refine Text.wp_region_text (fun _ => True) [(0, 4), (1, 4), (6, 4), (2, 1), (3, 4), (4, 4), (5, 1), (7, 1), (8, 2), (9, 4), (10, 4), (12, 4), (11, 1), (13, 1), (14, 2), (15, 4), (16, 4), (17, 4), (18, 4)] (by kernel_rfl) (by kernel_rfl) (fun _ _ _ _ _ h => h) (trivial) ?_
            iterate 3 (refine Text.purek rfl rfl (fun K hK => ⟨_, fun w' => by go_simp <;> rfl, ?_⟩); go_simp; refine hK _ ?_; clear hK K)
            (refine Text.readk rfl rfl (fun K hK => ⟨_, by go_simp <;> rfl, ?_⟩); go_simp; refine hK _ ?_; clear hK K)
            iterate 2 (refine Text.purek rfl rfl (fun K hK => ⟨_, fun w' => by go_simp <;> rfl, ?_⟩); go_simp; refine hK _ ?_; clear hK K)
            iterate 2 (refine Text.readk rfl rfl (fun K hK => ⟨_, by go_simp <;> rfl, ?_⟩); go_simp; refine hK _ ?_; clear hK K)
            refine Text.effw rfl rfl (fun K hK => ?_)
            refine wp_lookG _ (.tmp 77) (.tmp 79) 78 9 4 rfl strKeyed mapSB (.bool false) boolZero m1 _ rfl (HST.out.maps.kept (below_thenB HBy.out HBy.out.size HX4.out.drew)).need r.1 rfl HKS.out ?_
            rw [h4]
            go_simp
            refine hK _ _ trivial ?_
            clear hK K
            iterate 3 (refine Text.purek rfl rfl (fun K hK => ⟨_, fun w' => by go_simp <;> rfl, ?_⟩); go_simp; refine hK _ ?_; clear hK K)
            iterate 2 (refine Text.readk rfl rfl (fun K hK => ⟨_, by go_simp <;> rfl, ?_⟩); go_simp; refine hK _ ?_; clear hK K)
            refine Text.effw rfl rfl (fun K hK => ?_)
            refine wp_lookG _ (.tmp 83) (.tmp 85) 77 9 3 rfl strKeyed mapSI (.int .i64 0) intZero ms _ rfl (HPS7.out.sf.kept (below_thenB hb'.out hb'.out.size HX4.out.drew)) r.1 rfl HKS.out ?_
            rw [HN.out]
            go_simp
            refine hK _ _ trivial ?_
            clear hK K
            iterate 4 (refine Text.purek rfl rfl (fun K hK => ⟨_, fun w' => by go_simp <;> rfl, ?_⟩); go_simp; refine hK _ ?_; clear hK K)
            refine Text.done ?_
            go_wp2_with fail
            go_roundw
            case rel => exact ⟨j + 1, by omega, by go_num, Lib.hid (by rw [HAL.out, h3, HOKN.out]; rfl), Lib.hid (below_thenB hb'.out hb'.out.size HX4.out.drew)⟩
            case measure => simp [intOf]; omega
         ·
          obtain rfl : m = j := by omega
          rw [take_end HML.out]
          have HPS8 := Lib.hid (HPS7.out.kept hb'.out)
          have HV8 := Lib.hid (HV7.out.kept hb'.out)
          have p1 := HPS8.out.sb.blk.get (j := 1) rfl
          have r0 := HV8.out.get (j := 0) rfl
          cases h3 : s.refs.all (pOk x (pTake x (pRun x (x.sp.take k)).1 s)) with
          | true =>
           have HF : Hid (pRun x (x.sp.take (k + 1)) = (pTake x (pRun x (x.sp.take k)).1 s, (pRun x (x.sp.take k)).2 ++ [s.id])) := Lib.hid (by rw [HTK.out, pRun_step, pStep, HGO.out, if_pos rfl, pUp, h3, if_pos rfl])
           obtain ⟨css, hc1, hc2, hc3, hc4, hc5⟩ := HPS8.out.sb.s
           rw [HPS8.out.sb.s.len] at hc4
           have HC1 := Lib.hid hc1
           have HC2 := Lib.hid hc2
           have HC3 := Lib.hid hc3
           have HC4 := Lib.hid hc4
           have HC5 := Lib.hid hc5
           clear hc1 hc2 hc3 hc4 hc5
           go_wp2_with (first
            | ((with_reducible show OpW 96); refine wpList_bslice _ rfl 23 9 1 _ rfl #[(0, .string (strB s.id))] (by rw [List.map_toArray]; rfl) [.string (strB s.id)] (bslStr s.id _) ?_; intro w8 a1 a2 a3; have HG8 := Lib.hid a1; have HX8 := Lib.hid a2; clear a1 a2 a3)
            | ((with_reducible show OpW 97); obtain ⟨iS, i1, i2, i3, i4⟩ := info_some infoStr; refine wpList_appRW _ rfl (.tmp 93) (.tmp 96) 23 9 1 iS _ rfl Try.underlying23 i1 i2 i3 rfl _ k1 _ rfl (HC4.out.kept HX8.out) wy.heap.size _ rfl HG8.out rfl (one_str s.id) (by rw [i4]; have := HK1.out; omega) (by have := HK1.out; omega) ?_; intro v' w9 a1; obtain ⟨A9, C9, e9, _⟩ := a1.row.form; subst e9; have HR9 := Lib.hid a1; have HG9 := Lib.hid (a1.bl (HC4.out.kept HX8.out) (HPS8.out.sb.blk.kept HX8.out) (by decide)); clear a1 i1 i2 i3 i4)
            | ((with_reducible show OpN); refine wpList_store1 _ rfl 23 (.tmp 98) (.tmp 97) rfl (strSz _) gs 1 _ _ (.slice A9 (k1 + 1) C9) rfl rfl HG9.out rfl rfl (by simp) ?_; intro w10 a1 a2 a3; have HG10 := Lib.hid a1; have HK10 := Lib.hid a2; clear a1 a2 a3))
           have HP10 := Lib.hid ((HPS8.out.kept HX8.out).push HC1.out HC2.out HC3.out HC5.out (HC4.out.kept HX8.out) HID.out HR9.out HG10.out HK10.out)
           go_roundw
           case rel => exact ⟨k + 1, by omega, by go_num, Lib.hid (by rw [HF.out]; exact ⟨A9, k1 + 1, C9, HP10.out⟩)⟩
           case measure => simp [intOf]; omega
          | false =>
           have HF : Hid (pRun x (x.sp.take (k + 1)) = pRun x (x.sp.take k)) := Lib.hid (by rw [HTK.out, pRun_step, pStep, HGO.out, if_pos rfl, pUp, h3]; rfl)
           have HSF2 : Hid (SmallF (pTake x (pRun x (x.sp.take k)).1 s)) := Lib.hid (fun n => by
            have h5 := pRun_small hv HBG.out k HK1000.out n
            have h6 := pTake_bound x (pRun x (x.sp.take k)).1 s HSB.out.1 n
            omega)
           have HBK : Hid ((if (st0 x).carr s.id then addF (pTake x (pRun x (x.sp.take k)).1 s) s.refs 1 else pTake x (pRun x (x.sp.take k)).1 s) = (pRun x (x.sp.take k)).1) := Lib.hid (pTake_back x (pRun x (x.sp.take k)).1 s)
           go_wp2_with (first
            | ((with_reducible show OpW 100); refine wpList_loadv _ rfl 61 (.tmp 8) rfl 6 (by kernel_rfl) wx.heap.size 0 (spC s _ _ _) rfl (BL.all HV8.out) rfl ?_)
            | (go_at_call 81; refine (pcount_any _ _ _ _ _ _ _ _ _ _ _ _ _ _ _ _ _ _ _ _ _ _ _ _ _ _ _ _ _ _ (HST.out.kept HPS8.out.bel) g1 g2 ms _ HPS8.out.c1 HPS8.out.c2 HPS8.out.sf HSF2.out s HID.out _ _ _ (HLR.out.kept stay_rf HPS8.out.bel) HM8.out 1 (by omega) (by omega)).mono ?_; rintro e w9 ⟨rfl, f7, k7⟩; rw [HBK.out] at f7; have HPS9 := Lib.hid (HPS8.out.setF k7 f7); clear f7 k7))
           go_roundw
           case rel => exact ⟨k + 1, by omega, by go_num, Lib.hid (by rw [HF.out]; exact ⟨A1, k1, C1, HPS9.out⟩)⟩
           case measure => simp [intOf]; omega
       | false =>
        have HF : Hid (pRun x (x.sp.take (k + 1)) = pRun x (x.sp.take k)) := Lib.hid (by rw [HTK.out, pRun_step, pStep, ← st0_unneed, ← st0_sparse, h0, h1, h2]; rfl)
        go_wp2_with (first
         | ((with_reducible show OpW 44); refine wpList_loadv _ rfl 61 (.tmp 43) rfl 6 (by kernel_rfl) g (o + k * 6) (spC s A m c) (by go_simp) HA.out rfl ?_)
         | ((with_reducible show OpW 8); refine wpList_alloc _ rfl 61 rfl spZ spZero ?_; intro w3 a1 a2 a3; have HV3 := Lib.hid a1; have HX3 := Lib.hid a2; clear a1 a2 a3)
         | ((with_reducible show OpN); refine wpList_storev _ rfl 61 (.tmp 8) (.tmp 44) rfl 6 (by kernel_rfl) wx.heap.size 0 _ spZ (spC s A m c) rfl rfl HV3.out rfl (one_sp s A m c) (by decide) ?_; intro w4 a1 a2 a3; have HV4 : Hid (BL w4 wx.heap.size 61 (spC s A m c)) := Lib.hid a1; have HX4 : Hid (Below wx.heap.size wx w4) := Lib.hid (((Kp.of_below (S := fun _ => False) HX3.out).after a2 (fun i hi e => by omega)).below (Nat.le_refl _) (fun _ h => h.elim)); clear a1 a2 a3; have r0 := HV4.out.get (j := 0) rfl; have p0 := (hps.out.c1.kept HX4.out).get (j := 0) rfl)
         | (go_at_call 78; refine (live_st _ _ _ _ _ _ _ _ _ _ _ _ _ _ _ _ _ _ _ _ _ _ _ _ _ _ _ _ _ _ (HST.out.kept (below_thenB HBx.out HBx.out.size HX4.out)) s.id HID.out).mono ?_; rintro e w5 ⟨rfl, hw⟩; rw [hw, st0_live (List.mem_of_getElem? HX.out), h0]; clear hw w5)
         | ((with_reducible show OpW 52); refine wpList_loadv _ rfl 61 (.tmp 8) rfl 6 (by kernel_rfl) wx.heap.size 0 (spC s A m c) rfl (BL.all HV4.out) rfl ?_)
         | (go_at_call 80; refine (use_any _ _ _ _ _ _ _ _ _ _ _ _ _ _ _ _ _ _ _ _ _ _ _ _ _ _ _ _ _ _ (HST.out.kept (below_thenB HBx.out HBx.out.size HX4.out)) HPC.out s A m c (HLR.out.kept stay_rf (below_thenB HBx.out HBx.out.size HX4.out)) HSZ.out).mono ?_; rintro e w6 ⟨rfl, b6⟩; rw [h1, h2]; have HX6 := Lib.hid (below_thenB HX4.out HX4.out.size b6); have HV6 := Lib.hid (HV4.out.kept b6); clear b6)
         | fail)
        go_roundw
        case rel => exact ⟨k + 1, by omega, by go_num, Lib.hid (by rw [HF.out]; exact ⟨A1, k1, C1, hps.out.kept HX6.out⟩)⟩
        case measure => simp [intOf]; omega
    ·
     obtain rfl : n0 = k := by omega
     have hps9 := hps.out
     rw [take_end HL.out] at hps9
     have HLE : Hid ((pRun x x.sp).2.length ≤ 1000) := Lib.hid (by have := pRun_len x n0; rw [take_end HL.out] at this; have := HBG.out; have := HL.out; omega)
     obtain ⟨hrw, hmx, hown⟩ := hps9.sb.s.to_rw
     have hlk := hps9.sb.s.len
     rw [hlk] at hrw
     have HPS9 := Lib.hid hps9
     have HRW := Lib.hid hrw
     have HMX := Lib.hid hmx
     have HOWN := Lib.hid hown
     have HLK := Lib.hid hlk
     have p1 := hps9.sb.blk.get (j := 1) rfl
     clear hps9 hrw hmx hown hlk
     go_wp2_with (first
      | (go_at_call 61; refine (sort_rw _ k1 _ _ HRW.out (by have := HLE.out; have := HLK.out; omega)).mono ?_; rintro e ws ⟨rfl, s1, s2⟩; have HRS := Lib.hid s1; have HKS := Lib.hid s2; have HGS := Lib.hid (s2.bl HPS9.out.sb.blk (fun e => HRW.out.ne_bl HPS9.out.sb.blk (by decide) gs e rfl)); clear s1 s2)
      | ((with_reducible show OpW 106); refine wpList_loadv _ rfl 44 (.tmp 2) rfl 5 (by kernel_rfl) gs 0 _ rfl (BL.all HGS.out) rfl ?_)
      | ((with_reducible show OpN); refine wpList_storev _ rfl 44 (.tmp 2) (.tmp 106) rfl 5 (by kernel_rfl) gs 0 _ _ (sbC 2 A1 k1 C1 none 0 0) rfl rfl HGS.out rfl (one_val _ rfl) (by simp) ?_; intro w5 a1 a2 a3; have HT5 : Hid (BL w5 gs 44 (sbC 2 A1 k1 C1 none 0 0)) := Lib.hid a1; have HK5 := Lib.hid a2; clear a1 a2 a3))
     (try simp only [Exit.inBlock, Exit.then])
     have HB5 : Hid (Below w.heap.size w w5) := Lib.hid ((((Kp.of_below (S := fun _ => False) HPS9.out.bel).after HKS.out (fun i hi e => by have := HOWN.out i e; omega)).after HK5.out (fun i hi e => by have := HPS9.out.ge; omega)).below (Nat.le_refl _) (fun _ h => h.elim))
     have HSB5 : Hid (SB w w5 gs 2 A1 k1 C1 none 0 0 (ssort (pRun x x.sp).2) []) := Lib.hid (by
      have hl : (ssort (pRun x x.sp).2).length = k1 := by rw [ssort_length]; exact HLK.out
      refine ⟨HT5.out, OL.of_rw ?_ (fun y hy => HMX.out y ((ssort_mem _ _).1 hy)) HOWN.out, OL.nil _ _ _ _ _⟩
      rw [hl]
      exact HRS.out.kp HK5.out (fun b hb e => HRS.out.ne_bl HGS.out (by decide) b hb e))
     refine bodyPost_ret (results_at w5 Try.results40 (n := 5) (by kernel_rfl) (g := gs) (o := 0) rfl (ms := sbC 2 A1 k1 C1 none 0 0) (BL.all HT5.out) rfl) rfl ⟨_, rfl, HSB5.out.stpT HB5.out (by have := HLE.out; rw [ssort_length]; unfold lim; omega) (by unfold lim; simp) rfl, HB5.out⟩
end Go.Proofs.Ytboglaokdgnpaaa
/- collector.Plan: plain facts; lists of steps in memory. -/
namespace Go.Proofs.Ytboglaokdgnpaaa
open Go Go.RowKit Gf Sha

def delC (p : Pc) : List Value := [.int .i64 3, .slice none 0 0, .string (strB p.1), .int .i64 p.2, .slice none 0 0]
def rDel : Rdg Stp := fun _ cs y => cs = delC y.pc ∧ y = ⟨3, [], y.pc, []⟩ ∧ okPc y.pc
def dels (x : Si) (l : List Pc) : List Stp := (l.filter fun p => hasB x.drop p.1).map fun p => ⟨3, [], p, []⟩
def fgIds (x : Si) (l : List Sp) : List (List UInt8) := (l.filter fun s => hasB x.drop s.id).map (·.id)
def fgStp (x : Si) : Stp := ⟨4, fgIds x x.sp, ([], 0), []⟩
def neS (y : Stp) : Bool := !y.sts.isEmpty
/-- The steps of a plan. -/
def planL (x : Si) : List Stp := dels x x.held ++ [fgStp x, rwStp x, prStp x].filter neS
theorem rDel_stp {w0 w : World} {cs : List Value} {y : Stp} (h : rDel w0 cs y) : rStpT w cs y := by
 obtain ⟨rfl, e, h3⟩ := h
 rw [e]
 refine ⟨⟨none, 0, 0, none, 0, 0, rfl, LS.nil, LS.nil, rfl, h3⟩, fun A n c hm a ha => ?_⟩
 simp only [delC, List.mem_cons, List.not_mem_nil, or_false, Value.slice.injEq, reduceCtorEq, false_or] at hm
 rcases hm with ⟨rfl, _⟩ | ⟨rfl, _⟩ <;> cases ha
theorem infoStp : (Try.prog.info? 44).map (fun i => (i.zero, i.size, i.bytes)) = some (some (.agg stpZ.toArray), 5, 80) := by kernel_rfl
theorem bldDel (p : Pc) (w : World) : (Instr.build 44 #[(0, .int .i64 3), (2, .agg (pcL p).toArray)]).run Try.prog w = .ok (.agg (delC p).toArray) w := by kernel_rfl
theorem bldFg (w : World) : (Instr.build 44 #[(0, .int .i64 4)]).run Try.prog w = .ok (.agg (sbC 4 none 0 0 none 0 0).toArray) w := by kernel_rfl
theorem one_del (p : Pc) : ∀ v ∈ delC p, v.oneCell' = true := one_val _ rfl
theorem bslStp (a : Int) (A0 : Option Addr) (n0 c0 : Nat) (s : ByteArray) (i : Int) (A1 : Option Addr) (n1 c1 : Nat) (w : World) : (Instr.buildSlice 29 1 #[(0, .agg [.int .i64 a, .slice A0 n0 c0, .string s, .int .i64 i, .slice A1 n1 c1].toArray)]).run Try.prog w = .ok (.slice (some ⟨w.heap.size, 0, none⟩) 1 1) (w.alloc (.cells [.int .i64 a, .slice A0 n0 c0, .string s, .int .i64 i, .slice A1 n1 c1].toArray 44)) := by kernel_rfl
theorem bslStp3 (a : Int) (A0 : Option Addr) (n0 c0 : Nat) (s : ByteArray) (i : Int) (A1 : Option Addr) (n1 c1 : Nat) (a' : Int) (A0' : Option Addr) (n0' c0' : Nat) (s' : ByteArray) (i' : Int) (A1' : Option Addr) (n1' c1' : Nat) (a'' : Int) (A0'' : Option Addr) (n0'' c0'' : Nat) (s'' : ByteArray) (i'' : Int) (A1'' : Option Addr) (n1'' c1'' : Nat) (w : World) :
  (Instr.buildSlice 29 3 #[(0, .agg [.int .i64 a, .slice A0 n0 c0, .string s, .int .i64 i, .slice A1 n1 c1].toArray), (1, .agg [.int .i64 a', .slice A0' n0' c0', .string s', .int .i64 i', .slice A1' n1' c1'].toArray), (2, .agg [.int .i64 a'', .slice A0'' n0'' c0'', .string s'', .int .i64 i'', .slice A1'' n1'' c1''].toArray)]).run Try.prog w =
   .ok (.slice (some ⟨w.heap.size, 0, none⟩) 3 3) (w.alloc (.cells [.int .i64 a, .slice A0 n0 c0, .string s, .int .i64 i, .slice A1 n1 c1, .int .i64 a', .slice A0' n0' c0', .string s', .int .i64 i', .slice A1' n1' c1', .int .i64 a'', .slice A0'' n0'' c0'', .string s'', .int .i64 i'', .slice A1'' n1'' c1''].toArray 44)) := by kernel_rfl
theorem RW.ne_rw {w : World} {t1 t2 : TypeId} {s1 s2 n1 n2 : Nat} {v1 v2 : Value} {l1 l2 : List Value} (h1 : RW w t1 s1 v1 n1 l1) (h2 : RW w t2 s2 v2 n2 l2) (ht : t1 ≠ t2) : ∀ b, v1.ownBlock = some b → ¬ v2.ownBlock = some b := fun b e1 e2 => by
 obtain ⟨cs, hb⟩ := h1.ty e1
 exact h2.ne_bl hb ht b e2 rfl
theorem OL.to_n {α : Type} {R R' : Rdg α} {s : Nat} {te : TypeId} {w0 w : World} {v : Value} {L : List α} (h : OL R s te w0 w v L) (hR : ∀ w' cs x, R w0 cs x → R' w' cs x) : OLn R' s te w0.heap.size w v L :=
 let ⟨css, h1, h2, h3, h4, h5⟩ := h; ⟨css, h1, h2, fun w' _ k h h' => hR w' _ _ (h3 k h h'), h4, h5⟩
/-- A list of steps grows by one whose lists lie elsewhere. -/
theorem OLn.pushT {base n : Nat} {w w' : World} {v v' : Value} {L : List Stp} (h : OLn rStpT 5 44 base w v L) (hn : L.length = n) {x : Stp} {xs : List Value} (hxs : xs.length = 5) (hx : rStpT w xs x) (hw : base ≤ w.heap.size) {css : List (List Value)} (hl : css.length = L.length) (h2 : ∀ cs ∈ css, cs.length = 5) (h3 : ∀ w', Kp (fun b => v.ownBlock = some b) w w' → ∀ k (h : k < L.length) (h' : k < css.length), rStpT w' css[k] L[k]) (h5 : ∀ b, v.ownBlock = some b → base ≤ b)
  (ap : AppR w 44 5 v n 1 css.flatten xs v' w') : OLn rStpT 5 44 base w' v' (L ++ [x]) := by
 refine OLn.push hl h2 h3 h5 hn hxs (fun w'' hk => ?_) hw ap
 obtain ⟨css', _, _, _, h4, _⟩ := h
 exact hx.kp hk (fun i hi e => by obtain ⟨cs, hb⟩ := h4.ty e; exact ⟨cs, hb⟩)
theorem dels_step {x : Si} {l : List Pc} {k : Nat} {p : Pc} (h : l[k]? = some p) : dels x (l.take (k + 1)) = dels x (l.take k) ++ (if hasB x.drop p.1 then [⟨3, [], p, []⟩] else []) := filtmap_step h
theorem fgIds_step {x : Si} {l : List Sp} {k : Nat} {p : Sp} (h : l[k]? = some p) : fgIds x (l.take (k + 1)) = fgIds x (l.take k) ++ (if hasB x.drop p.id then [p.id] else []) := filtmap_step h
end Go.Proofs.Ytboglaokdgnpaaa
