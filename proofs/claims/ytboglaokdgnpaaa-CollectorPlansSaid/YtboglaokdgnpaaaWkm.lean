/- The reference's Plan. -/
import Derived.Test.YtboglaokdgnpaaaWjm
import Derived.Test.YtboglaokdgnpaaaWim
import Derived.Deep.DeepCutAuto
namespace Go.Proofs.Ytboglaokdgnpaaa
open Go Go.RowKit Gf Sha

def gvStp (x : Si) : Stp := ⟨2, givL x, ([], 0), []⟩
theorem givL_len (x : Si) : (givL x).length ≤ x.sp.length := by
 have := givRun_len x x.sp.length
 rw [List.take_length] at this
 exact this
theorem OLn.mono {α : Type} {R R' : Rdg α} {s base : Nat} {te : TypeId} {w : World} {v : Value} {L : List α} (h : OLn R s te base w v L) (hR : ∀ w cs x, R w cs x → R' w cs x) : OLn R' s te base w v L :=
 let ⟨css, h1, h2, h3, h4, h5⟩ := h; ⟨css, h1, h2, fun w' hk k h h' => hR _ _ _ (h3 w' hk k h h'), h4, h5⟩
theorem OLn.row {α : Type} {R : Rdg α} {s base : Nat} {te : TypeId} {w : World} {v : Value} {L : List α} (h : OLn R s te base w v L) : ∃ cs, RW w te s v L.length cs := let ⟨_, _, _, _, h4, _⟩ := h; ⟨_, h4⟩
theorem refs_eq {x : Si} {k : Nat} {s : Sp} (hs : x.sp[k]? = some s) (h : sparseB x s = false) : rwIds x (x.sp.take (k + 1)) = rwIds x (x.sp.take k) ∧ rwRefs x (x.sp.take (k + 1)) = rwRefs x (x.sp.take k) := by
 rw [take_next hs, rwIds_step, rwRefs_step, h]; simp
theorem refs_nil {x : Si} {k : Nat} {s : Sp} (hs : x.sp[k]? = some s) (h : (aloneT (st0 x) s) = []) : rwIds x (x.sp.take (k + 1)) = rwIds x (x.sp.take k) ∧ rwRefs x (x.sp.take (k + 1)) = rwRefs x (x.sp.take k) := by
 rw [take_next hs, rwIds_step, rwRefs_step, h]; simp
theorem refs_more {x : Si} {k : Nat} {s : Sp} (hs : x.sp[k]? = some s) (h : sparseB x s = true) (h2 : (aloneT (st0 x) s) ≠ []) : rwIds x (x.sp.take (k + 1)) = rwIds x (x.sp.take k) ++ [s.id] ∧ rwRefs x (x.sp.take (k + 1)) = rwRefs x (x.sp.take k) ++ aloneT (st0 x) s := by
 have : (aloneT (st0 x) s).isEmpty = false := by simpa using h2
 rw [take_next hs, rwIds_step, rwRefs_step, h, this]; simp
theorem OL.rebase {s : Nat} {te : TypeId} {w0 w1 w : World} {v : Value} {L : List Rf} (h : OL rRf s te w0 w v L) (hl : w1.heap.size ≤ w0.heap.size) : OL rRf s te w1 w v L :=
 let ⟨css, h1, h2, h3, h4, h5⟩ := h; ⟨css, h1, h2, fun k h h' => h3 k h h', h4, fun b hb => Nat.le_trans hl (h5 b hb)⟩
theorem live_sp {x : Si} {s : Sp} (h : sparseB x s = true) : liveB x s.id = true := by
 simp only [sparseB, Bool.and_eq_true] at h; exact h.1
def TStq (L : List Stp) (w : World) (e : Ending) (w' : World) : Prop := ∃ A c, e = .returned (.slice A L.length c) ∧ LS rStp 5 80 w' A L.length c L ∧ Below w.heap.size w w'
theorem one_ne {y : Stp} (h : 0 < y.sts.length) : [y].filter neS = [y] := by
 have : neS y = true := by
  cases hl : y.sts with
  | nil => rw [hl] at h; simp at h
  | cons a l => simp [neS, hl]
 simp [this]
theorem one_no {y : Stp} (h : ¬ 0 < y.sts.length) : [y].filter neS = [] := by
 have : neS y = false := by
  cases hl : y.sts with
  | nil => simp [neS, hl]
  | cons a l => rw [hl] at h; simp at h
 simp [this]
set_option maxRecDepth 100000 in
set_option maxHeartbeats 8000000 in
theorem rplan_any (cx : List Value) (x : Si) (w : World) (hx : rSi w cx x) (hv : siB x = true) (hbig : x.sp.length ≤ 1000) (hbh : x.held.length ≤ 1000) :
  Calls Try.prog 14 #[.agg cx.toArray] w (TStq (planL x) w) := by
 obtain ⟨a0, n0, c0, a1, n1, c1, a2, n2, c2, a3, n3, c3, a4, n4, c4, a5, n5, c5, rfl, hq⟩ := hx
 have hn := hq.sp.len_le
 have hn5 := hq.held.len_le
 have H := Lib.hid hq
 have HL := Lib.hid hq.sp.1
 have HL5 := Lib.hid hq.held.1
 have HPC := Lib.hid (siB_pct hv)
 have HVL := Lib.hid hv
 have HBG := Lib.hid hbig
 have HBH := Lib.hid hbh
 clear hq hv hbig hbh
 go_enter Try.func14, Try.ntmps14
 go_wp2_with ((with_reducible show wpList _ _ _ (⟨some 1, _, _, _, _, _⟩ :: _) _ _); refine wpList_box _ rfl 26 (.tmp 0) rfl (siC a0 n0 c0 a1 n1 c1 a2 n2 c2 a3 n3 c3 a4 n4 c4 a5 n5 c5 x.pct) rfl ?_; intro wb y1 y2 y3; have HB1 := Lib.hid y2; have HS1 := Lib.hid y1; have q5 := y1.get (j := 5) rfl; clear y1 y2 y3)
 clear q5
 go_loopw [3, 20] (fun v iv wr => ∃ k : Nat, k ≤ n5 ∧ iv = .int .i64 (k : Int) ∧ Hid (OL rDel 5 42 wb wr v (dels x (x.held.take k))) ∧ Hid (Below wb.heap.size wb wr)) (fun _ iv _ => n5 - (intOf iv).toNat)
 case atStart => exact ⟨0, by omega, rfl, Lib.hid (OL.nil _ _ _ _ _), Lib.hid (Below.refl _ _)⟩
 case round =>
  obtain ⟨k, hk, rfl, ho, hb⟩ := hrel
  obtain ⟨wx, hwx⟩ : ∃ x, x = wr := ⟨_, rfl⟩
  rw [← hwx] at ho hb ⊢
  clear hwx
  have HBx := Lib.hid (below_then HB1.out hb.out)
  have HSx := Lib.hid (HS1.out.kept hb.out)
  by_cases hlt : k < n5
  ·
   obtain ⟨q, g, o, cs, hs, e0, hat, rfl, hok⟩ := H.out.held.at_ stay_pc (Below.refl _ _) hlt
   have HX := Lib.hid hs
   have HA := Lib.hid (hat.kept HBx.out)
   have HOK := Lib.hid hok
   have HFL : Hid ((dels x (x.held.take k)).length ≤ 1000) := Lib.hid (by rw [dels, List.length_map]; exact Nat.le_trans (List.length_filter_le _ _) (by rw [List.length_take]; have := HBH.out; have := HL5.out; omega))
   subst e0
   clear hs hat hok
   cases h1 : hasB x.drop q.1 with
   | false =>
    have HF : Hid (dels x (x.held.take (k + 1)) = dels x (x.held.take k)) := Lib.hid (by rw [dels_step HX.out, h1]; simp)
    go_wp2_with (first
     | ((with_reducible show wpList _ _ _ (⟨some 23, _, _, _, _, _⟩ :: _) _ _); refine wpList_loadv _ rfl 39 (.tmp 22) rfl 2 (by kernel_rfl) g (o + k * 2) (pcL q) (by go_simp) HA.out rfl ?_)
     | ((with_reducible show wpList _ _ _ (⟨some 5, _, _, _, _, _⟩ :: _) _ _); refine wpList_alloc _ rfl 39 rfl pcZ pcZero ?_; intro w3 a1 a2 a3; have HV3 := Lib.hid a1; have HX3 := Lib.hid a2; clear a1 a2 a3)
     | ((with_reducible show wpList _ _ _ (⟨none, _, _, _, _, _⟩ :: _) _ _); refine wpList_storev _ rfl 39 (.tmp 5) (.tmp 23) rfl 2 (by kernel_rfl) wx.heap.size 0 _ pcZ (pcL q) rfl rfl HV3.out rfl (one_pc q) (by decide) ?_; intro w4 a1 a2 a3; have HV4 : Hid (BL w4 wx.heap.size 39 (pcL q)) := Lib.hid a1; have HX4 : Hid (Below wx.heap.size wx w4) := Lib.hid (((Kp.of_below (S := fun _ => False) HX3.out).after a2 (fun i hi e => by omega)).below (Nat.le_refl _) (fun _ h => h.elim)); clear a1 a2 a3; have r0 := HV4.out.get (j := 0) rfl; have q3 := (HSx.out.kept HX4.out).get (j := 3) rfl)
     | (go_at_call 43; refine (has_any a3 n3 c3 x.drop q.1 _ ((H.out.drop.kept stay_str HBx.out).kept stay_str HX4.out)).mono ?_; rintro e wh ⟨rfl, hw⟩; rw [hw]; clear hw wh; rw [h1]))
    go_roundw
    case rel => exact ⟨k + 1, by omega, by go_num, Lib.hid (by rw [HF.out]; exact ho.out.kept HX4.out), Lib.hid (below_thenB hb.out hb.out.size HX4.out)⟩
    case measure => simp [intOf]; omega
   | true =>
    have HF : Hid (dels x (x.held.take (k + 1)) = dels x (x.held.take k) ++ [⟨3, [], q, []⟩]) := Lib.hid (by rw [dels_step HX.out, h1]; simp)
    obtain ⟨nf, hnf⟩ : ∃ nf, (dels x (x.held.take k)).length = nf := ⟨_, rfl⟩
    obtain ⟨css, hc1, hc2, hc3, hc4, hc5⟩ := ho.out
    rw [hnf] at hc4
    have HN := Lib.hid hnf
    have HC1 := Lib.hid hc1
    have HC2 := Lib.hid hc2
    have HC3 := Lib.hid hc3
    have HC4 := Lib.hid hc4
    have HC5 := Lib.hid hc5
    clear hnf hc1 hc2 hc3 hc4 hc5
    go_wp2_with (first
     | ((with_reducible show wpList _ _ _ (⟨some 23, _, _, _, _, _⟩ :: _) _ _); refine wpList_loadv _ rfl 39 (.tmp 22) rfl 2 (by kernel_rfl) g (o + k * 2) (pcL q) (by go_simp) HA.out rfl ?_)
     | ((with_reducible show wpList _ _ _ (⟨some 5, _, _, _, _, _⟩ :: _) _ _); refine wpList_alloc _ rfl 39 rfl pcZ pcZero ?_; intro w3 a1 a2 a3; have HV3 := Lib.hid a1; have HX3 := Lib.hid a2; clear a1 a2 a3)
     | ((with_reducible show wpList _ _ _ (⟨none, _, _, _, _, _⟩ :: _) _ _); refine wpList_storev _ rfl 39 (.tmp 5) (.tmp 23) rfl 2 (by kernel_rfl) wx.heap.size 0 _ pcZ (pcL q) rfl rfl HV3.out rfl (one_pc q) (by decide) ?_; intro w4 a1 a2 a3; have HV4 : Hid (BL w4 wx.heap.size 39 (pcL q)) := Lib.hid a1; have HX4 : Hid (Below wx.heap.size wx w4) := Lib.hid (((Kp.of_below (S := fun _ => False) HX3.out).after a2 (fun i hi e => by omega)).below (Nat.le_refl _) (fun _ h => h.elim)); clear a1 a2 a3; have r0 := HV4.out.get (j := 0) rfl; have q3 := (HSx.out.kept HX4.out).get (j := 3) rfl)
     | (go_at_call 43; refine (has_any a3 n3 c3 x.drop q.1 _ ((H.out.drop.kept stay_str HBx.out).kept stay_str HX4.out)).mono ?_; rintro e wh ⟨rfl, hw⟩; rw [hw]; clear hw wh; rw [h1]) | ((with_reducible show wpList _ _ _ (⟨some 30, _, _, _, _, _⟩ :: _) _ _); refine wpList_loadv _ rfl 39 (.tmp 5) rfl 2 (by kernel_rfl) wx.heap.size 0 (pcL q) rfl (BL.all HV4.out) rfl ?_) | ((with_reducible show wpList _ _ _ (⟨some 31, _, _, _, _, _⟩ :: _) _ _); refine wpList_build _ rfl 42 #[(0, .const (.int .i64 3)), (2, .tmp 30)] rfl #[(0, .int .i64 3), (2, .agg (pcL q).toArray)] (by rw [List.map_toArray]; rfl) (.agg (delC q).toArray) (bldDelQ q _) ?_) | ((with_reducible show wpList _ _ _ (⟨some 32, _, _, _, _, _⟩ :: _) _ _); refine wpList_bslice _ rfl 35 42 1 _ rfl #[(0, .agg (delC q).toArray)] (by rw [List.map_toArray]; rfl) (delC q) (bslStq _ _ _ _ _ _ _ _ _ _) ?_; intro w8 y1 y2 y3; have HG8 := Lib.hid y1; have HX8 := Lib.hid (below_thenB HX4.out HX4.out.size y2); clear y1 y2 y3) | ((with_reducible show wpList _ _ _ (⟨some 33, _, _, _, _, _⟩ :: _) _ _); obtain ⟨iS, i1, i2, i3, i4⟩ := info_some infoStq; refine wpList_appRW _ rfl (.tmp 29) (.tmp 32) 35 42 5 iS _ rfl Try.underlying35 i1 i2 i3 rfl _ nf _ rfl (HC4.out.kept HX8.out) w4.heap.size _ rfl HG8.out rfl (one_del q) (by rw [i4]; have := HFL.out; have := HN.out; omega) (by have := HFL.out; have := HN.out; omega) ?_; intro v' w9 y1; have HR9 := Lib.hid y1; clear y1 i1 i2 i3 i4))
    have HY8 : Hid (Below wb.heap.size wb w8) := Lib.hid (below_thenB hb.out hb.out.size HX8.out)
    have HY9 : Hid (Below wb.heap.size wb w9) := Lib.hid (((Kp.of_below (S := fun _ => False) HY8.out).after HR9.out.kp (fun i hi e => by have := HC5.out i e; omega)).below (Nat.le_refl _) (fun _ h => h.elim))
    have HO9 : Hid (OL rDel 5 42 wb w9 v' (dels x (x.held.take (k + 1)))) := Lib.hid (by
     rw [HF.out]
     exact OL.push HC1.out HC2.out HC3.out HC5.out HN.out rfl ⟨rfl, rfl, HOK.out⟩ HY8.out.size HR9.out)
    go_roundw
    case rel => exact ⟨k + 1, by omega, by go_num, HO9, HY9⟩
    case measure => simp [intOf]; omega
  ·
   obtain rfl : n5 = k := by omega
   have HO : Hid (OL rDel 5 42 wb wx _ (dels x x.held)) := Lib.hid (by have := ho.out; rw [take_end HL5.out] at this; exact this)
   go_wp2_with (first
    | ((with_reducible show wpList _ _ _ (⟨some 35, _, _, _, _, _⟩ :: _) _ _); refine wpList_build _ rfl 42 #[(0, .const (.int .i64 4))] rfl #[(0, .int .i64 4)] (by rw [List.map_toArray]; rfl) (.agg (sbC 4 none 0 0 none 0 0).toArray) (bldK 4 _) ?_)
    | ((with_reducible show wpList _ _ _ (⟨some 36, _, _, _, _, _⟩ :: _) _ _); refine wpList_build _ rfl 42 #[(0, .const (.int .i64 1))] rfl #[(0, .int .i64 1)] (by rw [List.map_toArray]; rfl) (.agg (sbC 1 none 0 0 none 0 0).toArray) (bldK 1 _) ?_)
    | ((with_reducible show wpList _ _ _ (⟨some 6, _, _, _, _, _⟩ :: _) _ _); refine wpList_alloc _ rfl 42 rfl stpZ stqZero ?_; intro w2 y1 y2 y3; have HF2 := Lib.hid y1; have HX2 := Lib.hid y2; clear y1 y2 y3)
    | ((with_reducible show wpList _ _ _ (⟨some 7, _, _, _, _, _⟩ :: _) _ _); refine wpList_alloc _ rfl 42 rfl stpZ stqZero ?_; intro w3 y1 y2 y3; have HG3 := Lib.hid y1; have HF3 := Lib.hid (HF2.out.kept y2); have HX3 := Lib.hid (below_thenB HX2.out HX2.out.size y2); clear y1 y2 y3)
    | ((with_reducible show wpList _ _ _ (⟨none, _, _, _, _, _⟩ :: _) _ _); refine wpList_storev _ rfl 42 (.tmp 6) (.tmp 35) rfl 5 (by kernel_rfl) wx.heap.size 0 _ stpZ (sbC 4 none 0 0 none 0 0) rfl rfl HF3.out rfl (one_val _ rfl) (by decide) ?_; intro w4 y1 y2 y3; have HF4 : Hid (BL w4 wx.heap.size 42 (sbC 4 none 0 0 none 0 0)) := Lib.hid y1; have HG4 := Lib.hid (y2.bl HG3.out (fun e => by have := HF2.out.lt; omega)); have HX4 : Hid (Below wx.heap.size wx w4) := Lib.hid (((Kp.of_below (S := fun _ => False) HX3.out).after y2 (fun i hi e => by omega)).below (Nat.le_refl _) (fun _ h => h.elim)); clear y1 y2 y3)
    | ((with_reducible show wpList _ _ _ (⟨none, _, _, _, _, _⟩ :: _) _ _); refine wpList_storev _ rfl 42 (.tmp 7) (.tmp 36) rfl 5 (by kernel_rfl) w2.heap.size 0 _ stpZ (sbC 1 none 0 0 none 0 0) rfl rfl HG4.out rfl (one_val _ rfl) (by decide) ?_; intro w5 y1 y2 y3; have HG5 : Hid (BL w5 w2.heap.size 42 (sbC 1 none 0 0 none 0 0)) := Lib.hid y1; have HF5 := Lib.hid (y2.bl HF4.out (fun e => by have := HF2.out.lt; omega)); have HX5 : Hid (Below wx.heap.size wx w5) := Lib.hid (((Kp.of_below (S := fun _ => False) HX4.out).after y2 (fun i hi e => by have := HF2.out.lt; omega)).below (Nat.le_refl _) (fun _ h => h.elim)); have q0 := (HS1.out.kept (below_thenB hb.out hb.out.size HX5.out)).get (j := 0) rfl; clear y1 y2 y3))
   clear q0
   have HVG : Hid (∀ b, u3.ownBlock = some b → b < wx.heap.size) := Lib.hid (fun b hb' => by
    obtain ⟨_, r⟩ := HO.out.row
    exact r.lt hb')
   have HWX := hb
   obtain ⟨gf, hgf⟩ : ∃ g, g = wx.heap.size := ⟨_, rfl⟩
   obtain ⟨gr, hgr⟩ : ∃ g, g = w2.heap.size := ⟨_, rfl⟩
   have HGF := Lib.hid hgf
   have HGR : Hid (wx.heap.size < gr) := Lib.hid (by rw [hgr]; exact HF2.out.lt)
   rw [← hgf] at HF5 ⊢
   rw [← hgr] at HG5 ⊢
   clear hgf hgr hb ho HF2 HX2 HG3 HF3 HX3 HF4 HG4 HX4
   obtain ⟨wg, hwg⟩ : ∃ wg, wg = wx := ⟨_, rfl⟩
   rw [← hwg] at HO HVG HWX HX5 HGF HGR HBx HSx
   clear hwg
   go_loopw [40] (fun iv wr => ∃ k : Nat, k ≤ n0 ∧ iv = .int .i64 (k : Int) ∧ Hid (∃ A1 k1 C1 A2 k2 C2 A3 k3 C3, FR wg wr gf gr A1 k1 C1 A2 k2 C2 A3 k3 C3 (fgIds x (x.sp.take k)) (rwIds x (x.sp.take k)) (rwRefs x (x.sp.take k))) ∧ Hid (OL rDel 5 42 wb wr u3 (dels x x.held)) ∧ Hid (Below wg.heap.size wg wr)) (fun iv _ => n0 - (intOf iv).toNat)
   case atStart => exact ⟨0, by omega, rfl, Lib.hid ⟨none, 0, 0, none, 0, 0, none, 0, 0, ⟨HF5.out, OL.nil _ _ _ _ _, OL.nil _ _ _ _ _⟩, ⟨HG5.out, OL.nil _ _ _ _ _, OL.nil _ _ _ _ _⟩, by have := HGF.out; have := HGR.out; omega, fun b e => by cases e⟩, Lib.hid (HO.out.kept HX5.out), HX5⟩
   case round =>
    obtain ⟨k, hk, rfl, hfr', hod', hbg⟩ := hrel
    obtain ⟨ws, hws⟩ : ∃ x, x = wr := ⟨_, rfl⟩
    rw [← hws] at hfr' hod' hbg ⊢
    clear hws
    obtain ⟨A1, k1, C1, A2, k2, C2, A3, k3, C3, hfr0⟩ := hfr'.out
    have HFR0 := Lib.hid hfr0
    clear hfr' hfr0
    have HBs := Lib.hid (below_thenB HBx.out HBx.out.size hbg.out)
    have HSx0 := Lib.hid (HSx.out.kept hbg.out)
    by_cases hlt : k < n0
    ·
     obtain ⟨s, g, o, cs, hs', e0, hat, hsp⟩ := H.out.sp.at_ stay_sp (Below.refl _ _) hlt
     have HSP := Lib.hid hsp
     obtain ⟨A, m, c, rfl, hlr, hid, _⟩ := hsp
     have HID := Lib.hid hid
     have HX := Lib.hid hs'
     have HSB := Lib.hid (spB_refs (okB_at (siB_sp HVL.out) hs'))
     have HSZ : Hid (szOk s.refs) := Lib.hid (szOk_of (by have := HSB.out.1; omega) HSB.out.2.2)
     have HA := Lib.hid (hat.kept HBs.out)
     have HK1 : Hid (k1 ≤ 1000) := Lib.hid (by
      have h8 := HFR0.out.f.s.len
      have h9 : (fgIds x (x.sp.take k)).length ≤ k := by rw [fgIds, List.length_map]; exact Nat.le_trans (List.length_filter_le _ _) (by rw [List.length_take]; omega)
      have := HBG.out; have := HL.out; omega)
     subst e0
     clear hs' hat hlr hid
     obtain ⟨b1, hb1⟩ : ∃ b, b = hasB x.drop s.id := ⟨_, rfl⟩
     have HB1' := Lib.hid hb1
     clear hb1
     go_upto_if 48 with (first
      | ((with_reducible show wpList _ _ _ (⟨some 43, _, _, _, _, _⟩ :: _) _ _); refine wpList_loadv _ rfl 61 (.tmp 42) rfl 6 (by kernel_rfl) g (o + k * 6) (spC s A m c) (by go_simp) HA.out rfl ?_)
      | ((with_reducible show wpList _ _ _ (⟨some 9, _, _, _, _, _⟩ :: _) _ _); refine wpList_alloc _ rfl 61 rfl spZ spZero ?_; intro was a1 a2 a3; have HVas := Lib.hid a1; have HXas := Lib.hid a2; clear a1 a2 a3)
      | ((with_reducible show wpList _ _ _ (⟨none, _, _, _, _, _⟩ :: _) _ _); refine wpList_storev _ rfl 61 (.tmp 9) (.tmp 43) rfl 6 (by kernel_rfl) ws.heap.size 0 _ spZ (spC s A m c) rfl rfl HVas.out rfl (one_sp s A m c) (by decide) ?_; intro wbs a1 a2 a3; have HVs : Hid (BL wbs ws.heap.size 61 (spC s A m c)) := Lib.hid a1; have HXs : Hid (Below ws.heap.size ws wbs) := Lib.hid (((Kp.of_below (S := fun _ => False) HXas.out).after a2 (fun i hi e => by omega)).below (Nat.le_refl _) (fun _ h => h.elim)); clear a1 a2 a3; have HSs0 := Lib.hid (HSx0.out.kept HXs.out); have r0 := HVs.out.get (j := 0) rfl; have q3 := HSs0.out.get (j := 3) rfl)
      | (go_at_call 43; refine (has_any a3 n3 c3 x.drop s.id _ ((H.out.drop.kept stay_str HBs.out).kept stay_str HXs.out)).mono ?_; rintro e wh ⟨rfl, hw⟩; rw [hw]; clear hw wh; rw [← HB1'.out]))
     clear q3
     go_cut [] (fun wx => Hid (∃ A1 k1 C1, FR wg wx gf gr A1 k1 C1 A2 k2 C2 A3 k3 C3 (fgIds x (x.sp.take (k + 1))) (rwIds x (x.sp.take k)) (rwRefs x (x.sp.take k))) ∧ Hid (OL rDel 5 42 wb wx u3 (dels x x.held)) ∧ Hid (BL wx ws.heap.size 61 (spC s A m c)) ∧ Hid (Below wg.heap.size wg wx))
     case first =>
      cases b1 with
      | false =>
       have HF : Hid (fgIds x (x.sp.take (k + 1)) = fgIds x (x.sp.take k)) := Lib.hid (by rw [fgIds_step HX.out, ← HB1'.out]; simp)
       go_wp2_with fail
       go_meet
       exact ⟨Lib.hid ⟨A1, k1, C1, by rw [HF.out]; exact HFR0.out.kept HXs.out⟩, Lib.hid (hod'.out.kept HXs.out), HVs, Lib.hid (below_thenB hbg.out hbg.out.size HXs.out)⟩
      | true =>
       have HF : Hid (fgIds x (x.sp.take (k + 1)) = fgIds x (x.sp.take k) ++ [s.id]) := Lib.hid (by rw [fgIds_step HX.out, ← HB1'.out]; simp)
       obtain ⟨nf, hnf⟩ : ∃ nf, ((fgIds x (x.sp.take k))).length = nf := ⟨_, rfl⟩
       obtain ⟨css, hc1, hc2, hc3, hc4, hc5⟩ := HFR0.out.f.s
       rw [hnf] at hc4
       have HN := Lib.hid hnf
       have HC1 := Lib.hid hc1
       have HC2 := Lib.hid hc2
       have HC3 := Lib.hid hc3
       have HC4 := Lib.hid hc4
       have HC5 := Lib.hid hc5
       clear hnf hc1 hc2 hc3 hc4 hc5
       have HNK : Hid (nf = k1) := Lib.hid (by have h1 := HFR0.out.f.s.len; have := HN.out; omega)
       obtain rfl := HNK.out
       have c1 := (HFR0.out.f.blk.kept HXs.out).get (j := 1) rfl
       go_wp2_with (first
        | ((with_reducible show wpList _ _ _ (⟨some 53, _, _, _, _, _⟩ :: _) _ _); refine wpList_bslice _ rfl 23 9 1 _ rfl #[(0, .string (strB s.id))] (by rw [List.map_toArray]; rfl) [.string (strB s.id)] (bslStr s.id _) ?_; intro w8 y1 y2 y3; have HG8 := Lib.hid y1; have HB8 := Lib.hid y2; have HX8 := Lib.hid (below_thenB HXs.out HXs.out.size y2); clear y1 y2 y3)
        | ((with_reducible show wpList _ _ _ (⟨some 54, _, _, _, _, _⟩ :: _) _ _); obtain ⟨iS, i1, i2, i3, i4⟩ := info_some infoStr; refine wpList_appRW _ rfl (.tmp 50) (.tmp 53) 23 9 1 iS _ rfl Try.underlying23 i1 i2 i3 rfl _ nf _ rfl (HC4.out.kept HX8.out) wbs.heap.size _ rfl HG8.out rfl (one_str s.id) (by rw [i4]; have := HK1.out; omega) (by have := HK1.out; omega) ?_; intro v' w9 y1; obtain ⟨A9, C9, e9, _⟩ := y1.row.form; subst e9; have HR9 := Lib.hid y1; have HG9 := Lib.hid (y1.bl (HC4.out.kept HX8.out) (HFR0.out.f.blk.kept HX8.out) (by decide)); clear y1 i1 i2 i3 i4)
        | ((with_reducible show wpList _ _ _ (⟨none, _, _, _, _, _⟩ :: _) _ _); refine wpList_store1 _ rfl 23 (.tmp 55) (.tmp 54) rfl (strSz _) gf 1 _ _ (.slice A9 (nf + 1) C9) rfl rfl HG9.out rfl rfl (by simp) ?_; intro w10 y1 y2 y3; have HG10 := Lib.hid y1; have HK10 := Lib.hid y2; clear y1 y2 y3))
       have HY8 : Hid (Below wg.heap.size wg w8) := Lib.hid (below_thenB hbg.out hbg.out.size HX8.out)
       have HFR10 : Hid (FR wg w10 gf gr A9 (nf + 1) C9 A2 k2 C2 A3 k3 C3 (fgIds x (x.sp.take (k + 1))) (rwIds x (x.sp.take k)) (rwRefs x (x.sp.take k))) := Lib.hid (by
        rw [HF.out]
        exact (HFR0.out.kept HX8.out).pushF HY8.out.size HC1.out HC2.out HC3.out HC5.out (HC4.out.kept HX8.out) HID.out HR9.out HG10.out HK10.out)
       have HOD10 : Hid (OL rDel 5 42 wb w10 u3 (dels x x.held)) := Lib.hid (by
        have o8 := hod'.out.kept HX8.out
        obtain ⟨_, r8⟩ := o8.row
        refine (o8.kp HR9.out.kp (r8.ne_rw (HC4.out.kept HX8.out) (by decide))).kp HK10.out (fun b hb' e => ?_)
        have := HVG.out b hb'
        have := HGF.out
        omega)
       have HV10 : Hid (BL w10 ws.heap.size 61 (spC s A m c)) := Lib.hid (by
        have v9 := HR9.out.bl (HC4.out.kept HX8.out) (HVs.out.kept HB8.out) (by decide)
        exact HK10.out.bl v9 (v9.ne HG9.out (by decide)))
       have HB10 : Hid (Below wg.heap.size wg w10) := Lib.hid ((((Kp.of_below (S := fun _ => False) HY8.out).after HR9.out.kp (fun i hi e => by have := HC5.out i e; omega)).after HK10.out (fun i hi e => by have := HGF.out; omega)).below (Nat.le_refl _) (fun _ h => h.elim))
       go_meet
       exact ⟨Lib.hid ⟨A9, nf + 1, C9, HFR10.out⟩, HOD10, HV10, HB10⟩
     case rest =>
      obtain ⟨hfr', hod, HVs', HGX⟩ := hcut
      obtain ⟨A1, k1, C1, hfr0⟩ := hfr'.out
      have hfr := Lib.hid hfr0
      clear hfr' hfr0 HVs HXs HVas HXas HSs0 HK1 hod' HFR0 r0
      have HVs := HVs'
      clear HVs'
      obtain ⟨wx, hwx⟩ : ∃ y, y = wc := ⟨_, rfl⟩
      rw [← hwx] at hod HVs HGX hfr ⊢
      clear hwx
      have HBx' := HBx
      clear HBx
      have HBx := Lib.hid (below_thenB HBx'.out HBx'.out.size HGX.out)
      have HSs := Lib.hid (HSx.out.kept HGX.out)
      cases hs : sparseB x s with
      | false =>
       obtain ⟨h3, h4⟩ := refs_eq HX.out hs
       have HI := Lib.hid h3
       have HR := Lib.hid h4
       clear h3 h4
       go_wp2_with (first
        | ((with_reducible show wpList _ _ _ (⟨some 56, _, _, _, _, _⟩ :: _) _ _); refine wpList_loadv _ rfl 26 (.tmp 1) rfl 7 (by kernel_rfl) w.heap.size 0 _ rfl (BL.all HSs.out) rfl ?_)
        | ((with_reducible show wpList _ _ _ (⟨some 57, _, _, _, _, _⟩ :: _) _ _); refine wpList_loadv _ rfl 61 (.tmp 9) rfl 6 (by kernel_rfl) ws.heap.size 0 (spC s A m c) rfl (BL.all HVs.out) rfl ?_)
        | (go_at_call 34; refine (issp_any _ _ x s _ (show rSi wx _ _ from ⟨_, _, _, _, _, _, _, _, _, _, _, _, _, _, _, _, _, _, rfl, H.out.kept HBx.out⟩) (stay_sp _ _ _ _ HSP.out HBx.out) HSZ.out HPC.out).mono ?_; rintro e w6 ⟨rfl, b6⟩; rw [hs]; have HX6 := Lib.hid b6; have HV6 := Lib.hid (HVs.out.kept b6); have HS6 := Lib.hid (HSs.out.kept b6); clear b6)
        | ((with_reducible show wpList _ _ _ (⟨some 60, _, _, _, _, _⟩ :: _) _ _); refine wpList_loadv _ rfl 26 (.tmp 1) rfl 7 (by kernel_rfl) w.heap.size 0 _ rfl (BL.all HS6.out) rfl ?_)
        | ((with_reducible show wpList _ _ _ (⟨some 61, _, _, _, _, _⟩ :: _) _ _); refine wpList_loadv _ rfl 61 (.tmp 9) rfl 6 (by kernel_rfl) ws.heap.size 0 (spC s A m c) rfl (BL.all HV6.out) rfl ?_)
        | (go_at_call 44; refine (wanted_any _ _ x s _ (show rSi w6 _ _ from ⟨_, _, _, _, _, _, _, _, _, _, _, _, _, _, _, _, _, _, rfl, (H.out.kept HBx.out).kept HX6.out⟩) (stay_sp _ _ _ _ HSP.out (below_thenB HBx.out HBx.out.size HX6.out))).mono ?_; rintro e w7 ⟨Aw, cw, rfl, lw, b7⟩; have HLW := Lib.hid lw; have HX7 := Lib.hid (below_thenB HX6.out HX6.out.size b7); have HV7 := Lib.hid (HV6.out.kept b7); have HS7 := Lib.hid (HS6.out.kept b7); clear b7 lw))
       go_roundw
       case rel => exact ⟨k + 1, by omega, by go_num, Lib.hid ⟨_, _, _, _, _, _, _, _, _, by rw [HI.out, HR.out]; exact hfr.out.kept HX6.out⟩, Lib.hid (hod.out.kept HX6.out), Lib.hid (below_thenB HGX.out HGX.out.size HX6.out)⟩
       case measure => simp [intOf]; omega
      | true =>
       go_wp2_with (first
        | ((with_reducible show wpList _ _ _ (⟨some 56, _, _, _, _, _⟩ :: _) _ _); refine wpList_loadv _ rfl 26 (.tmp 1) rfl 7 (by kernel_rfl) w.heap.size 0 _ rfl (BL.all HSs.out) rfl ?_)
        | ((with_reducible show wpList _ _ _ (⟨some 57, _, _, _, _, _⟩ :: _) _ _); refine wpList_loadv _ rfl 61 (.tmp 9) rfl 6 (by kernel_rfl) ws.heap.size 0 (spC s A m c) rfl (BL.all HVs.out) rfl ?_)
        | (go_at_call 34; refine (issp_any _ _ x s _ (show rSi wx _ _ from ⟨_, _, _, _, _, _, _, _, _, _, _, _, _, _, _, _, _, _, rfl, H.out.kept HBx.out⟩) (stay_sp _ _ _ _ HSP.out HBx.out) HSZ.out HPC.out).mono ?_; rintro e w6 ⟨rfl, b6⟩; rw [hs]; have HX6 := Lib.hid b6; have HV6 := Lib.hid (HVs.out.kept b6); have HS6 := Lib.hid (HSs.out.kept b6); clear b6)
        | ((with_reducible show wpList _ _ _ (⟨some 60, _, _, _, _, _⟩ :: _) _ _); refine wpList_loadv _ rfl 26 (.tmp 1) rfl 7 (by kernel_rfl) w.heap.size 0 _ rfl (BL.all HS6.out) rfl ?_)
        | ((with_reducible show wpList _ _ _ (⟨some 61, _, _, _, _, _⟩ :: _) _ _); refine wpList_loadv _ rfl 61 (.tmp 9) rfl 6 (by kernel_rfl) ws.heap.size 0 (spC s A m c) rfl (BL.all HV6.out) rfl ?_)
        | (go_at_call 44; refine (wanted_any _ _ x s _ (show rSi w6 _ _ from ⟨_, _, _, _, _, _, _, _, _, _, _, _, _, _, _, _, _, _, rfl, (H.out.kept HBx.out).kept HX6.out⟩) (stay_sp _ _ _ _ HSP.out (below_thenB HBx.out HBx.out.size HX6.out))).mono ?_; rintro e w7 ⟨Aw, cw, rfl, lw, b7⟩; have HLW := Lib.hid lw; have HX7 := Lib.hid (below_thenB HX6.out HX6.out.size b7); have HV7 := Lib.hid (HV6.out.kept b7); have HS7 := Lib.hid (HS6.out.kept b7); clear b7 lw))
       obtain ⟨W, hW⟩ : ∃ l, l = wanted x s := ⟨_, rfl⟩
       rw [← hW] at HLW ⊢
       have HW := Lib.hid hW
       clear hW
       obtain ⟨nw, hnw⟩ : ∃ n, n = W.length := ⟨_, rfl⟩
       have HNW := Lib.hid hnw
       have HNW8 : Hid (nw ≤ 8) := Lib.hid (by
        have h1 := HNW.out
        rw [HW.out] at h1
        have h2 : (wanted x s).length ≤ s.refs.length := List.length_filter_le _ _
        have := HSB.out.1
        omega)
       rw [← hnw] at HLW ⊢
       clear hnw
       have hnwl := HLW.out.len_le
       have HB7 := Lib.hid (below_thenB HBx.out HBx.out.size HX7.out)
       go_loopw [10, 64] (fun ov iv wr => ∃ j : Nat, j ≤ nw ∧ iv = .int .i64 (j : Int) ∧ Hid (OL rRf 3 73 w7 wr ov ((W.take j).filter fun r => !x.sp.any (oth2 x s r.1))) ∧ Hid (Below w7.heap.size w7 wr)) (fun _ iv _ => nw - (intOf iv).toNat)
       case atStart => exact ⟨0, by omega, rfl, Lib.hid (OL.nil _ _ _ _ _), Lib.hid (Below.refl _ _)⟩
       case round =>
        obtain ⟨j, hj, rfl, hoy, hby⟩ := hrel
        obtain ⟨wy, hwy⟩ : ∃ x, x = wr := ⟨_, rfl⟩
        rw [← hwy] at hoy hby ⊢
        clear hwy
        have HBy := Lib.hid (below_thenB HB7.out HB7.out.size hby.out)
        by_cases hlj : j < nw
        ·
         obtain ⟨r, gr', or', csr, hsr, er, hatr, rfl, hrk⟩ := HLW.out.at_ stay_rf (Below.refl _ _) hlj
         have HXr' := Lib.hid hsr
         have HAr := Lib.hid (hatr.kept hby.out)
         have HRK := Lib.hid hrk
         subst er
         clear hsr hatr hrk
         have HSy := Lib.hid (HS7.out.kept hby.out)
         have HVy := Lib.hid (HV7.out.kept hby.out)
         go_wp2_with (first
          | ((with_reducible show wpList _ _ _ (⟨some 67, _, _, _, _, _⟩ :: _) _ _); refine wpList_loadv _ rfl 73 (.tmp 66) rfl 3 (by kernel_rfl) gr' (or' + j * 3) (rfL r) (by go_simp) HAr.out rfl ?_)
          | ((with_reducible show wpList _ _ _ (⟨some 12, _, _, _, _, _⟩ :: _) _ _); refine wpList_alloc _ rfl 73 rfl rfZ rfZero ?_; intro war a1 a2 a3; have HVar := Lib.hid a1; have HXar := Lib.hid a2; clear a1 a2 a3)
          | ((with_reducible show wpList _ _ _ (⟨none, _, _, _, _, _⟩ :: _) _ _); refine wpList_storev _ rfl 73 (.tmp 12) (.tmp 67) rfl 3 (by kernel_rfl) wy.heap.size 0 _ rfZ (rfL r) rfl rfl HVar.out rfl (one_rf r) (by decide) ?_; intro wbr a1 a2 a3; have HVr : Hid (BL wbr wy.heap.size 73 (rfL r)) := Lib.hid a1; have HXr : Hid (Below wy.heap.size wy wbr) := Lib.hid (((Kp.of_below (S := fun _ => False) HXar.out).after a2 (fun i hi e => by omega)).below (Nat.le_refl _) (fun _ h => h.elim)); clear a1 a2 a3; have HBr := Lib.hid (below_thenB HBy.out HBy.out.size HXr.out); have HSr := Lib.hid (HSy.out.kept HXr.out); have HVsr := Lib.hid (HVy.out.kept HXr.out); have q0 := HSr.out.get (j := 0) rfl)
          | fail)
         clear q0
         go_loopw [13, 71] (fun ov iv wr => ∃ (i : Nat) (b : Bool), i ≤ n0 ∧ iv = .int .i64 (i : Int) ∧ ov = .bool b ∧ Hid (b = (x.sp.take i).any (oth2 x s r.1)) ∧ Hid (Below wbr.heap.size wbr wr)) (fun _ iv _ => n0 - (intOf iv).toNat)
         case atStart => exact ⟨0, false, by omega, rfl, rfl, Lib.hid rfl, Lib.hid (Below.refl _ _)⟩
         case round =>
          obtain ⟨i, bv, hi, rfl, rfl, hbv, hbz⟩ := hrel
          obtain ⟨wz, hwz⟩ : ∃ x, x = wr := ⟨_, rfl⟩
          rw [← hwz] at hbz ⊢
          clear hwz
          have HBz := Lib.hid (below_thenB HBr.out HBr.out.size hbz.out)
          have HSz := Lib.hid (HSr.out.kept hbz.out)
          have HVsz := Lib.hid (HVsr.out.kept hbz.out)
          have HVrz := Lib.hid (HVr.out.kept hbz.out)
          by_cases hli : i < n0
          ·
           obtain ⟨t, gt, ot, cst, hst, et, hatt, hpt⟩ := H.out.sp.at_ stay_sp (Below.refl _ _) hli
           have HPT := Lib.hid hpt
           obtain ⟨At, mt, ct, rfl, _⟩ := hpt
           have HXt' := Lib.hid hst
           have e9 := Option.some.inj et
           injection e9 with eg eo _
           rw [← eg, ← eo] at hatt
           have HAt := Lib.hid (hatt.kept HBz.out)
           clear hst hatt et eg eo
           cases bv with
           | true =>
            go_wp2_with (first
             | ((with_reducible show wpList _ _ _ (⟨some 74, _, _, _, _, _⟩ :: _) _ _); refine wpList_loadv _ rfl 61 (.tmp 73) rfl 6 (by kernel_rfl) g (o + i * 6) (spC t At mt ct) (by go_simp) HAt.out rfl ?_)
             | ((with_reducible show wpList _ _ _ (⟨some 15, _, _, _, _, _⟩ :: _) _ _); refine wpList_alloc _ rfl 61 rfl spZ spZero ?_; intro wat a1 a2 a3; have HVat := Lib.hid a1; have HXat := Lib.hid a2; clear a1 a2 a3)
             | ((with_reducible show wpList _ _ _ (⟨none, _, _, _, _, _⟩ :: _) _ _); refine wpList_storev _ rfl 61 (.tmp 15) (.tmp 74) rfl 6 (by kernel_rfl) wz.heap.size 0 _ spZ (spC t At mt ct) rfl rfl HVat.out rfl (one_sp t At mt ct) (by decide) ?_; intro wbt a1 a2 a3; have HVt : Hid (BL wbt wz.heap.size 61 (spC t At mt ct)) := Lib.hid a1; have HXt : Hid (Below wz.heap.size wz wbt) := Lib.hid (((Kp.of_below (S := fun _ => False) HXat.out).after a2 (fun i hi e => by omega)).below (Nat.le_refl _) (fun _ h => h.elim)); clear a1 a2 a3; have HSt := Lib.hid (HSz.out.kept HXt.out); have HVst := Lib.hid (HVsz.out.kept HXt.out); have HVrt := Lib.hid (HVrz.out.kept HXt.out); have p0 := HVt.out.get (j := 0) rfl; have r0 := HVst.out.get (j := 0) rfl)
             | ((with_reducible show wpList _ _ _ (⟨some 83, _, _, _, _, _⟩ :: _) _ _); refine wpList_loadvg _ rfl 26 (.tmp 1) rfl 7 (by kernel_rfl) w.heap.size 0 _ rfl (BL.all HSt.out) rfl ?_)
             | ((with_reducible show wpList _ _ _ (⟨some 84, _, _, _, _, _⟩ :: _) _ _); refine wpList_loadvg _ rfl 61 (.tmp 15) rfl 6 (by kernel_rfl) wz.heap.size 0 (spC t At mt ct) rfl (BL.all HVt.out) rfl ?_)
             | (go_at_call 45; refine (live_any _ _ x t _ (show rSi wbt _ _ from ⟨_, _, _, _, _, _, _, _, _, _, _, _, _, _, _, _, _, _, rfl, (H.out.kept HBz.out).kept HXt.out⟩) (stay_sp _ _ _ _ HPT.out (below_thenB HBz.out HBz.out.size HXt.out))).mono ?_; rintro e wc ⟨rfl, b5⟩; rw [h2]; have HXc := Lib.hid (below_thenB HXt.out HXt.out.size b5); have HVc := Lib.hid (HVt.out.kept b5); have HVrc := Lib.hid (HVrt.out.kept b5); have r0 := HVrc.out.get (j := 0) rfl; clear b5 p0)
             | ((with_reducible show wpList _ _ _ (⟨some 88, _, _, _, _, _⟩ :: _) _ _); refine wpList_loadvg _ rfl 61 (.tmp 15) rfl 6 (by kernel_rfl) wz.heap.size 0 (spC t At mt ct) rfl (BL.all HVc.out) rfl ?_)
             | (go_at_call 46; refine (in_any _ t r.1 _ (stay_sp _ _ _ _ HPT.out (below_thenB HBz.out HBz.out.size HXc.out))).mono ?_; rintro e wd ⟨rfl, b6⟩; rw [h3]; have HXd := Lib.hid (below_thenB HXc.out HXc.out.size b6); clear b6 r0))
            go_roundw
            case rel => exact ⟨i + 1, true, by omega, by go_num, rfl, Lib.hid (by rw [any_next HXt'.out, ← hbv.out]; rfl), Lib.hid (below_thenB hbz.out hbz.out.size HXt.out)⟩
            case measure => simp [intOf]; omega
           | false =>
            by_cases h1 : t.id = s.id
            ·
             have es : ((strB t.id).toList != (strB s.id).toList) = false := by rw [strB_ne, decide_eq_true h1]; rfl
             have es2 : ((strB t.id).toList == (strB s.id).toList) = true := by rw [strB_eq]; exact decide_eq_true h1
             have HI := Lib.hid h1
             clear h1
             go_wp2_with (first
              | ((with_reducible show wpList _ _ _ (⟨some 74, _, _, _, _, _⟩ :: _) _ _); refine wpList_loadv _ rfl 61 (.tmp 73) rfl 6 (by kernel_rfl) g (o + i * 6) (spC t At mt ct) (by go_simp) HAt.out rfl ?_)
              | ((with_reducible show wpList _ _ _ (⟨some 15, _, _, _, _, _⟩ :: _) _ _); refine wpList_alloc _ rfl 61 rfl spZ spZero ?_; intro wat a1 a2 a3; have HVat := Lib.hid a1; have HXat := Lib.hid a2; clear a1 a2 a3)
              | ((with_reducible show wpList _ _ _ (⟨none, _, _, _, _, _⟩ :: _) _ _); refine wpList_storev _ rfl 61 (.tmp 15) (.tmp 74) rfl 6 (by kernel_rfl) wz.heap.size 0 _ spZ (spC t At mt ct) rfl rfl HVat.out rfl (one_sp t At mt ct) (by decide) ?_; intro wbt a1 a2 a3; have HVt : Hid (BL wbt wz.heap.size 61 (spC t At mt ct)) := Lib.hid a1; have HXt : Hid (Below wz.heap.size wz wbt) := Lib.hid (((Kp.of_below (S := fun _ => False) HXat.out).after a2 (fun i hi e => by omega)).below (Nat.le_refl _) (fun _ h => h.elim)); clear a1 a2 a3; have HSt := Lib.hid (HSz.out.kept HXt.out); have HVst := Lib.hid (HVsz.out.kept HXt.out); have HVrt := Lib.hid (HVrz.out.kept HXt.out); have p0 := HVt.out.get (j := 0) rfl; have r0 := HVst.out.get (j := 0) rfl)
              | ((with_reducible show wpList _ _ _ (⟨some 83, _, _, _, _, _⟩ :: _) _ _); refine wpList_loadvg _ rfl 26 (.tmp 1) rfl 7 (by kernel_rfl) w.heap.size 0 _ rfl (BL.all HSt.out) rfl ?_)
              | ((with_reducible show wpList _ _ _ (⟨some 84, _, _, _, _, _⟩ :: _) _ _); refine wpList_loadvg _ rfl 61 (.tmp 15) rfl 6 (by kernel_rfl) wz.heap.size 0 (spC t At mt ct) rfl (BL.all HVt.out) rfl ?_)
              | (go_at_call 45; refine (live_any _ _ x t _ (show rSi wbt _ _ from ⟨_, _, _, _, _, _, _, _, _, _, _, _, _, _, _, _, _, _, rfl, (H.out.kept HBz.out).kept HXt.out⟩) (stay_sp _ _ _ _ HPT.out (below_thenB HBz.out HBz.out.size HXt.out))).mono ?_; rintro e wc ⟨rfl, b5⟩; rw [h2]; have HXc := Lib.hid (below_thenB HXt.out HXt.out.size b5); have HVc := Lib.hid (HVt.out.kept b5); have HVrc := Lib.hid (HVrt.out.kept b5); have r0 := HVrc.out.get (j := 0) rfl; clear b5 p0)
              | ((with_reducible show wpList _ _ _ (⟨some 88, _, _, _, _, _⟩ :: _) _ _); refine wpList_loadvg _ rfl 61 (.tmp 15) rfl 6 (by kernel_rfl) wz.heap.size 0 (spC t At mt ct) rfl (BL.all HVc.out) rfl ?_)
              | (go_at_call 46; refine (in_any _ t r.1 _ (stay_sp _ _ _ _ HPT.out (below_thenB HBz.out HBz.out.size HXc.out))).mono ?_; rintro e wd ⟨rfl, b6⟩; rw [h3]; have HXd := Lib.hid (below_thenB HXc.out HXc.out.size b6); clear b6 r0))
             go_roundw
             case rel => exact ⟨i + 1, false, by omega, by go_num, rfl, Lib.hid (by rw [any_next HXt'.out, ← hbv.out]; simp [oth2, HI.out]), Lib.hid (below_thenB hbz.out hbz.out.size HXt.out)⟩
             case measure => simp [intOf]; omega
            have es : ((strB t.id).toList != (strB s.id).toList) = true := by rw [strB_ne, decide_eq_false h1]; rfl
            have es2 : ((strB t.id).toList == (strB s.id).toList) = false := by rw [strB_eq]; exact decide_eq_false h1
            have HI := Lib.hid h1
            clear h1
            cases h2 : liveB x t.id with
            | false =>
             go_wp2_with (first
              | ((with_reducible show wpList _ _ _ (⟨some 74, _, _, _, _, _⟩ :: _) _ _); refine wpList_loadv _ rfl 61 (.tmp 73) rfl 6 (by kernel_rfl) g (o + i * 6) (spC t At mt ct) (by go_simp) HAt.out rfl ?_)
              | ((with_reducible show wpList _ _ _ (⟨some 15, _, _, _, _, _⟩ :: _) _ _); refine wpList_alloc _ rfl 61 rfl spZ spZero ?_; intro wat a1 a2 a3; have HVat := Lib.hid a1; have HXat := Lib.hid a2; clear a1 a2 a3)
              | ((with_reducible show wpList _ _ _ (⟨none, _, _, _, _, _⟩ :: _) _ _); refine wpList_storev _ rfl 61 (.tmp 15) (.tmp 74) rfl 6 (by kernel_rfl) wz.heap.size 0 _ spZ (spC t At mt ct) rfl rfl HVat.out rfl (one_sp t At mt ct) (by decide) ?_; intro wbt a1 a2 a3; have HVt : Hid (BL wbt wz.heap.size 61 (spC t At mt ct)) := Lib.hid a1; have HXt : Hid (Below wz.heap.size wz wbt) := Lib.hid (((Kp.of_below (S := fun _ => False) HXat.out).after a2 (fun i hi e => by omega)).below (Nat.le_refl _) (fun _ h => h.elim)); clear a1 a2 a3; have HSt := Lib.hid (HSz.out.kept HXt.out); have HVst := Lib.hid (HVsz.out.kept HXt.out); have HVrt := Lib.hid (HVrz.out.kept HXt.out); have p0 := HVt.out.get (j := 0) rfl; have r0 := HVst.out.get (j := 0) rfl)
              | ((with_reducible show wpList _ _ _ (⟨some 83, _, _, _, _, _⟩ :: _) _ _); refine wpList_loadvg _ rfl 26 (.tmp 1) rfl 7 (by kernel_rfl) w.heap.size 0 _ rfl (BL.all HSt.out) rfl ?_)
              | ((with_reducible show wpList _ _ _ (⟨some 84, _, _, _, _, _⟩ :: _) _ _); refine wpList_loadvg _ rfl 61 (.tmp 15) rfl 6 (by kernel_rfl) wz.heap.size 0 (spC t At mt ct) rfl (BL.all HVt.out) rfl ?_)
              | (go_at_call 45; refine (live_any _ _ x t _ (show rSi wbt _ _ from ⟨_, _, _, _, _, _, _, _, _, _, _, _, _, _, _, _, _, _, rfl, (H.out.kept HBz.out).kept HXt.out⟩) (stay_sp _ _ _ _ HPT.out (below_thenB HBz.out HBz.out.size HXt.out))).mono ?_; rintro e wc ⟨rfl, b5⟩; rw [h2]; have HXc := Lib.hid (below_thenB HXt.out HXt.out.size b5); have HVc := Lib.hid (HVt.out.kept b5); have HVrc := Lib.hid (HVrt.out.kept b5); have r0 := HVrc.out.get (j := 0) rfl; clear b5 p0)
              | ((with_reducible show wpList _ _ _ (⟨some 88, _, _, _, _, _⟩ :: _) _ _); refine wpList_loadvg _ rfl 61 (.tmp 15) rfl 6 (by kernel_rfl) wz.heap.size 0 (spC t At mt ct) rfl (BL.all HVc.out) rfl ?_)
              | (go_at_call 46; refine (in_any _ t r.1 _ (stay_sp _ _ _ _ HPT.out (below_thenB HBz.out HBz.out.size HXc.out))).mono ?_; rintro e wd ⟨rfl, b6⟩; rw [h3]; have HXd := Lib.hid (below_thenB HXc.out HXc.out.size b6); clear b6 r0))
             go_roundw
             case rel => exact ⟨i + 1, false, by omega, by go_num, rfl, Lib.hid (by rw [any_next HXt'.out, ← hbv.out]; simp [oth2, h2]), Lib.hid (below_thenB hbz.out hbz.out.size HXc.out)⟩
             case measure => simp [intOf]; omega
            | true =>
             cases h3 : inB t r.1 with
             | false =>
              go_wp2_with (first
               | ((with_reducible show wpList _ _ _ (⟨some 74, _, _, _, _, _⟩ :: _) _ _); refine wpList_loadv _ rfl 61 (.tmp 73) rfl 6 (by kernel_rfl) g (o + i * 6) (spC t At mt ct) (by go_simp) HAt.out rfl ?_)
               | ((with_reducible show wpList _ _ _ (⟨some 15, _, _, _, _, _⟩ :: _) _ _); refine wpList_alloc _ rfl 61 rfl spZ spZero ?_; intro wat a1 a2 a3; have HVat := Lib.hid a1; have HXat := Lib.hid a2; clear a1 a2 a3)
               | ((with_reducible show wpList _ _ _ (⟨none, _, _, _, _, _⟩ :: _) _ _); refine wpList_storev _ rfl 61 (.tmp 15) (.tmp 74) rfl 6 (by kernel_rfl) wz.heap.size 0 _ spZ (spC t At mt ct) rfl rfl HVat.out rfl (one_sp t At mt ct) (by decide) ?_; intro wbt a1 a2 a3; have HVt : Hid (BL wbt wz.heap.size 61 (spC t At mt ct)) := Lib.hid a1; have HXt : Hid (Below wz.heap.size wz wbt) := Lib.hid (((Kp.of_below (S := fun _ => False) HXat.out).after a2 (fun i hi e => by omega)).below (Nat.le_refl _) (fun _ h => h.elim)); clear a1 a2 a3; have HSt := Lib.hid (HSz.out.kept HXt.out); have HVst := Lib.hid (HVsz.out.kept HXt.out); have HVrt := Lib.hid (HVrz.out.kept HXt.out); have p0 := HVt.out.get (j := 0) rfl; have r0 := HVst.out.get (j := 0) rfl)
               | ((with_reducible show wpList _ _ _ (⟨some 83, _, _, _, _, _⟩ :: _) _ _); refine wpList_loadvg _ rfl 26 (.tmp 1) rfl 7 (by kernel_rfl) w.heap.size 0 _ rfl (BL.all HSt.out) rfl ?_)
               | ((with_reducible show wpList _ _ _ (⟨some 84, _, _, _, _, _⟩ :: _) _ _); refine wpList_loadvg _ rfl 61 (.tmp 15) rfl 6 (by kernel_rfl) wz.heap.size 0 (spC t At mt ct) rfl (BL.all HVt.out) rfl ?_)
               | (go_at_call 45; refine (live_any _ _ x t _ (show rSi wbt _ _ from ⟨_, _, _, _, _, _, _, _, _, _, _, _, _, _, _, _, _, _, rfl, (H.out.kept HBz.out).kept HXt.out⟩) (stay_sp _ _ _ _ HPT.out (below_thenB HBz.out HBz.out.size HXt.out))).mono ?_; rintro e wc ⟨rfl, b5⟩; rw [h2]; have HXc := Lib.hid (below_thenB HXt.out HXt.out.size b5); have HVc := Lib.hid (HVt.out.kept b5); have HVrc := Lib.hid (HVrt.out.kept b5); have r0 := HVrc.out.get (j := 0) rfl; clear b5 p0)
               | ((with_reducible show wpList _ _ _ (⟨some 88, _, _, _, _, _⟩ :: _) _ _); refine wpList_loadvg _ rfl 61 (.tmp 15) rfl 6 (by kernel_rfl) wz.heap.size 0 (spC t At mt ct) rfl (BL.all HVc.out) rfl ?_)
               | (go_at_call 46; refine (in_any _ t r.1 _ (stay_sp _ _ _ _ HPT.out (below_thenB HBz.out HBz.out.size HXc.out))).mono ?_; rintro e wd ⟨rfl, b6⟩; rw [h3]; have HXd := Lib.hid (below_thenB HXc.out HXc.out.size b6); clear b6 r0))
              go_roundw
              case rel => exact ⟨i + 1, false, by omega, by go_num, rfl, Lib.hid (by rw [any_next HXt'.out, ← hbv.out]; simp [oth2, h3]), Lib.hid (below_thenB hbz.out hbz.out.size HXd.out)⟩
              case measure => simp [intOf]; omega
             | true =>
              go_wp2_with (first
               | ((with_reducible show wpList _ _ _ (⟨some 74, _, _, _, _, _⟩ :: _) _ _); refine wpList_loadv _ rfl 61 (.tmp 73) rfl 6 (by kernel_rfl) g (o + i * 6) (spC t At mt ct) (by go_simp) HAt.out rfl ?_)
               | ((with_reducible show wpList _ _ _ (⟨some 15, _, _, _, _, _⟩ :: _) _ _); refine wpList_alloc _ rfl 61 rfl spZ spZero ?_; intro wat a1 a2 a3; have HVat := Lib.hid a1; have HXat := Lib.hid a2; clear a1 a2 a3)
               | ((with_reducible show wpList _ _ _ (⟨none, _, _, _, _, _⟩ :: _) _ _); refine wpList_storev _ rfl 61 (.tmp 15) (.tmp 74) rfl 6 (by kernel_rfl) wz.heap.size 0 _ spZ (spC t At mt ct) rfl rfl HVat.out rfl (one_sp t At mt ct) (by decide) ?_; intro wbt a1 a2 a3; have HVt : Hid (BL wbt wz.heap.size 61 (spC t At mt ct)) := Lib.hid a1; have HXt : Hid (Below wz.heap.size wz wbt) := Lib.hid (((Kp.of_below (S := fun _ => False) HXat.out).after a2 (fun i hi e => by omega)).below (Nat.le_refl _) (fun _ h => h.elim)); clear a1 a2 a3; have HSt := Lib.hid (HSz.out.kept HXt.out); have HVst := Lib.hid (HVsz.out.kept HXt.out); have HVrt := Lib.hid (HVrz.out.kept HXt.out); have p0 := HVt.out.get (j := 0) rfl; have r0 := HVst.out.get (j := 0) rfl)
               | ((with_reducible show wpList _ _ _ (⟨some 83, _, _, _, _, _⟩ :: _) _ _); refine wpList_loadvg _ rfl 26 (.tmp 1) rfl 7 (by kernel_rfl) w.heap.size 0 _ rfl (BL.all HSt.out) rfl ?_)
               | ((with_reducible show wpList _ _ _ (⟨some 84, _, _, _, _, _⟩ :: _) _ _); refine wpList_loadvg _ rfl 61 (.tmp 15) rfl 6 (by kernel_rfl) wz.heap.size 0 (spC t At mt ct) rfl (BL.all HVt.out) rfl ?_)
               | (go_at_call 45; refine (live_any _ _ x t _ (show rSi wbt _ _ from ⟨_, _, _, _, _, _, _, _, _, _, _, _, _, _, _, _, _, _, rfl, (H.out.kept HBz.out).kept HXt.out⟩) (stay_sp _ _ _ _ HPT.out (below_thenB HBz.out HBz.out.size HXt.out))).mono ?_; rintro e wc ⟨rfl, b5⟩; rw [h2]; have HXc := Lib.hid (below_thenB HXt.out HXt.out.size b5); have HVc := Lib.hid (HVt.out.kept b5); have HVrc := Lib.hid (HVrt.out.kept b5); have r0 := HVrc.out.get (j := 0) rfl; clear b5 p0)
               | ((with_reducible show wpList _ _ _ (⟨some 88, _, _, _, _, _⟩ :: _) _ _); refine wpList_loadvg _ rfl 61 (.tmp 15) rfl 6 (by kernel_rfl) wz.heap.size 0 (spC t At mt ct) rfl (BL.all HVc.out) rfl ?_)
               | (go_at_call 46; refine (in_any _ t r.1 _ (stay_sp _ _ _ _ HPT.out (below_thenB HBz.out HBz.out.size HXc.out))).mono ?_; rintro e wd ⟨rfl, b6⟩; rw [h3]; have HXd := Lib.hid (below_thenB HXc.out HXc.out.size b6); clear b6 r0))
              go_roundw
              case rel => exact ⟨i + 1, true, by omega, by go_num, rfl, Lib.hid (by rw [any_next HXt'.out, ← hbv.out]; simp [oth2, HI.out, h2, h3]), Lib.hid (below_thenB hbz.out hbz.out.size HXd.out)⟩
              case measure => simp [intOf]; omega
          ·
           obtain rfl : i = n0 := by omega
           have HBV : Hid (bv = x.sp.any (oth2 x s r.1)) := Lib.hid (by rw [hbv.out, take_end HL.out])
           have HXz : Hid (Below wy.heap.size wy wz) := Lib.hid (below_thenB HXr.out HXr.out.size hbz.out)
           have HFL : Hid (((W.take j).filter fun r => !x.sp.any (oth2 x s r.1)).length ≤ 8) := Lib.hid (by
            have h1 : ((W.take j).filter fun r => !x.sp.any (oth2 x s r.1)).length ≤ (W.take j).length := List.length_filter_le _ _
            rw [List.length_take] at h1
            have := HNW8.out
            omega)
           cases bv with
           | true =>
            have HF : Hid (((W.take (j + 1)).filter fun r => !x.sp.any (oth2 x s r.1)) = (W.take j).filter fun r => !x.sp.any (oth2 x s r.1)) := Lib.hid (by rw [filt_step HXr'.out, ← HBV.out]; simp)
            go_wp2_with fail
            go_roundw
            case rel => exact ⟨j + 1, by omega, by go_num, Lib.hid (by rw [HF.out]; exact hoy.out.kept HXz.out), Lib.hid (below_thenB hby.out hby.out.size HXz.out)⟩
            case measure => simp [intOf]; omega
           | false =>
            have HF : Hid (((W.take (j + 1)).filter fun r => !x.sp.any (oth2 x s r.1)) = ((W.take j).filter fun r => !x.sp.any (oth2 x s r.1)) ++ [r]) := Lib.hid (by rw [filt_step HXr'.out, ← HBV.out]; simp)
            obtain ⟨nf, hnf⟩ : ∃ nf, (((W.take j).filter fun r => !x.sp.any (oth2 x s r.1))).length = nf := ⟨_, rfl⟩
            obtain ⟨css, hc1, hc2, hc3, hc4, hc5⟩ := hoy.out
            rw [hnf] at hc4
            have HN := Lib.hid hnf
            have HC1 := Lib.hid hc1
            have HC2 := Lib.hid hc2
            have HC3 := Lib.hid hc3
            have HC4 := Lib.hid hc4
            have HC5 := Lib.hid hc5
            clear hnf hc1 hc2 hc3 hc4 hc5
            go_wp2_with (first
             | ((with_reducible show wpList _ _ _ (⟨some 98, _, _, _, _, _⟩ :: _) _ _); refine wpList_loadv _ rfl 73 (.tmp 12) rfl 3 (by kernel_rfl) wy.heap.size 0 (rfL r) rfl (BL.all HVrz.out) rfl ?_)
             | ((with_reducible show wpList _ _ _ (⟨some 99, _, _, _, _, _⟩ :: _) _ _); refine wpList_bslice _ rfl 40 73 1 _ rfl #[(0, .agg (rfL r).toArray)] (by rw [List.map_toArray]; rfl) (rfL r) (bslRf r _) ?_; intro w8 y1 y2 y3; have HG8 := Lib.hid y1; have HX8 := Lib.hid (below_thenB HXz.out HXz.out.size y2); clear y1 y2 y3)
             | ((with_reducible show wpList _ _ _ (⟨some 100, _, _, _, _, _⟩ :: _) _ _); obtain ⟨iS, i1, i2, i3, i4⟩ := info_some infoRf; refine wpList_appRW _ rfl (.tmp 97) (.tmp 99) 40 73 3 iS _ rfl Try.underlying40 i1 i2 i3 rfl _ nf _ rfl (HC4.out.kept HX8.out) wz.heap.size _ rfl HG8.out rfl (one_rf r) (by rw [i4]; have := HFL.out; have := HN.out; omega) (by have := HFL.out; have := HN.out; omega) ?_; intro v' w9 y1; have HR9 := Lib.hid y1; clear y1 i1 i2 i3 i4))
            have HO9 : Hid (OL rRf 3 73 w7 w9 v' ((W.take (j + 1)).filter fun r => !x.sp.any (oth2 x s r.1))) := Lib.hid (by
             rw [HF.out]
             exact OL.push HC1.out HC2.out HC3.out HC5.out HN.out rfl ⟨rfl, HRK.out⟩ (by have := hby.out.size; have := HX8.out.size; omega) HR9.out)
            have HB9 : Hid (Below w7.heap.size w7 w9) := Lib.hid (((Kp.of_below (S := fun _ => False) (below_thenB hby.out hby.out.size HX8.out)).after HR9.out.kp (fun i hi e => by have := HC5.out i e; omega)).below (Nat.le_refl _) (fun _ h => h.elim))
            go_roundw
            case rel => exact ⟨j + 1, by omega, by go_num, HO9, HB9⟩
            case measure => simp [intOf]; omega
        ·
         obtain rfl : j = nw := by omega
         have HAL : Hid (OL rRf 3 73 wg wy _ (aloneT (st0 x) s)) := Lib.hid (by
          have h1 := hoy.out
          rw [take_end HNW.out.symm, HW.out] at h1
          rw [← alone_eq HVL.out (List.mem_of_getElem? HX.out) (live_sp hs)]
          exact h1.rebase (by have := HGX.out.size; have := HX7.out.size; omega))
         have HGY := Lib.hid (below_thenB HGX.out HGX.out.size (below_thenB HX7.out HX7.out.size hby.out))
         have HOD := Lib.hid ((hod.out.kept HX7.out).kept hby.out)
         have HFR := Lib.hid ((hfr.out.kept HX7.out).kept hby.out)
         have HVY := Lib.hid (HV7.out.kept hby.out)
         have HAL8 : Hid ((aloneT (st0 x) s).length ≤ 8) := Lib.hid (by
          have h1 : (aloneT (st0 x) s).length ≤ s.refs.length := List.length_filter_le _ _
          have := HSB.out.1
          omega)
         obtain ⟨nl, hnl⟩ : ∃ n, (aloneT (st0 x) s).length = n := ⟨_, rfl⟩
         obtain ⟨_, hrow⟩ := HAL.out.row
         obtain ⟨Al, cl, e9, _⟩ := hrow.form
         subst e9
         rw [hnl] at HAL ⊢
         have HNL := Lib.hid hnl
         clear hrow hnl
         by_cases h0 : 0 < nl
         ·
          have d1 : decide ((0 : Int) < (nl : Int)) = true := decide_eq_true (by omega)
          have d2 : decide (0 < nl) = true := decide_eq_true h0
          obtain ⟨h3, h4⟩ := refs_more HX.out hs (fun e => by have := HNL.out; rw [e] at this; simp at this; omega)
          have HI := Lib.hid h3
          have HR := Lib.hid h4
          clear h3 h4 h0
          have c1 := HFR.out.r.blk.get (j := 1) rfl
          have r0 := HVY.out.get (j := 0) rfl
          have HK2 : Hid (k2 ≤ 1000) := Lib.hid (by have h1 := HFR.out.r.s.len; have h2 := rwIds_len x (x.sp.take k); rw [List.length_take] at h2; have := HBG.out; omega)
          have HK3 : Hid (k3 ≤ 8000) := Lib.hid (by have h1 := HFR.out.r.r.len; have h2 := rwRefs_len x (x.sp.take k) (fun t ht => sp_refs8 HVL.out t (List.mem_of_mem_take ht)); rw [List.length_take] at h2; have := HBG.out; omega)
          obtain ⟨nf, hnf⟩ : ∃ nf, ((rwIds x (x.sp.take k))).length = nf := ⟨_, rfl⟩
          obtain ⟨css, hc1, hc2, hc3, hc4, hc5⟩ := HFR.out.r.s
          rw [hnf] at hc4
          have HN := Lib.hid hnf
          have HC1 := Lib.hid hc1
          have HC2 := Lib.hid hc2
          have HC3 := Lib.hid hc3
          have HC4 := Lib.hid hc4
          have HC5 := Lib.hid hc5
          clear hnf hc1 hc2 hc3 hc4 hc5
          have HNK : Hid (nf = k2) := Lib.hid (by have h1 := HFR.out.r.s.len; have := HN.out; omega)
          obtain rfl := HNK.out
          go_upto_region 30 with (first
           | ((with_reducible show wpList _ _ _ (⟨some 109, _, _, _, _, _⟩ :: _) _ _); refine wpList_bslice _ rfl 23 9 1 _ rfl #[(0, .string (strB s.id))] (by rw [List.map_toArray]; rfl) [.string (strB s.id)] (bslStr s.id _) ?_; intro w8 y1 y2 y3; have HG8 := Lib.hid y1; have HX8 : Hid (Below wy.heap.size wy w8) := Lib.hid y2; clear y1 y2 y3)
           | ((with_reducible show wpList _ _ _ (⟨some 110, _, _, _, _, _⟩ :: _) _ _); obtain ⟨iS, i1, i2, i3, i4⟩ := info_some infoStr; refine wpList_appRW _ rfl (.tmp 106) (.tmp 109) 23 9 1 iS _ rfl Try.underlying23 i1 i2 i3 rfl _ nf _ rfl (HC4.out.kept HX8.out) wy.heap.size _ rfl HG8.out rfl (one_str s.id) (by rw [i4]; have := HK2.out; omega) (by have := HK2.out; omega) ?_; intro v' w9 y1; obtain ⟨A9, C9, e9, _⟩ := y1.row.form; subst e9; have HR9 := Lib.hid y1; have HG9 := Lib.hid (y1.bl (HC4.out.kept HX8.out) (HFR.out.r.blk.kept HX8.out) (by decide)); clear y1 i1 i2 i3 i4)
           | ((with_reducible show wpList _ _ _ (⟨none, _, _, _, _, _⟩ :: _) _ _); refine wpList_store1 _ rfl 23 (.tmp 111) (.tmp 110) rfl (strSz _) gr 1 _ _ (.slice A9 (nf + 1) C9) rfl rfl HG9.out rfl rfl (by simp) ?_; intro w10 y1 y2 y3; have HG10 := Lib.hid y1; have HK10 := Lib.hid y2; clear y1 y2 y3))
          have HFR10 : Hid (FR wg w10 gf gr A1 k1 C1 A9 (nf + 1) C9 A3 k3 C3 (fgIds x (x.sp.take (k + 1))) (rwIds x (x.sp.take k) ++ [s.id]) (rwRefs x (x.sp.take k))) := Lib.hid ((HFR.out.kept HX8.out).pushR (by have := HGY.out.size; have := HX8.out.size; omega) HC1.out HC2.out HC3.out HC5.out (HC4.out.kept HX8.out) HID.out HR9.out HG10.out HK10.out)
          have HOD10 : Hid (OL rDel 5 42 wb w10 u3 (dels x x.held)) := Lib.hid (by
           have o8 := HOD.out.kept HX8.out
           obtain ⟨_, r8⟩ := o8.row
           refine (o8.kp HR9.out.kp (r8.ne_rw (HC4.out.kept HX8.out) (by decide))).kp HK10.out (fun b hb' e => ?_)
           have := HVG.out b hb'
           have := HGR.out
           omega)
          have HAL10 : Hid (OL rRf 3 73 wg w10 (.slice Al nl cl) (aloneT (st0 x) s)) := Lib.hid (by
           have o8 := HAL.out.kept HX8.out
           obtain ⟨_, r8⟩ := o8.row
           have o9 := o8.kp HR9.out.kp (r8.ne_rw (HC4.out.kept HX8.out) (by decide))
           obtain ⟨_, r9⟩ := o9.row
           exact o9.kp HK10.out (fun b hb' e => r9.ne_bl HG9.out (by decide) b hb' e))
          have HGY10 : Hid (Below wg.heap.size wg w10) := Lib.hid ((((Kp.of_below (S := fun _ => False) (below_thenB HGY.out HGY.out.size HX8.out)).after HR9.out.kp (fun i hi e => by have := HC5.out i e; omega)).after HK10.out (fun i hi e => by have := HGR.out; omega)).below (Nat.le_refl _) (fun _ h => h.elim))
          clear HN HC1 HC2 HC3 HC4 HC5 HG8 HR9 HG9 HG10 HK10 c1 r0 HX8
          have c4 := HFR10.out.r.blk.get (j := 4) rfl
          obtain ⟨A5, c5, e5, hl5⟩ := HAL10.out.ls (b := 32) stay_rf HGY10.out (by unfold lim; have := HAL8.out; omega)
          injection e5 with eA en ec
          rw [← eA, ← en, ← ec] at hl5
          clear eA en ec
          obtain ⟨dss, k1', k2', k3', hsrc⟩ := hl5.src (P := Try.prog) len_rf ones_rf Try.underlying40
          have HD1 := Lib.hid k1'
          have HD2 := Lib.hid k2'
          have HD3 := Lib.hid k3'
          have HSRC := Lib.hid (hsrc _ (Below.refl _ _))
          clear k1' k2' k3' hsrc hl5
          obtain ⟨mf, hnf⟩ : ∃ nf, ((rwRefs x (x.sp.take k))).length = nf := ⟨_, rfl⟩
          obtain ⟨css, hc1, hc2, hc3, hc4, hc5⟩ := HFR10.out.r.r
          rw [hnf] at hc4
          have HN := Lib.hid hnf
          have HC1 := Lib.hid hc1
          have HC2 := Lib.hid hc2
          have HC3 := Lib.hid hc3
          have HC4 := Lib.hid hc4
          have HC5 := Lib.hid hc5
          clear hnf hc1 hc2 hc3 hc4 hc5
          have HNK : Hid (mf = k3) := Lib.hid (by have h1 := HFR10.out.r.r.len; have := HN.out; omega)
          obtain rfl := HNK.out
          go_wp2_with (first
           | ((with_reducible show wpList _ _ _ (⟨some 115, _, _, _, _, _⟩ :: _) _ _); obtain ⟨iS, i1, i2, i3, i4⟩ := info_some infoRf; refine wpList_appX _ rfl (.tmp 113) (.tmp 114) 40 73 3 iS _ rfl Try.underlying40 i1 i2 i3 rfl _ mf _ rfl HC4.out _ nl _ rfl HSRC.out (by rw [i4]; have := HK3.out; have := HAL8.out; have := HNL.out; omega) (by have := HK3.out; have := HAL8.out; have := HNL.out; omega) ?_; intro v' w11 y1; obtain ⟨A11, C11, e9, _⟩ := y1.row.form; subst e9; have HR11 := Lib.hid y1; have HG11 := Lib.hid (y1.bl HC4.out HFR10.out.r.blk (by decide)); clear y1 i1 i2 i3 i4)
           | ((with_reducible show wpList _ _ _ (⟨none, _, _, _, _, _⟩ :: _) _ _); refine wpList_store1 _ rfl 40 (.tmp 116) (.tmp 115) rfl (rfSz _) gr 4 _ _ (.slice A11 (mf + nl) C11) rfl rfl HG11.out rfl rfl (by simp) ?_; intro w12 y1 y2 y3; have HG12 := Lib.hid y1; have HK12 := Lib.hid y2; clear y1 y2 y3))
          have HFR12 : Hid (FR wg w12 gf gr A1 k1 C1 A9 (nf + 1) C9 A11 (mf + nl) C11 (fgIds x (x.sp.take (k + 1))) (rwIds x (x.sp.take (k + 1))) (rwRefs x (x.sp.take (k + 1)))) := Lib.hid (by
           rw [HI.out, HR.out]
           exact HFR10.out.pushRs HGY10.out.size HC1.out HC2.out HC3.out HC5.out HC4.out HD1.out HD2.out (fun k h h' => HD3.out k h h') HNL.out HR11.out HG12.out HK12.out)
          have HOD12 : Hid (OL rDel 5 42 wb w12 u3 (dels x x.held)) := Lib.hid (by
           obtain ⟨_, r8⟩ := HOD10.out.row
           refine (HOD10.out.kp HR11.out.kp (r8.ne_rw HC4.out (by decide))).kp HK12.out (fun b hb' e => ?_)
           have := HVG.out b hb'
           have := HGR.out
           omega)
          have HGY12 : Hid (Below wg.heap.size wg w12) := Lib.hid ((((Kp.of_below (S := fun _ => False) HGY10.out).after HR11.out.kp (fun i hi e => by have := HC5.out i e; omega)).after HK12.out (fun i hi e => by have := HGR.out; omega)).below (Nat.le_refl _) (fun _ h => h.elim))
          go_roundw
          case rel => exact ⟨k + 1, by omega, by go_num, Lib.hid ⟨_, _, _, _, _, _, _, _, _, HFR12.out⟩, HOD12, HGY12⟩
          case measure => simp [intOf]; omega
         ·
          have d1 : decide ((0 : Int) < (nl : Int)) = false := decide_eq_false (by omega)
          have d2 : decide (0 < nl) = false := decide_eq_false h0
          obtain ⟨h3, h4⟩ := refs_nil HX.out (List.eq_nil_of_length_eq_zero (by have := HNL.out; omega))
          have HI := Lib.hid h3
          have HR := Lib.hid h4
          clear h3 h4 h0
          go_wp2_with fail
          go_roundw
          case rel => exact ⟨k + 1, by omega, by go_num, Lib.hid ⟨_, _, _, _, _, _, _, _, _, by rw [HI.out, HR.out]; exact HFR.out⟩, HOD, HGY⟩
          case measure => simp [intOf]; omega
    ·
     obtain rfl : n0 = k := by omega
     rw [take_end HL.out] at HFR0
     clear hlt hk HF5 HG5 HX5 HO
     have HDL : Hid ((dels x x.held).length ≤ 1000) := Lib.hid (by rw [dels, List.length_map]; exact Nat.le_trans (List.length_filter_le _ _) HBH.out)
     have HLF : Hid ((fgIds x x.sp).length = k1) := Lib.hid HFR0.out.f.s.len
     have HLI : Hid ((rwIds x x.sp).length = k2) := Lib.hid HFR0.out.r.s.len
     have HL1 : Hid ((fgIds x x.sp).length ≤ 1000) := Lib.hid (by rw [fgIds, List.length_map]; exact Nat.le_trans (List.length_filter_le _ _) HBG.out)
     have HL2 : Hid ((rwIds x x.sp).length ≤ 1000) := Lib.hid (Nat.le_trans (rwIds_len x x.sp) HBG.out)
     have HL3 : Hid ((rwRefs x x.sp).length ≤ 8000) := Lib.hid (by have h1 := rwRefs_len x x.sp (sp_refs8 HVL.out); have := HBG.out; omega)
     have HQF : Hid (rStpQ ws (sbC 4 A1 k1 C1 none 0 0) (fgStp x)) := Lib.hid (HFR0.out.f.stpT hbg.out (by unfold lim; have := HL1.out; omega) (by unfold lim; simp) rfl)
     have HQR : Hid (rStpQ ws (sbC 1 A2 k2 C2 A3 k3 C3) (rwStp x)) := Lib.hid (HFR0.out.r.stpT hbg.out (by unfold lim; have := HL2.out; omega) (by unfold lim; have := HL3.out; omega) rfl)
     have HON : Hid (OLn rStpQ 5 42 wb.heap.size ws u3 (dels x x.held)) := Lib.hid (hod'.out.to_n (R' := rStpQ) (fun _ _ _ h => rDel_stpQ h))
     have HVR : Hid (∀ b, u3.ownBlock = some b → b ≠ gr) := Lib.hid (fun b hb' => by have := HVG.out b hb'; have := HGR.out; omega)
     have HBB : Hid (Below wb.heap.size wb ws) := Lib.hid (below_thenB HWX.out HWX.out.size hbg.out)
     have HRB := Lib.hid HFR0.out.r.blk
     have HFB := Lib.hid HFR0.out.f.blk
     have HNX : Hid ((dels x x.held).length ≤ 1001) := Lib.hid (by have := HDL.out; omega)
     clear HFR0 hod' HVG
     have c1 := HFB.out.get (j := 1) rfl
     go_upto_if 121 with fail
     clear c1
     go_cut [3] (fun v wx => Hid (OLn rStpQ 5 42 wb.heap.size wx v (dels x x.held ++ [fgStp x].filter neS)) ∧ Hid (∀ b, v.ownBlock = some b → b ≠ gr) ∧ Hid (BL wx gr 42 (sbC 1 A2 k2 C2 A3 k3 C3)) ∧ Hid (rStpQ wx (sbC 1 A2 k2 C2 A3 k3 C3) (rwStp x)) ∧ Hid (Below wb.heap.size wb wx))
     case first =>
      by_cases h0 : 0 < k1
      ·
       have d1 : decide ((0 : Int) < (k1 : Int)) = true := decide_eq_true (by omega)
       have d2 : decide (0 < k1) = true := decide_eq_true h0
       have HNE : Hid ([fgStp x].filter neS = [fgStp x]) := Lib.hid (one_ne (by have := HLF.out; show 0 < (fgIds x x.sp).length; omega))
       obtain ⟨nf, hnf⟩ : ∃ nf, (dels x x.held).length = nf := ⟨_, rfl⟩
       obtain ⟨css, hc1, hc2, hc3, hc4, hc5⟩ := HON.out
       rw [hnf] at hc4
       have HN := Lib.hid hnf
       have HC1 := Lib.hid hc1
       have HC2 := Lib.hid hc2
       have HC3 := Lib.hid hc3
       have HC4 := Lib.hid hc4
       have HC5 := Lib.hid hc5
       clear hnf hc1 hc2 hc3 hc4 hc5
       have HNF : Hid (nf ≤ 1010) := Lib.hid (by have := HN.out; have := HNX.out; omega)
       go_wp2_with (first
        | ((with_reducible show wpList _ _ _ (⟨some 123, _, _, _, _, _⟩ :: _) _ _); refine wpList_loadv _ rfl 42 (.tmp 6) rfl 5 (by kernel_rfl) gf 0 (sbC 4 A1 k1 C1 none 0 0) rfl (BL.all HFB.out) rfl ?_)
        | ((with_reducible show wpList _ _ _ (⟨some 124, _, _, _, _, _⟩ :: _) _ _); refine wpList_bslice _ rfl 35 42 1 _ rfl #[(0, .agg ((sbC 4 A1 k1 C1 none 0 0)).toArray)] (by rw [List.map_toArray]; rfl) (sbC 4 A1 k1 C1 none 0 0) (bslStq _ _ _ _ _ _ _ _ _ _) ?_; intro w8 y1 y2 y3; have HG8 := Lib.hid y1; have HX8 : Hid (Below ws.heap.size ws w8) := Lib.hid y2; clear y1 y2 y3)
        | ((with_reducible show wpList _ _ _ (⟨some 125, _, _, _, _, _⟩ :: _) _ _); obtain ⟨iS, i1, i2, i3, i4⟩ := info_some infoStq; refine wpList_appRW _ rfl (.tmp 122) (.tmp 124) 35 42 5 iS _ rfl Try.underlying35 i1 i2 i3 rfl _ nf _ rfl (HC4.out.kept HX8.out) ws.heap.size _ rfl HG8.out rfl (one_val _ rfl) (by rw [i4]; have := HNF.out; omega) (by have := HNF.out; omega) ?_; intro v' w9 y1; have HR9 := Lib.hid y1; clear y1 i1 i2 i3 i4))
       have HY8 : Hid (Below wb.heap.size wb w8) := Lib.hid (below_thenB HBB.out HBB.out.size HX8.out)
       have HY9 : Hid (Below wb.heap.size wb w9) := Lib.hid (((Kp.of_below (S := fun _ => False) HY8.out).after HR9.out.kp (fun i hi e => by have := HC5.out i e; omega)).below (Nat.le_refl _) (fun _ h => h.elim))
       have HTY : Hid (∀ i, i < w8.heap.size → _ = some i → ∃ l, BL w8 i 42 l) := Lib.hid (fun i _ e => (HC4.out.kept HX8.out).ty e)
       have HO9 := Lib.hid ((HON.out.kept HX8.out).pushQ HN.out rfl (HQF.out.kept HX8.out) HY8.out.size HC1.out HC2.out (fun w' hk => HC3.out w' (Kp.before HX8.out hk)) HC5.out HR9.out)
       have HG9 := Lib.hid (HR9.out.kp.bl (HRB.out.kept HX8.out) (fun e => HVR.out gr e rfl))
       have HZ9 := Lib.hid ((HQR.out.kept HX8.out).kp HR9.out.kp HTY.out)
       have HV9 : Hid (∀ b, v'.ownBlock = some b → b ≠ gr) := Lib.hid (fun b hb' => by
        rcases HR9.out.own b hb' with h | h
        ·
         exact HVR.out b h
        ·
         have := HRB.out.lt
         have := HX8.out.size
         omega)
       go_meet
       exact ⟨Lib.hid (by rw [HNE.out]; exact HO9.out), HV9, HG9, HZ9, HY9⟩
      ·
       have d1 : decide ((0 : Int) < (k1 : Int)) = false := decide_eq_false (by omega)
       have d2 : decide (0 < k1) = false := decide_eq_false h0
       have HNE : Hid ([fgStp x].filter neS = []) := Lib.hid (one_no (by have := HLF.out; show ¬ 0 < (fgIds x x.sp).length; omega))
       go_wp2_with fail
       go_meet
       exact ⟨Lib.hid (by rw [HNE.out, List.append_nil]; exact HON.out), HVR, HRB, HQR, HBB⟩
     case rest =>
     obtain ⟨HON', HVR', HRB', HQR', HBB'⟩ := hcut
     clear HON HVR HRB HQR HBB HQF HFB hbg HBs HSx0 HNX
     have HON := HON'
     have HVR := HVR'
     have HRB := HRB'
     have HQR := HQR'
     have HBB := HBB'
     clear HON' HVR' HRB' HQR' HBB'
     obtain ⟨ws, hws⟩ : ∃ y, y = wc := ⟨_, rfl⟩
     rw [← hws] at HON HRB HQR HBB ⊢
     clear hws
     have HNX : Hid ((dels x x.held ++ [fgStp x].filter neS).length ≤ 1001) := Lib.hid (by have h1 : ([fgStp x].filter neS).length ≤ 1 := List.length_filter_le _ _; have := HDL.out; rw [List.length_append]; omega)
     have c1 := HRB.out.get (j := 1) rfl
     go_upto_if 129 with fail
     clear c1
     go_cut [3] (fun v wx => Hid (OLn rStpQ 5 42 wb.heap.size wx v (dels x x.held ++ [fgStp x].filter neS ++ [rwStp x].filter neS)) ∧ Hid (Below wb.heap.size wb wx))
     case first =>
      by_cases h0 : 0 < k2
      ·
       have d1 : decide ((0 : Int) < (k2 : Int)) = true := decide_eq_true (by omega)
       have d2 : decide (0 < k2) = true := decide_eq_true h0
       have HNE : Hid ([rwStp x].filter neS = [rwStp x]) := Lib.hid (one_ne (by have := HLI.out; show 0 < (rwIds x x.sp).length; omega))
       obtain ⟨nf, hnf⟩ : ∃ nf, ((dels x x.held ++ [fgStp x].filter neS)).length = nf := ⟨_, rfl⟩
       obtain ⟨css, hc1, hc2, hc3, hc4, hc5⟩ := HON.out
       rw [hnf] at hc4
       have HN := Lib.hid hnf
       have HC1 := Lib.hid hc1
       have HC2 := Lib.hid hc2
       have HC3 := Lib.hid hc3
       have HC4 := Lib.hid hc4
       have HC5 := Lib.hid hc5
       clear hnf hc1 hc2 hc3 hc4 hc5
       have HNF : Hid (nf ≤ 1010) := Lib.hid (by have := HN.out; have := HNX.out; omega)
       go_wp2_with (first
        | ((with_reducible show wpList _ _ _ (⟨some 131, _, _, _, _, _⟩ :: _) _ _); refine wpList_loadv _ rfl 42 (.tmp 7) rfl 5 (by kernel_rfl) gr 0 (sbC 1 A2 k2 C2 A3 k3 C3) rfl (BL.all HRB.out) rfl ?_)
        | ((with_reducible show wpList _ _ _ (⟨some 132, _, _, _, _, _⟩ :: _) _ _); refine wpList_bslice _ rfl 35 42 1 _ rfl #[(0, .agg ((sbC 1 A2 k2 C2 A3 k3 C3)).toArray)] (by rw [List.map_toArray]; rfl) (sbC 1 A2 k2 C2 A3 k3 C3) (bslStq _ _ _ _ _ _ _ _ _ _) ?_; intro w8 y1 y2 y3; have HG8 := Lib.hid y1; have HX8 : Hid (Below ws.heap.size ws w8) := Lib.hid y2; clear y1 y2 y3)
        | ((with_reducible show wpList _ _ _ (⟨some 133, _, _, _, _, _⟩ :: _) _ _); obtain ⟨iS, i1, i2, i3, i4⟩ := info_some infoStq; refine wpList_appRW _ rfl (.tmp 130) (.tmp 132) 35 42 5 iS _ rfl Try.underlying35 i1 i2 i3 rfl _ nf _ rfl (HC4.out.kept HX8.out) ws.heap.size _ rfl HG8.out rfl (one_val _ rfl) (by rw [i4]; have := HNF.out; omega) (by have := HNF.out; omega) ?_; intro v' w9 y1; have HR9 := Lib.hid y1; clear y1 i1 i2 i3 i4))
       have HY8 : Hid (Below wb.heap.size wb w8) := Lib.hid (below_thenB HBB.out HBB.out.size HX8.out)
       have HY9 : Hid (Below wb.heap.size wb w9) := Lib.hid (((Kp.of_below (S := fun _ => False) HY8.out).after HR9.out.kp (fun i hi e => by have := HC5.out i e; omega)).below (Nat.le_refl _) (fun _ h => h.elim))
       have HTY : Hid (∀ i, i < w8.heap.size → _ = some i → ∃ l, BL w8 i 42 l) := Lib.hid (fun i _ e => (HC4.out.kept HX8.out).ty e)
       have HO9 := Lib.hid ((HON.out.kept HX8.out).pushQ HN.out rfl (HQR.out.kept HX8.out) HY8.out.size HC1.out HC2.out (fun w' hk => HC3.out w' (Kp.before HX8.out hk)) HC5.out HR9.out)
       go_meet
       exact ⟨Lib.hid (by rw [HNE.out]; exact HO9.out), HY9⟩
      ·
       have d1 : decide ((0 : Int) < (k2 : Int)) = false := decide_eq_false (by omega)
       have d2 : decide (0 < k2) = false := decide_eq_false h0
       have HNE : Hid ([rwStp x].filter neS = []) := Lib.hid (one_no (by have := HLI.out; show ¬ 0 < (rwIds x x.sp).length; omega))
       go_wp2_with fail
       go_meet
       exact ⟨Lib.hid (by rw [HNE.out, List.append_nil]; exact HON.out), HBB⟩
     case rest =>
     obtain ⟨HON', HBB'⟩ := hcut
     clear HON HVR HRB HQR HBB
     have HON := Lib.hid (HON'.out.mono (R' := rStp) (fun _ _ _ h => h.1))
     have HBB := HBB'
     clear HON' HBB'
     obtain ⟨wq, hwq⟩ : ∃ y, y = wc := ⟨_, rfl⟩
     rw [← hwq] at HON HBB ⊢
     clear hwq
     have HSq := Lib.hid (HS1.out.kept HBB.out)
     have HBq := Lib.hid (below_then HB1.out HBB.out)
     have HNX2 : Hid (([rwStp x].filter neS).length ≤ 1) := Lib.hid (List.length_filter_le _ _)
     have HPE : Hid (planL x = (dels x x.held ++ [fgStp x].filter neS ++ [rwStp x].filter neS) ++ [gvStp x].filter neS) := Lib.hid (by
      have e : gvStp x = prStp x := by unfold gvStp prStp; rw [giv_eq HVL.out]
      have e2 : [fgStp x, rwStp x, prStp x] = [fgStp x] ++ [rwStp x] ++ [prStp x] := rfl
      rw [e, planL, e2, List.filter_append, List.filter_append, List.append_assoc, List.append_assoc, List.append_assoc])
     go_upto_if 138 with (first
      | ((with_reducible show wpList _ _ _ (⟨some 134, _, _, _, _, _⟩ :: _) _ _); refine wpList_loadv _ rfl 26 (.tmp 1) rfl 7 (by kernel_rfl) w.heap.size 0 _ rfl (BL.all HSq.out) rfl ?_)
      | (go_at_call 47; refine (given_any _ x _ (show rSi wq _ _ from ⟨_, _, _, _, _, _, _, _, _, _, _, _, _, _, _, _, _, _, rfl, H.out.kept HBq.out⟩) HVL.out HBG.out).mono ?_; rintro e ws ⟨A9, c9, rfl, l9, n9, b9⟩; have HL9 := Lib.hid l9; have HN9 := Lib.hid n9; have HX9 := Lib.hid b9; clear b9 l9 n9))
     obtain ⟨ng, hng⟩ : ∃ n, n = (givL x).length := ⟨_, rfl⟩
     have HNG := Lib.hid hng.symm
     rw [← hng] at HL9 ⊢
     clear hng
     have HNL : Hid (((dels x x.held ++ [fgStp x].filter neS) ++ [rwStp x].filter neS).length ≤ 1002) := Lib.hid (by
      have := HNX.out; have := HNX2.out
      rw [List.length_append]; omega)
     by_cases h0 : 0 < ng
     ·
      have d1 : decide ((0 : Int) < (ng : Int)) = true := decide_eq_true (by omega)
      have d2 : decide (0 < ng) = true := decide_eq_true h0
      have HNE : Hid ([gvStp x].filter neS = [gvStp x]) := Lib.hid (one_ne (by have := HNG.out; show 0 < (givL x).length; omega))
      obtain ⟨nf, hnf⟩ : ∃ nf, ((dels x x.held ++ [fgStp x].filter neS ++ [rwStp x].filter neS)).length = nf := ⟨_, rfl⟩
      obtain ⟨css, hc1, hc2, hc3, hc4, hc5⟩ := HON.out
      rw [hnf] at hc4
      have HN := Lib.hid hnf
      have HC1 := Lib.hid hc1
      have HC2 := Lib.hid hc2
      have HC3 := Lib.hid hc3
      have HC4 := Lib.hid hc4
      have HC5 := Lib.hid hc5
      clear hnf hc1 hc2 hc3 hc4 hc5
      have HNF : Hid (nf ≤ 1010) := Lib.hid (by have := HN.out; have := HNL.out; omega)
      go_wp2_with (first
       | ((with_reducible show wpList _ _ _ (⟨some 141, _, _, _, _, _⟩ :: _) _ _); refine wpList_build _ rfl 42 #[(0, .const (.int .i64 2)), (1, .tmp 140)] rfl #[(0, .int .i64 2), (1, .slice A9 ng c9)] (by rw [List.map_toArray]; rfl) (.agg (sbC 2 A9 ng c9 none 0 0).toArray) (bldG _ _ _ _) ?_)
       | ((with_reducible show wpList _ _ _ (⟨some 142, _, _, _, _, _⟩ :: _) _ _); refine wpList_bslice _ rfl 35 42 1 _ rfl #[(0, .agg (sbC 2 A9 ng c9 none 0 0).toArray)] (by rw [List.map_toArray]; rfl) (sbC 2 A9 ng c9 none 0 0) (bslStq _ _ _ _ _ _ _ _ _ _) ?_; intro w8 y1 y2 y3; have HG8 := Lib.hid y1; have HY8 := Lib.hid y2; have HX8 : Hid (Below wq.heap.size wq w8) := Lib.hid (below_thenB HX9.out HX9.out.size y2); clear y1 y2 y3)
       | ((with_reducible show wpList _ _ _ (⟨some 143, _, _, _, _, _⟩ :: _) _ _); obtain ⟨iS, i1, i2, i3, i4⟩ := info_some infoStq; refine wpList_appRW _ rfl (.tmp 139) (.tmp 142) 35 42 5 iS _ rfl Try.underlying35 i1 i2 i3 rfl _ nf _ rfl (HC4.out.kept HX8.out) ws.heap.size _ rfl HG8.out rfl (one_val _ rfl) (by rw [i4]; have := HNF.out; omega) (by have := HNF.out; omega) ?_; intro v' w9 y1; have HR9 := Lib.hid y1; clear y1 i1 i2 i3 i4))
      have HZ8 : Hid (Below wb.heap.size wb w8) := Lib.hid (below_thenB HBB.out HBB.out.size HX8.out)
      have HZ9 : Hid (Below wb.heap.size wb w9) := Lib.hid (((Kp.of_below (S := fun _ => False) HZ8.out).after HR9.out.kp (fun i hi e => by have := HC5.out i e; omega)).below (Nat.le_refl _) (fun _ h => h.elim))
      have HO9 := OLn.push HC1.out HC2.out (fun w' hk => HC3.out w' (Kp.before HX8.out hk)) HC5.out HN.out rfl (fun w' hk => (show rStp w' (sbC 2 A9 ng c9 none 0 0) (gvStp x) from ⟨A9, ng, c9, none, 0, 0, rfl, (HL9.out.kept stay_str HY8.out).kpn (fun _ _ h => h) hk (fun a ha hown => by
       have h1 := (HN9.out a ha).elim (fun e => by cases e) id
       have h2 := HC4.out.lt hown
       omega), LS.nil, rfl, Nat.zero_le _, rfl⟩)) HZ8.out.size HR9.out
      have HO9' := Lib.hid HO9
      clear HO9
      go_ret
      have HP9 : planL x = (dels x x.held ++ [fgStp x].filter neS ++ [rwStp x].filter neS) ++ [gvStp x] := by rw [HPE.out, HNE.out]
      rw [HP9]
      obtain ⟨A8, c8, e8, l8⟩ := OLn.ls (b := 80) HO9'.out (by rw [List.length_append]; have := HNL.out; unfold lim; simp only [List.length_singleton]; omega)
      exact ⟨A8, c8, by rw [e8]; rfl, l8, below_then HB1.out HZ9.out⟩
     ·
      have d1 : decide ((0 : Int) < (ng : Int)) = false := decide_eq_false (by omega)
      have d2 : decide (0 < ng) = false := decide_eq_false h0
      have HNE : Hid ([gvStp x].filter neS = []) := Lib.hid (one_no (by have := HNG.out; show ¬ 0 < (givL x).length; omega))
      go_wp2_with fail
      go_ret
      have HP9 : planL x = (dels x x.held ++ [fgStp x].filter neS ++ [rwStp x].filter neS) := by rw [HPE.out, HNE.out, List.append_nil]
      rw [HP9]
      obtain ⟨A8, c8, e8, l8⟩ := OLn.ls (b := 80) (HON.out.kept HX9.out) (by have := HNL.out; unfold lim; omega)
      exact ⟨A8, c8, by rw [e8]; rfl, l8, below_thenB HBq.out HBq.out.size HX9.out⟩
end Go.Proofs.Ytboglaokdgnpaaa
