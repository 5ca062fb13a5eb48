/- Several texts in one: Ti. -/
import Derived.Test.YtboglaokdgnpaaaA24
/- collector.Plan. -/
namespace Go.Proofs.Ytboglaokdgnpaaa
open Go Go.RowKit Gf Sha

def TStp (ok : Bool) (L : List Stp) (w : World) (e : Ending) (w' : World) : Prop :=
 if ok then ∃ A c, e = .returned (.tuple #[.slice A L.length c, .int .i64 0]) ∧ LS rStp 5 80 w' A L.length c L ∧ Below w.heap.size w w'
 else e = .returned (.tuple #[.slice none 0 0, .int .i64 1]) ∧ Below w.heap.size w w'
abbrev rwC (x : Si) (B0 : Option Addr) (p0 d0 : Nat) (B1 : Option Addr) (p1 d1 : Nat) : List Value := stC (rwStp x) B0 p0 d0 B1 p1 d1
abbrev prC (x : Si) (B0 : Option Addr) (p0 d0 : Nat) (B1 : Option Addr) (p1 d1 : Nat) : List Value := stC (prStp x) B0 p0 d0 B1 p1 d1
set_option maxRecDepth 100000 in
set_option maxHeartbeats 4000000 in
theorem plan_any (a0 : Option Addr) (n0 c0 : Nat) (a1 : Option Addr) (n1 c1 : Nat) (a2 : Option Addr) (n2 c2 : Nat) (a3 : Option Addr) (n3 c3 : Nat) (a4 : Option Addr) (n4 c4 : Nat) (a5 : Option Addr) (n5 c5 : Nat) (x : Si) (w : World) (hq : SiOk w a0 n0 c0 a1 n1 c1 a2 n2 c2 a3 n3 c3 a4 n4 c4 a5 n5 c5 x) (hbig : x.sp.length ≤ 1000) (hbh : x.held.length ≤ 1000) :
  Calls Try.prog 11 #[.agg (siC a0 n0 c0 a1 n1 c1 a2 n2 c2 a3 n3 c3 a4 n4 c4 a5 n5 c5 x.pct).toArray] w (TStp (siB x) (planL x) w) := by
 have hn := hq.sp.len_le
 have hn5 := hq.held.len_le
 have H := Lib.hid hq
 have HL := Lib.hid hq.sp.1
 have HL5 := Lib.hid hq.held.1
 have HBG := Lib.hid hbig
 have HBH := Lib.hid hbh
 clear hq hbig hbh
 cases hv : siB x with
 | false =>
  go_enter Try.func11, Try.ntmps11
  go_wp2_with (first
   | ((with_reducible show OpW 1); refine wpList_box _ rfl 33 (.tmp 0) rfl (siC a0 n0 c0 a1 n1 c1 a2 n2 c2 a3 n3 c3 a4 n4 c4 a5 n5 c5 x.pct) rfl ?_; intro w1 a1 a2 a3; have HB1 := Lib.hid a2; have HS1 := Lib.hid a1; clear a1 a2 a3)
   | ((with_reducible show OpW 15); refine wpList_loadv _ rfl 33 (.tmp 1) rfl 7 (by kernel_rfl) w.heap.size 0 _ rfl (BL.all HS1.out) rfl ?_)
   | (go_at_call 38; refine (read_any a0 n0 c0 a1 n1 c1 a2 n2 c2 a3 n3 c3 a4 n4 c4 a5 n5 c5 x _ (H.out.kept HB1.out) HBG.out).mono ?_; unfold ReadR; rw [hv]; (simp only [Bool.false_eq_true, if_false]); rintro e w3 ⟨rfl, b3⟩; have HB3 := Lib.hid (below_then HB1.out b3); clear b3))
  go_ret2
  exact ⟨rfl, HB3.out⟩
 | true =>
  go_enter Try.func11, Try.ntmps11
  go_wp2_with (first
   | ((with_reducible show OpW 1); refine wpList_box _ rfl 33 (.tmp 0) rfl (siC a0 n0 c0 a1 n1 c1 a2 n2 c2 a3 n3 c3 a4 n4 c4 a5 n5 c5 x.pct) rfl ?_; intro w1 a1 a2 a3; have HB1 := Lib.hid a2; have HS1 := Lib.hid a1; clear a1 a2 a3)
   | ((with_reducible show OpW 15); refine wpList_loadv _ rfl 33 (.tmp 1) rfl 7 (by kernel_rfl) w.heap.size 0 _ rfl (BL.all HS1.out) rfl ?_)
   | (go_at_call 38; refine (read_any a0 n0 c0 a1 n1 c1 a2 n2 c2 a3 n3 c3 a4 n4 c4 a5 n5 c5 x _ (H.out.kept HB1.out) HBG.out).mono ?_; unfold ReadR; rw [hv]; (simp only [if_true]); rintro e wb ⟨gb, m0, m1, m2, m3, m4, m5, m6, m7, rfl, hst, b3, h8, h9⟩; have HB3 := Lib.hid (below_then HB1.out b3); have HST := Lib.hid hst; have q5 := hst.blk.get (j := 5) rfl; clear hst b3 h8 h9))
  clear q5
  go_loopw [6, 28] (fun v iv wr => ∃ k : Nat, k ≤ n5 ∧ iv = .int .i64 (k : Int) ∧ Hid (OL rDel 5 44 wb wr v (dels x (x.held.take k))) ∧ Hid (Below wb.heap.size wb wr)) (fun _ iv _ => n5 - (intOf iv).toNat)
  case atStart => exact ⟨0, by omega, rfl, Lib.hid (OL.nil _ _ _ _ _), Lib.hid (Below.refl _ _)⟩
  case round =>
   obtain ⟨k, hk, rfl, ho, hb⟩ := hrel
   obtain ⟨wx, hwx⟩ : ∃ x, x = wr := ⟨_, rfl⟩
   rw [← hwx] at ho hb ⊢
   clear hwx
   have HBx := Lib.hid (below_thenB HB3.out HB3.out.size hb.out)
   by_cases hlt : k < n5
   ·
    obtain ⟨q, g, o, cs, hs, rfl, hat, rfl, hok⟩ := H.out.held.at_ stay_pc (Below.refl _ _) hlt
    have HX := Lib.hid hs
    have HA := Lib.hid (hat.kept HBx.out)
    have HKS := Lib.hid (keyS q.1 (reach_key hok.1))
    have HOK := Lib.hid hok
    have HFL : Hid ((dels x (x.held.take k)).length ≤ k) := Lib.hid (by rw [dels, List.length_map]; exact Nat.le_trans (List.length_filter_le _ _) (by rw [List.length_take]; omega))
    have HK1000 : Hid (k ≤ 1000) := Lib.hid (by have := HBH.out; have := HL5.out; omega)
    clear hs hat hok
    cases h1 : hasB x.drop q.1 with
    | false =>
     have HF : Hid (dels x (x.held.take (k + 1)) = dels x (x.held.take k)) := Lib.hid (by rw [dels_step HX.out, h1]; simp)
     have h1 : (st0 x).drop q.1 = false := h1
     go_wp2_with (first
      | ((with_reducible show OpW 31); refine wpList_loadv _ rfl 39 (.tmp 30) rfl 2 (by kernel_rfl) g (o + k * 2) (pcL q) (by go_simp) HA.out rfl ?_)
      | ((with_reducible show OpW 8); refine wpList_alloc _ rfl 39 rfl pcZ pcZero ?_; intro w3 a1 a2 a3; have HV3 := Lib.hid a1; have HX3 := Lib.hid a2; clear a1 a2 a3)
      | ((with_reducible show OpN); refine wpList_storev _ rfl 39 (.tmp 8) (.tmp 31) rfl 2 (by kernel_rfl) wx.heap.size 0 _ pcZ (pcL q) rfl rfl HV3.out rfl (one_pc q) (by decide) ?_; intro w4 a1 a2 a3; have HV4 : Hid (BL w4 wx.heap.size 39 (pcL q)) := Lib.hid a1; have HX4 : Hid (Below wx.heap.size wx w4) := Lib.hid (((Kp.of_below (S := fun _ => False) HX3.out).after a2 (fun i hi e => by omega)).below (Nat.le_refl _) (fun _ h => h.elim)); clear a1 a2 a3; have r0 := HV4.out.get (j := 0) rfl; have q10 := (HST.out.blk.kept (below_thenB hb.out hb.out.size HX4.out)).get (j := 10) rfl)
      | fail)
     refine Text.wp_region_text (fun _ => True) [(0, 4), (1, 4), (2, 4), (4, 4), (3, 1), (5, 1), (6, 2)] (by kernel_rfl) (by kernel_rfl) (fun _ _ _ _ _ h => h) (trivial) ?_
     iterate 4 (refine Text.purek rfl rfl (fun K hK => ⟨_, fun w' => by go_simp <;> rfl, ?_⟩); go_simp; refine hK _ ?_; clear hK K)
     iterate 2 (refine Text.readk rfl rfl (fun K hK => ⟨_, by go_simp <;> rfl, ?_⟩); go_simp; refine hK _ ?_; clear hK K)
     refine Text.eff rfl rfl (fun K hK => ?_)
     refine wp_lookG _ (.tmp 35) (.tmp 37) 78 9 4 rfl strKeyed mapSB (.bool false) boolZero m3 _ rfl (HST.out.maps.kept (below_thenB hb.out hb.out.size HX4.out.drew)).drop q.1 rfl HKS.out ?_
     rw [h1]
     go_simp
     refine hK _ _ trivial ?_
     clear hK K
     refine Text.done ?_
     go_wp2_with fail
     go_roundw
     case rel => exact ⟨k + 1, by omega, by go_num, Lib.hid (by rw [HF.out]; exact ho.out.kept HX4.out.drew), Lib.hid (below_thenB hb.out hb.out.size HX4.out.drew)⟩
     case measure => simp [intOf]; omega
    | true =>
     have HF : Hid (dels x (x.held.take (k + 1)) = dels x (x.held.take k) ++ [⟨3, [], q, []⟩]) := Lib.hid (by rw [dels_step HX.out, h1]; simp)
     have h1 : (st0 x).drop q.1 = true := h1
     obtain ⟨nf, hnf⟩ : ∃ nf, (dels x (x.held.take k)).length = nf := ⟨_, rfl⟩
     obtain ⟨css, hc1, hc2, hc3, hc4, hc5⟩ := ho.out
     rw [hnf] at hc4
     have HNF : Hid (nf ≤ 1000) := Lib.hid (by rw [← hnf]; have := HFL.out; have := HK1000.out; omega)
     have HN := Lib.hid hnf
     have HC1 := Lib.hid hc1
     have HC2 := Lib.hid hc2
     have HC3 := Lib.hid hc3
     have HC4 := Lib.hid hc4
     have HC5 := Lib.hid hc5
     clear hnf hc1 hc2 hc3 hc4 hc5
     go_wp2_with (first
      | ((with_reducible show OpW 31); refine wpList_loadv _ rfl 39 (.tmp 30) rfl 2 (by kernel_rfl) g (o + k * 2) (pcL q) (by go_simp) HA.out rfl ?_)
      | ((with_reducible show OpW 8); refine wpList_alloc _ rfl 39 rfl pcZ pcZero ?_; intro w3 a1 a2 a3; have HV3 := Lib.hid a1; have HX3 := Lib.hid a2; clear a1 a2 a3)
      | ((with_reducible show OpN); refine wpList_storev _ rfl 39 (.tmp 8) (.tmp 31) rfl 2 (by kernel_rfl) wx.heap.size 0 _ pcZ (pcL q) rfl rfl HV3.out rfl (one_pc q) (by decide) ?_; intro w4 a1 a2 a3; have HV4 : Hid (BL w4 wx.heap.size 39 (pcL q)) := Lib.hid a1; have HX4 : Hid (Below wx.heap.size wx w4) := Lib.hid (((Kp.of_below (S := fun _ => False) HX3.out).after a2 (fun i hi e => by omega)).below (Nat.le_refl _) (fun _ h => h.elim)); clear a1 a2 a3; have r0 := HV4.out.get (j := 0) rfl; have q10 := (HST.out.blk.kept (below_thenB hb.out hb.out.size HX4.out)).get (j := 10) rfl)
      | fail)
     refine Text.wp_region_text (fun _ => True) [(0, 4), (1, 4), (2, 4), (4, 4), (3, 1), (5, 1), (6, 2)] (by kernel_rfl) (by kernel_rfl) (fun _ _ _ _ _ h => h) (trivial) ?_
     iterate 4 (refine Text.purek rfl rfl (fun K hK => ⟨_, fun w' => by go_simp <;> rfl, ?_⟩); go_simp; refine hK _ ?_; clear hK K)
     iterate 2 (refine Text.readk rfl rfl (fun K hK => ⟨_, by go_simp <;> rfl, ?_⟩); go_simp; refine hK _ ?_; clear hK K)
     refine Text.eff rfl rfl (fun K hK => ?_)
     refine wp_lookG _ (.tmp 35) (.tmp 37) 78 9 4 rfl strKeyed mapSB (.bool false) boolZero m3 _ rfl (HST.out.maps.kept (below_thenB hb.out hb.out.size HX4.out.drew)).drop q.1 rfl HKS.out ?_
     rw [h1]
     go_simp
     refine hK _ _ trivial ?_
     clear hK K
     refine Text.done ?_
     go_wp2_with (first
      | ((with_reducible show OpW 40); refine wpList_loadv _ rfl 39 (.tmp 8) rfl 2 (by kernel_rfl) wx.heap.size 0 (pcL q) rfl (BL.all (HV4.out.kept (Below.refl _ _).drew)) rfl ?_)
      | ((with_reducible show OpW 41); refine wpList_build _ rfl 44 #[(0, .const (.int .i64 3)), (2, .tmp 40)] rfl #[(0, .int .i64 3), (2, .agg (pcL q).toArray)] (by rw [List.map_toArray]; rfl) (.agg (delC q).toArray) (bldDel q _) ?_)
      | ((with_reducible show OpW 42); refine wpList_bslice _ rfl 29 44 1 _ rfl #[(0, .agg (delC q).toArray)] (by rw [List.map_toArray]; rfl) (delC q) (bslStp _ _ _ _ _ _ _ _ _ _) ?_; intro w8 a1 a2 a3; have HG8 := Lib.hid a1; have HX8 := Lib.hid (below_thenB HX4.out HX4.out.size (below_ofDrew a2)); clear a1 a2 a3)
      | ((with_reducible show OpW 43); obtain ⟨iS, i1, i2, i3, i4⟩ := info_some infoStp; refine wpList_appRW _ rfl (.tmp 39) (.tmp 42) 29 44 5 iS _ rfl Try.underlying29 i1 i2 i3 rfl _ nf _ rfl (HC4.out.kept HX8.out) w4.heap.size _ rfl HG8.out rfl (one_del q) (by rw [i4]; have := HNF.out; omega) (by have := HNF.out; omega) ?_; intro v' w9 a1; have HR9 := Lib.hid a1; clear a1 i1 i2 i3 i4))
     have HY8 : Hid (Below wb.heap.size wb w8) := Lib.hid (below_thenB hb.out hb.out.size HX8.out)
     have HY9 : Hid (Below wb.heap.size wb w9) := Lib.hid (((Kp.of_below (S := fun _ => False) HY8.out).after HR9.out.kp (fun i hi e => by have := HC5.out i e; omega)).below (Nat.le_refl _) (fun _ h => h.elim))
     have HO9 : Hid (OL rDel 5 44 wb w9 v' (dels x (x.held.take (k + 1)))) := Lib.hid (by
      rw [HF.out]
      exact OL.push HC1.out HC2.out HC3.out HC5.out HN.out rfl ⟨rfl, rfl, HOK.out⟩ HY8.out.size HR9.out)
     go_roundw
     case rel => exact ⟨k + 1, by omega, by go_num, HO9, HY9⟩
     case measure => simp [intOf]; omega
   ·
    obtain rfl : n5 = k := by omega
    have HO : Hid (OL rDel 5 44 wb wx _ (dels x x.held)) := Lib.hid (by have := ho.out; rw [take_end HL5.out] at this; exact this)
    have q0 := (HST.out.blk.kept hb.out).get (j := 0) rfl
    go_wp2_with (first
     | ((with_reducible show OpW 45); refine wpList_build _ rfl 44 #[(0, .const (.int .i64 4))] rfl #[(0, .int .i64 4)] (by rw [List.map_toArray]; rfl) (.agg (sbC 4 none 0 0 none 0 0).toArray) (bldFg _) ?_)
     | ((with_reducible show OpW 9); refine wpList_alloc _ rfl 44 rfl stpZ stpZero ?_; intro w6 a1 a2 a3; have HS6 := Lib.hid a1; have HX6 := Lib.hid a2; clear a1 a2 a3)
     | ((with_reducible show OpN); refine wpList_storev _ rfl 44 (.tmp 9) (.tmp 45) rfl 5 (by kernel_rfl) wx.heap.size 0 _ stpZ (sbC 4 none 0 0 none 0 0) rfl rfl HS6.out rfl (one_val _ rfl) (by decide) ?_; intro w7 a1 a2 a3; have HS7 : Hid (BL w7 wx.heap.size 44 (sbC 4 none 0 0 none 0 0)) := Lib.hid a1; have HX7 : Hid (Below wx.heap.size wx w7) := Lib.hid (((Kp.of_below (S := fun _ => False) HX6.out).after a2 (fun i hi e => by omega)).below (Nat.le_refl _) (fun _ h => h.elim)); have q0 := (HST.out.blk.kept (below_thenB hb.out hb.out.size HX7.out)).get (j := 0) rfl; clear a1 a2 a3))
    clear q0
    have HVG : Hid (∀ b, u6.ownBlock = some b → b < wx.heap.size) := Lib.hid (fun b hb' => by
     obtain ⟨_, r⟩ := HO.out.row
     exact r.lt hb')
    have HWX := hb
    obtain ⟨gf, hgf⟩ : ∃ gf, gf = wx.heap.size := ⟨_, rfl⟩
    have HGF := Lib.hid hgf
    rw [← hgf] at HS7 ⊢
    clear hgf hb ho
    obtain ⟨wg, hwg⟩ : ∃ wg, wg = wx := ⟨_, rfl⟩
    rw [← hwg] at HO HVG HWX HX7 HGF HBx
    clear hwg
    go_loopw [52] (fun iv wr => ∃ k : Nat, k ≤ n0 ∧ iv = .int .i64 (k : Int) ∧ Hid (∃ A1 k1 C1, SB wg wr gf 4 A1 k1 C1 none 0 0 (fgIds x (x.sp.take k)) []) ∧ Hid (OL rDel 5 44 wb wr u6 (dels x x.held)) ∧ Hid (Below wg.heap.size wg wr)) (fun iv _ => n0 - (intOf iv).toNat)
    case atStart => exact ⟨0, by omega, rfl, Lib.hid ⟨none, 0, 0, HS7.out, OL.nil _ _ _ _ _, OL.nil _ _ _ _ _⟩, Lib.hid (HO.out.kept HX7.out), HX7⟩
    case round =>
     obtain ⟨k, hk, rfl, hsb', ho, hb2⟩ := hrel
     obtain ⟨wx, hwx⟩ : ∃ x, x = wr := ⟨_, rfl⟩
     rw [← hwx] at hsb' ho hb2 ⊢
     clear hwx
     obtain ⟨A1, k1, C1, hsb⟩ := hsb'.out
     clear hsb'
     replace hsb := Lib.hid hsb
     have hb := Lib.hid (below_thenB HWX.out HWX.out.size hb2.out)
     have HBx := Lib.hid (below_thenB HB3.out HB3.out.size hb.out)
     by_cases hlt : k < n0
     ·
      obtain ⟨s, g, o, cs, hs, rfl, hat, hsp⟩ := H.out.sp.at_ stay_sp (Below.refl _ _) hlt
      obtain ⟨A, m, c, rfl, _, hid, _⟩ := hsp
      have HX := Lib.hid hs
      have HID := Lib.hid hid
      have HA := Lib.hid (hat.kept HBx.out)
      have HKS := Lib.hid (keyS s.id (reach_key hid))
      have HK1 : Hid (k1 ≤ 1000) := Lib.hid (by
       have h8 := hsb.out.s.len
       have h9 : (fgIds x (x.sp.take k)).length ≤ k := by rw [fgIds, List.length_map]; exact Nat.le_trans (List.length_filter_le _ _) (by rw [List.length_take]; omega)
       have := HBG.out; have := HL.out; omega)
      clear hs hat hid
      cases h1 : hasB x.drop s.id with
      | false =>
       have HF : Hid (fgIds x (x.sp.take (k + 1)) = fgIds x (x.sp.take k)) := Lib.hid (by rw [fgIds_step HX.out, h1]; simp)
       have h1 : (st0 x).drop s.id = false := h1
       go_wp2_with (first
        | ((with_reducible show OpW 55); refine wpList_loadv _ rfl 61 (.tmp 54) rfl 6 (by kernel_rfl) g (o + k * 6) (spC s A m c) (by go_simp) HA.out rfl ?_)
        | ((with_reducible show OpW 11); refine wpList_alloc _ rfl 61 rfl spZ spZero ?_; intro w3 a1 a2 a3; have HV3 := Lib.hid a1; have HX3 := Lib.hid a2; clear a1 a2 a3)
        | ((with_reducible show OpN); refine wpList_storev _ rfl 61 (.tmp 11) (.tmp 55) rfl 6 (by kernel_rfl) wx.heap.size 0 _ spZ (spC s A m c) rfl rfl HV3.out rfl (one_sp s A m c) (by decide) ?_; intro w4 a1 a2 a3; have HV4 : Hid (BL w4 wx.heap.size 61 (spC s A m c)) := Lib.hid a1; have HX4 : Hid (Below wx.heap.size wx w4) := Lib.hid (((Kp.of_below (S := fun _ => False) HX3.out).after a2 (fun i hi e => by omega)).below (Nat.le_refl _) (fun _ h => h.elim)); clear a1 a2 a3; have r0 := HV4.out.get (j := 0) rfl; have q10 := (HST.out.blk.kept (below_thenB hb.out hb.out.size HX4.out)).get (j := 10) rfl; have p1 := (hsb.out.kept HX4.out).blk.get (j := 1) rfl)
        | fail)
       refine Text.wp_region_text (fun _ => True) [(0, 4), (1, 4), (2, 4), (4, 4), (3, 1), (5, 1), (6, 2)] (by kernel_rfl) (by kernel_rfl) (fun _ _ _ _ _ h => h) (trivial) ?_
       iterate 4 (refine Text.purek rfl rfl (fun K hK => ⟨_, fun w' => by go_simp <;> rfl, ?_⟩); go_simp; refine hK _ ?_; clear hK K)
       iterate 2 (refine Text.readk rfl rfl (fun K hK => ⟨_, by go_simp <;> rfl, ?_⟩); go_simp; refine hK _ ?_; clear hK K)
       refine Text.eff rfl rfl (fun K hK => ?_)
       refine wp_lookG _ (.tmp 59) (.tmp 61) 78 9 4 rfl strKeyed mapSB (.bool false) boolZero m3 _ rfl (HST.out.maps.kept (below_thenB hb.out hb.out.size HX4.out.drew)).drop s.id rfl HKS.out ?_
       rw [h1]
       go_simp
       refine hK _ _ trivial ?_
       clear hK K
       refine Text.done ?_
       go_wp2_with fail
       go_roundw
       case rel => exact ⟨k + 1, by omega, by go_num, Lib.hid (by rw [HF.out]; exact ⟨A1, k1, C1, (hsb.out.kept HX4.out).kept (Below.refl _ _).drew⟩), Lib.hid (ho.out.kept HX4.out.drew), Lib.hid (below_thenB hb2.out hb2.out.size HX4.out.drew)⟩
       case measure => simp [intOf]; omega
      | true =>
       have HF : Hid (fgIds x (x.sp.take (k + 1)) = fgIds x (x.sp.take k) ++ [s.id]) := Lib.hid (by rw [fgIds_step HX.out, h1]; simp)
       have h1 : (st0 x).drop s.id = true := h1
       obtain ⟨css, hc1, hc2, hc3, hc4, hc5⟩ := hsb.out.s
       rw [hsb.out.s.len] at hc4
       have HC1 := Lib.hid hc1
       have HC2 := Lib.hid hc2
       have HC3 := Lib.hid hc3
       have HC4 := Lib.hid hc4
       have HC5 := Lib.hid hc5
       clear hc1 hc2 hc3 hc4 hc5
       go_wp2_with (first
        | ((with_reducible show OpW 55); refine wpList_loadv _ rfl 61 (.tmp 54) rfl 6 (by kernel_rfl) g (o + k * 6) (spC s A m c) (by go_simp) HA.out rfl ?_)
        | ((with_reducible show OpW 11); refine wpList_alloc _ rfl 61 rfl spZ spZero ?_; intro w3 a1 a2 a3; have HV3 := Lib.hid a1; have HX3 := Lib.hid a2; clear a1 a2 a3)
        | ((with_reducible show OpN); refine wpList_storev _ rfl 61 (.tmp 11) (.tmp 55) rfl 6 (by kernel_rfl) wx.heap.size 0 _ spZ (spC s A m c) rfl rfl HV3.out rfl (one_sp s A m c) (by decide) ?_; intro w4 a1 a2 a3; have HV4 : Hid (BL w4 wx.heap.size 61 (spC s A m c)) := Lib.hid a1; have HX4 : Hid (Below wx.heap.size wx w4) := Lib.hid (((Kp.of_below (S := fun _ => False) HX3.out).after a2 (fun i hi e => by omega)).below (Nat.le_refl _) (fun _ h => h.elim)); clear a1 a2 a3; have r0 := HV4.out.get (j := 0) rfl; have q10 := (HST.out.blk.kept (below_thenB hb.out hb.out.size HX4.out)).get (j := 10) rfl; have p1 := (hsb.out.kept HX4.out).blk.get (j := 1) rfl)
        | fail)
       refine Text.wp_region_text (fun _ => True) [(0, 4), (1, 4), (2, 4), (4, 4), (3, 1), (5, 1), (6, 2)] (by kernel_rfl) (by kernel_rfl) (fun _ _ _ _ _ h => h) (trivial) ?_
       iterate 4 (refine Text.purek rfl rfl (fun K hK => ⟨_, fun w' => by go_simp <;> rfl, ?_⟩); go_simp; refine hK _ ?_; clear hK K)
       iterate 2 (refine Text.readk rfl rfl (fun K hK => ⟨_, by go_simp <;> rfl, ?_⟩); go_simp; refine hK _ ?_; clear hK K)
       refine Text.eff rfl rfl (fun K hK => ?_)
       refine wp_lookG _ (.tmp 59) (.tmp 61) 78 9 4 rfl strKeyed mapSB (.bool false) boolZero m3 _ rfl (HST.out.maps.kept (below_thenB hb.out hb.out.size HX4.out.drew)).drop s.id rfl HKS.out ?_
       rw [h1]
       go_simp
       refine hK _ _ trivial ?_
       clear hK K
       refine Text.done ?_
       go_wp2_with (first
        | ((with_reducible show OpW 67); refine wpList_bslice _ rfl 23 9 1 _ rfl #[(0, .string (strB s.id))] (by rw [List.map_toArray]; rfl) [.string (strB s.id)] (bslStr s.id _) ?_; intro w8 a1 a2 a3; have HG8 := Lib.hid a1; have HX8 := Lib.hid (below_thenB HX4.out HX4.out.size (below_ofDrew a2)); clear a1 a2 a3)
        | ((with_reducible show OpW 68); obtain ⟨iS, i1, i2, i3, i4⟩ := info_some infoStr; refine wpList_appRW _ rfl (.tmp 64) (.tmp 67) 23 9 1 iS _ rfl Try.underlying23 i1 i2 i3 rfl _ k1 _ rfl (HC4.out.kept HX8.out) w4.heap.size _ rfl HG8.out rfl (one_str s.id) (by rw [i4]; have := HK1.out; omega) (by have := HK1.out; omega) ?_; intro v' w9 a1; obtain ⟨A9, C9, e9, _⟩ := a1.row.form; subst e9; have HR9 := Lib.hid a1; have HG9 := Lib.hid (a1.bl (HC4.out.kept HX8.out) (hsb.out.blk.kept HX8.out) (by decide)); clear a1 i1 i2 i3 i4)
        | ((with_reducible show OpN); refine wpList_store1 _ rfl 23 (.tmp 69) (.tmp 68) rfl (strSz _) gf 1 _ _ (.slice A9 (k1 + 1) C9) rfl rfl HG9.out rfl rfl (by simp) ?_; intro w10 a1 a2 a3; have HG10 := Lib.hid a1; have HK10 := Lib.hid a2; clear a1 a2 a3))
       have HY8 : Hid (Below wg.heap.size wg w8) := Lib.hid (below_thenB hb2.out hb2.out.size HX8.out)
       have HS10 : Hid (SB wg w10 gf 4 A9 (k1 + 1) C9 none 0 0 (fgIds x (x.sp.take (k + 1))) []) := Lib.hid (by
        rw [HF.out]
        exact SB.pushS (hsb.out.kept HX8.out) HY8.out.size HC1.out HC2.out HC3.out HC5.out (HC4.out.kept HX8.out) HID.out HR9.out HG10.out HK10.out)
       have HO10 : Hid (OL rDel 5 44 wb w10 u6 (dels x x.held)) := Lib.hid (by
        have o8 := ho.out.kept HX8.out
        obtain ⟨_, r8⟩ := o8.row
        refine (o8.kp HR9.out.kp (r8.ne_rw (HC4.out.kept HX8.out) (by decide))).kp HK10.out (fun b hb' e => ?_)
        have := HVG.out b hb'
        have := HGF.out
        omega)
       have HB10 : Hid (Below wg.heap.size wg w10) := Lib.hid ((((Kp.of_below (S := fun _ => False) HY8.out).after HR9.out.kp (fun i hi e => by have := HC5.out i e; omega)).after HK10.out (fun i hi e => by have := HGF.out; omega)).below (Nat.le_refl _) (fun _ h => h.elim))
       go_roundw
       case rel => exact ⟨k + 1, by omega, by go_num, Lib.hid ⟨A9, k1 + 1, C9, HS10.out⟩, HO10, HB10⟩
       case measure => simp [intOf]; omega
     ·
      obtain rfl : n0 = k := by omega
      rw [take_end HL.out] at hsb
      have HLE : Hid ((fgIds x x.sp).length ≤ 1000) := Lib.hid (by rw [fgIds, List.length_map]; exact Nat.le_trans (List.length_filter_le _ _) HBG.out)
      go_wp2_with fail
      refine Text.wp_region_text (fun w' => Below wx.heap.size wx w') [(1, 4), (3, 4), (7, 4), (0, 0), (2, 2), (4, 2), (5, 2), (6, 4)] (by kernel_rfl) (by kernel_rfl) (fun _ _ _ _ _ h => h) ((Below.refl _ _).drew) ?_
      iterate 3 (refine Text.purek rfl rfl (fun K hK => ⟨_, fun w' => by go_simp <;> rfl, ?_⟩); go_simp; refine hK _ ?_; clear hK K)
      refine Text.heldk rfl rfl (fun K hK => ?_)
      refine ⟨_, fun w' hw' => exec_loadv 44 (.tmp 9) rfl 5 (by kernel_rfl) gf 0 (sbC 4 A1 k1 C1 none 0 0) rfl (BL.all (hsb.out.blk.kept hw')) rfl, ?_⟩
      go_simp
      refine hK _ ?_
      clear hK K
      refine Text.eff rfl rfl (fun K hK => ?_)
      go_simp
      refine (rewrite_any _ gb _ _ _ _ _ _ _ _ _ _ _ _ _ _ _ _ _ _ _ _ _ _ _ _ _ _ x (HST.out.kept hb.out.drew) (H.out.kept HBx.out.drew) hv HBG.out).mono ?_
      rintro e w5 ⟨cs1, rfl, r1, b5⟩
      have HX5 : Hid (Below wx.heap.size wx w5) := Lib.hid (below_ofDrew b5)
      have HR5 := Lib.hid r1
      obtain ⟨⟨B0, p0, d0, B1, p1, d1, rfl, _⟩, _⟩ := r1
      refine hK _ _ HX5.out ?_
      clear hK K b5
      refine Text.eff rfl rfl (fun K hK => ?_)
      go_simp
      refine (propose_any _ gb _ _ _ _ _ _ _ _ _ _ _ _ _ _ _ _ _ _ _ _ _ _ _ _ _ _ x (HST.out.kept (below_thenB hb.out hb.out.size HX5.out)) (H.out.kept (below_thenB HBx.out HBx.out.size HX5.out)) hv HBG.out).mono ?_
      rintro e w6 ⟨cs2, rfl, r2, b6⟩
      have HX6 : Hid (Below wx.heap.size wx w6) := Lib.hid (below_thenB HX5.out HX5.out.size b6)
      have HR6 := Lib.hid (HR5.out.kept b6)
      have HT6 := Lib.hid r2
      obtain ⟨⟨E0, q0, f0, E1, q1, f1, rfl, _⟩, _⟩ := r2
      refine hK _ _ HX6.out ?_
      clear hK K b6
      refine Text.eff rfl rfl (fun K hK => ?_)
      refine wp_bslice 29 44 3 _ rfl #[(0, .agg (sbC 4 A1 k1 C1 none 0 0).toArray), (1, .agg (rwC x B0 p0 d0 B1 p1 d1).toArray), (2, .agg (prC x E0 q0 f0 E1 q1 f1).toArray)] (by rw [List.map_toArray]; rfl) ([sbC 4 A1 k1 C1 none 0 0, rwC x B0 p0 d0 B1 p1 d1, prC x E0 q0 f0 E1 q1 f1].flatten) (bslStp3 _ _ _ _ _ _ _ _ _ _ _ _ _ _ _ _ _ _ _ _ _ _ _ _ _ _ _ _) ?_
      intro wc b1 b2 b3
      have HGC := Lib.hid b1
      have HXC : Hid (Below wx.heap.size wx wc) := Lib.hid (below_thenB HX6.out HX6.out.size b2)
      have HOC := Lib.hid ((ho.out.kept HXC.out).to_n (R' := rStpT) (fun _ _ _ h => rDel_stp h))
      have HRC := Lib.hid (HR6.out.kept b2)
      have HTC := Lib.hid (HT6.out.kept b2)
      have HFC : Hid (rStpT wc (sbC 4 A1 k1 C1 none 0 0) (fgStp x)) := Lib.hid ((hsb.out.kept HXC.out).stpT (below_thenB hb2.out hb2.out.size HXC.out) (by have := HLE.out; unfold lim; omega) (by unfold lim; simp) rfl)
      have HVC : Hid (∀ b, u6.ownBlock = some b → b ≠ w6.heap.size) := Lib.hid (fun b hb' => by have := HVG.out b hb'; have := hb2.out.size; have := HX6.out.size; omega)
      clear b1 b3
      refine hK _ _ (below_thenB HX6.out HX6.out.size b2) ?_
      clear hK K b2
      (refine Text.purek rfl rfl (fun K hK => ⟨_, fun w' => by go_simp <;> rfl, ?_⟩); go_simp; refine hK _ ?_; clear hK K)
      refine Text.done ?_
      go_wp2_with fail
      obtain ⟨gc, hgc⟩ : ∃ gc, gc = w6.heap.size := ⟨_, rfl⟩
      rw [← hgc] at HGC HVC ⊢
      clear hgc
      have HBC : Hid (Below wb.heap.size wb wc) := Lib.hid (below_thenB hb.out hb.out.size HXC.out)
      go_loopw [6, 78] (fun v iv wr => ∃ j : Nat, j ≤ 3 ∧ iv = .int .i64 (j : Int) ∧ Hid (OLn rStpT 5 44 wb.heap.size wr v (dels x x.held ++ ([fgStp x, rwStp x, prStp x].take j).filter neS)) ∧ Hid (∀ b, v.ownBlock = some b → b ≠ gc) ∧ Hid (BL wr gc 44 ([sbC 4 A1 k1 C1 none 0 0, rwC x B0 p0 d0 B1 p1 d1, prC x E0 q0 f0 E1 q1 f1].flatten)) ∧ Hid (rStpT wr (sbC 4 A1 k1 C1 none 0 0) (fgStp x) ∧ rStpT wr (rwC x B0 p0 d0 B1 p1 d1) (rwStp x) ∧ rStpT wr (prC x E0 q0 f0 E1 q1 f1) (prStp x)) ∧ Hid (Below wb.heap.size wb wr)) (fun _ iv _ => 3 - (intOf iv).toNat)
      case atStart => exact ⟨0, by omega, rfl, Lib.hid (by have := HOC.out; simpa using this), HVC, HGC, Lib.hid ⟨HFC.out, HRC.out, HTC.out⟩, HBC⟩
      case round =>
       obtain ⟨j, hj, rfl, ho3, hv3, hg3, hr3, hb3⟩ := hrel
       obtain ⟨wy, hwy⟩ : ∃ x, x = wr := ⟨_, rfl⟩
       rw [← hwy] at ho3 hg3 hr3 hb3 ⊢
       clear hwy
       by_cases hlt3 : j < 3
       ·
        have hel : ∃ c y, [fgStp x, rwStp x, prStp x][j]? = some y ∧ At wy gc (0 + j * 5) c ∧ rStpT wy c y := by
         have h9 := at_flatten (s := 5) (css := [sbC 4 A1 k1 C1 none 0 0, rwC x B0 p0 d0 B1 p1 d1, prC x E0 q0 f0 E1 q1 f1]) (o := 0) (fun cs hcs => by
          simp only [List.mem_cons, List.not_mem_nil, or_false] at hcs
          rcases hcs with rfl | rfl | rfl <;> rfl) (BL.all hg3.out) (k := j) (by simpa using hlt3)
         have hj3 : j = 0 ∨ j = 1 ∨ j = 2 := by omega
         rcases hj3 with rfl | rfl | rfl
         ·
          exact ⟨_, _, rfl, h9, hr3.out.1⟩
         ·
          exact ⟨_, _, rfl, h9, hr3.out.2.1⟩
         ·
          exact ⟨_, _, rfl, h9, hr3.out.2.2⟩
        obtain ⟨c, y, hy, hat, hst⟩ := hel
        have HSY := Lib.hid hst
        obtain ⟨⟨A5, n5', c5', A6, n6, c6, rfl, hl5, _⟩, _⟩ := hst
        have HA := Lib.hid hat
        have HTJ : Hid (([fgStp x, rwStp x, prStp x].take (j + 1)).filter neS = (([fgStp x, rwStp x, prStp x].take j).filter neS) ++ (if neS y then [y] else [])) := Lib.hid (filt_step hy)
        have HLN : Hid (y.sts.length = n5') := Lib.hid hl5.1
        have HDL : Hid ((dels x x.held).length ≤ 1000) := Lib.hid (by rw [dels, List.length_map]; exact Nat.le_trans (List.length_filter_le _ _) HBH.out)
        clear hy hat hl5
        by_cases h0 : 0 < n5'
        ·
         have hne : neS y = true := by
          cases hl : y.sts with
          | nil => have := HLN.out; rw [hl] at this; simp at this; omega
          | cons a l => simp [neS, hl]
         rw [hne, if_pos rfl] at HTJ
         have d1 : decide ((0 : Int) < (n5' : Int)) = true := decide_eq_true (by omega)
         have d2 : decide (0 < n5') = true := decide_eq_true h0
         have hnf : (dels x x.held ++ ([fgStp x, rwStp x, prStp x].take j).filter neS).length ≤ 1003 := by
          rw [List.length_append]
          have h1 : (([fgStp x, rwStp x, prStp x].take j).filter neS).length ≤ 3 := Nat.le_trans (List.length_filter_le _ _) (by rw [List.length_take]; simp; omega)
          have := HDL.out
          omega
         obtain ⟨nf, hnf2⟩ : ∃ nf, (dels x x.held ++ ([fgStp x, rwStp x, prStp x].take j).filter neS).length = nf := ⟨_, rfl⟩
         rw [hnf2] at hnf
         obtain ⟨css, hc1, hc2, hc3, hc4, hc5⟩ := ho3.out
         rw [hnf2] at hc4
         have HN := Lib.hid hnf2
         have HC1 := Lib.hid hc1
         have HC2 := Lib.hid hc2
         have HC3 := Lib.hid hc3
         have HC4 := Lib.hid hc4
         have HC5 := Lib.hid hc5
         clear hnf2 hc1 hc2 hc3 hc4 hc5 hne h0
         go_wp2_with (first
          | ((with_reducible show OpW 81); refine wpList_loadv _ rfl 44 (.tmp 80) rfl 5 (by kernel_rfl) gc (0 + j * 5) (stC y A5 n5' c5' A6 n6 c6) (by go_simp) HA.out rfl ?_)
          | ((with_reducible show OpW 13); refine wpList_alloc _ rfl 44 rfl stpZ stpZero ?_; intro w3 a1 a2 a3; have HV3 := Lib.hid a1; have HX3 := Lib.hid a2; clear a1 a2 a3)
          | ((with_reducible show OpN); refine wpList_storev _ rfl 44 (.tmp 13) (.tmp 81) rfl 5 (by kernel_rfl) wy.heap.size 0 _ stpZ (stC y A5 n5' c5' A6 n6 c6) rfl rfl HV3.out rfl (one_val _ rfl) (by decide) ?_; intro w4 a1 a2 a3; have HV4 : Hid (BL w4 wy.heap.size 44 (stC y A5 n5' c5' A6 n6 c6)) := Lib.hid a1; have HX4 : Hid (Below wy.heap.size wy w4) := Lib.hid (((Kp.of_below (S := fun _ => False) HX3.out).after a2 (fun i hi e => by omega)).below (Nat.le_refl _) (fun _ h => h.elim)); clear a1 a2 a3; have r1 := HV4.out.get (j := 1) rfl)
          | ((with_reducible show OpW 87); refine wpList_loadv _ rfl 44 (.tmp 13) rfl 5 (by kernel_rfl) wy.heap.size 0 (stC y A5 n5' c5' A6 n6 c6) rfl (BL.all HV4.out) rfl ?_)
          | ((with_reducible show OpW 88); refine wpList_bslice _ rfl 29 44 1 _ rfl #[(0, .agg (stC y A5 n5' c5' A6 n6 c6).toArray)] (by rw [List.map_toArray]; rfl) (stC y A5 n5' c5' A6 n6 c6) (bslStp _ _ _ _ _ _ _ _ _ _) ?_; intro w8 a1 a2 a3; have HG8 := Lib.hid a1; have HX8 := Lib.hid (below_thenB HX4.out HX4.out.size a2); clear a1 a2 a3)
          | ((with_reducible show OpW 89); obtain ⟨iS, i1, i2, i3, i4⟩ := info_some infoStp; refine wpList_appRW _ rfl (.tmp 86) (.tmp 88) 29 44 5 iS _ rfl Try.underlying29 i1 i2 i3 rfl _ nf _ rfl (HC4.out.kept HX8.out) w4.heap.size _ rfl HG8.out rfl (one_val _ rfl) (by rw [i4]; omega) (by omega) ?_; intro v' w9 a1; have HR9 := Lib.hid a1; clear a1 i1 i2 i3 i4))
         have HY8 : Hid (Below wb.heap.size wb w8) := Lib.hid (below_thenB hb3.out hb3.out.size HX8.out)
         have HY9 : Hid (Below wb.heap.size wb w9) := Lib.hid (((Kp.of_below (S := fun _ => False) HY8.out).after HR9.out.kp (fun i hi e => by have := HC5.out i e; omega)).below (Nat.le_refl _) (fun _ h => h.elim))
         have HTY : Hid (∀ i, i < w8.heap.size → _ = some i → ∃ l, BL w8 i 44 l) := Lib.hid (fun i _ e => (HC4.out.kept HX8.out).ty e)
         have HO9 := Lib.hid ((ho3.out.kept HX8.out).pushT HN.out rfl (HSY.out.kept HX8.out) HY8.out.size HC1.out HC2.out (fun w' hk => HC3.out w' (Kp.before HX8.out hk)) HC5.out HR9.out)
         have HG9 := Lib.hid (HR9.out.kp.bl (hg3.out.kept HX8.out) (fun e => hv3.out gc e rfl))
         have HZ9 := Lib.hid (And.intro ((hr3.out.1.kept HX8.out).kp HR9.out.kp HTY.out) (And.intro ((hr3.out.2.1.kept HX8.out).kp HR9.out.kp HTY.out) ((hr3.out.2.2.kept HX8.out).kp HR9.out.kp HTY.out)))
         have HV9 : Hid (∀ b, v'.ownBlock = some b → b ≠ gc) := Lib.hid (fun b hb' => by
          rcases HR9.out.own b hb' with h | h
          ·
           exact hv3.out b h
          ·
           have := hg3.out.lt
           have := HX8.out.size
           omega)
         go_roundw
         case rel => exact ⟨j + 1, by omega, by go_num, Lib.hid (by rw [HTJ.out, ← List.append_assoc]; exact HO9.out), HV9, HG9, HZ9, HY9⟩
         case measure => simp [intOf]; omega
        ·
         have hne : neS y = false := by
          cases hl : y.sts with
          | nil => simp [neS, hl]
          | cons a l => have := HLN.out; rw [hl] at this; simp at this; omega
         rw [hne] at HTJ
         have d1 : decide ((0 : Int) < (n5' : Int)) = false := decide_eq_false (by omega)
         have d2 : decide (0 < n5') = false := decide_eq_false h0
         clear hne h0
         go_wp2_with (first
          | ((with_reducible show OpW 81); refine wpList_loadv _ rfl 44 (.tmp 80) rfl 5 (by kernel_rfl) gc (0 + j * 5) (stC y A5 n5' c5' A6 n6 c6) (by go_simp) HA.out rfl ?_)
          | ((with_reducible show OpW 13); refine wpList_alloc _ rfl 44 rfl stpZ stpZero ?_; intro w3 a1 a2 a3; have HV3 := Lib.hid a1; have HX3 := Lib.hid a2; clear a1 a2 a3)
          | ((with_reducible show OpN); refine wpList_storev _ rfl 44 (.tmp 13) (.tmp 81) rfl 5 (by kernel_rfl) wy.heap.size 0 _ stpZ (stC y A5 n5' c5' A6 n6 c6) rfl rfl HV3.out rfl (one_val _ rfl) (by decide) ?_; intro w4 a1 a2 a3; have HV4 : Hid (BL w4 wy.heap.size 44 (stC y A5 n5' c5' A6 n6 c6)) := Lib.hid a1; have HX4 : Hid (Below wy.heap.size wy w4) := Lib.hid (((Kp.of_below (S := fun _ => False) HX3.out).after a2 (fun i hi e => by omega)).below (Nat.le_refl _) (fun _ h => h.elim)); clear a1 a2 a3; have r1 := HV4.out.get (j := 1) rfl)
          | fail)
         go_roundw
         case rel => exact ⟨j + 1, by omega, by go_num, Lib.hid (by rw [HTJ.out]; simpa using ho3.out.kept HX4.out), hv3, Lib.hid (hg3.out.kept HX4.out), Lib.hid ⟨hr3.out.1.kept HX4.out, hr3.out.2.1.kept HX4.out, hr3.out.2.2.kept HX4.out⟩, Lib.hid (below_thenB hb3.out hb3.out.size HX4.out)⟩
         case measure => simp [intOf]; omega
       ·
        obtain rfl : j = 3 := by omega
        have HLP : Hid ((planL x).length * 80 ≤ lim) := Lib.hid (by
         have h1 : (dels x x.held).length ≤ 1000 := by rw [dels, List.length_map]; exact Nat.le_trans (List.length_filter_le _ _) HBH.out
         have h2 : ([fgStp x, rwStp x, prStp x].filter neS).length ≤ 3 := List.length_filter_le _ _
         rw [planL, List.length_append]
         unfold lim
         omega)
        go_wp2_with fail
        go_ret2
        obtain ⟨A9, c9, e9, l9⟩ := OLn.ls (b := 80) (L := planL x) ho3.out HLP.out
        refine ⟨A9, c9, by rw [e9]; rfl, ⟨l9.1, l9.2.1, l9.2.2.1, fun k hk => ?_⟩, below_thenB HB3.out HB3.out.size hb3.out⟩
        obtain ⟨g, o, cs, e, h1, h2⟩ := l9.2.2.2 k hk
        exact ⟨g, o, cs, e, h1, h2.1⟩
end Go.Proofs.Ytboglaokdgnpaaa
