/- The law CollectorDeletes: its walk. -/
import Derived.Test.YtboglaokdgnpaaaA30
import Derived.Test.YtboglaokdgnpaaaA31
import Derived.Test.YtboglaokdgnpaaaVnm
namespace Go.Proofs.Ytboglaokdgnpaaa
open Go Go.RowKit Gf Sha

theorem bslPc (p : Pc) (w : World) : (Instr.buildSlice 24 1 #[(0, .agg (pcL p).toArray)]).run Try.prog w = .ok (.slice (some ⟨w.heap.size, 0, none⟩) 1 1) (w.alloc (.cells (pcL p).toArray 39)) := by kernel_rfl
theorem below_eq {w w' : World} (h : w' = w) : Below w.heap.size w w' := by rw [h]; exact Below.refl _ _
/-- The lists of the law, each in a block of its own. -/
structure D3 (w0 w : World) (vd vf vp : Value) (D : List Pc) (F P : List (List UInt8)) : Prop where
  d : OL rPc 2 39 w0 w vd D
  f : OL rStr 1 9 w0 w vf F
  p : OL rStr 1 9 w0 w vp P
  ne : ∀ b, vf.ownBlock = some b → ¬ vp.ownBlock = some b
section
variable {w0 w w9 : World} {vd vf vp v' : Value} {D D' : List Pc} {F P N : List (List UInt8)} {nf m : Nat} {l xs : List Value}
theorem D3.kept (h : D3 w0 w vd vf vp D F P) (hb : Below w.heap.size w w9) : D3 w0 w9 vd vf vp D F P := ⟨h.d.kept hb, h.f.kept hb, h.p.kept hb, h.ne⟩
theorem D3.pushD (h : D3 w0 w vd vf vp D F P) (ap : AppR w 39 2 vd nf m l xs v' w9) (hn : OL rPc 2 39 w0 w9 v' D') : D3 w0 w9 v' vf vp D' F P := by
  obtain ⟨_, rd⟩ := h.d.row
  obtain ⟨_, rf⟩ := h.f.row
  obtain ⟨_, rp⟩ := h.p.row
  exact ⟨hn, h.f.kp ap.kp (rf.ne_rw rd (by decide)), h.p.kp ap.kp (rp.ne_rw rd (by decide)), h.ne⟩
theorem D3.pushF (h : D3 w0 w vd vf vp D F P) (ap : AppR w 9 1 vf nf m l xs v' w9) (hn : OL rStr 1 9 w0 w9 v' N) : D3 w0 w9 vd v' vp D N P := by
  obtain ⟨_, rd⟩ := h.d.row
  obtain ⟨_, rf⟩ := h.f.row
  obtain ⟨_, rp⟩ := h.p.row
  exact ⟨h.d.kp ap.kp (rd.ne_rw rf (by decide)), hn, h.p.kp ap.kp (fun b e1 e2 => h.ne b e2 e1), fun b e1 e2 => (ap.own b e1).elim (fun h9 => h.ne b h9 e2) (fun h9 => by have := rp.lt e2; omega)⟩
theorem D3.pushP (h : D3 w0 w vd vf vp D F P) (ap : AppR w 9 1 vp nf m l xs v' w9) (hn : OL rStr 1 9 w0 w9 v' N) : D3 w0 w9 vd vf v' D F N := by
  obtain ⟨_, rd⟩ := h.d.row
  obtain ⟨_, rf⟩ := h.f.row
  obtain ⟨_, rp⟩ := h.p.row
  exact ⟨h.d.kp ap.kp (rd.ne_rw rp (by decide)), h.f.kp ap.kp h.ne, hn, fun b e1 e2 => (ap.own b e2).elim (h.ne b e1) (fun h9 => by have := rf.lt e1; omega)⟩
end
def delL (x : Si) : List Pc := x.held.filter fun p => hasB x.drop p.1
def fgL (x : Si) : List (List UInt8) := fgIds x x.sp
def gvL (x : Si) : List (List UInt8) := ssort (pRun x x.sp).2
set_option maxRecDepth 100000 in
set_option maxHeartbeats 8000000 in
theorem deletes_walk (cx : List Value) (x : Si) (w : World) (hx : rSi w cx x) :
    Calls Try.prog 6 #[.agg cx.toArray] w fun e w' => e = .returned (.bool true) ∧ Below w.heap.size w w' := by
  obtain ⟨a0, n0, c0, a1, n1, c1, a2, n2, c2, a3, n3, c3, a4, n4, c4, a5, n5, c5, rfl, hq⟩ := hx
  have hn := hq.sp.len_le
  have hn5 := hq.held.len_le
  have H := Lib.hid hq
  have HL := Lib.hid hq.sp.1
  have HL5 := Lib.hid hq.held.1
  clear hq
  cases hlg : largeB x with
  | true =>
    go_enter Try.func6, Try.ntmps6
    go_wp2_with (first
      | ((with_reducible show wpList _ _ _ (⟨some 1, _, _, _, _, _⟩ :: _) _ _); refine wpList_box _ rfl 26 (.tmp 0) rfl (siC a0 n0 c0 a1 n1 c1 a2 n2 c2 a3 n3 c3 a4 n4 c4 a5 n5 c5 x.pct) rfl ?_; intro wa y1 y2 y3; have HBa := Lib.hid y2; have HSa := Lib.hid y1; clear y1 y2 y3)
      | (go_at_call 9; refine (awake_any wa).mono ?_; rintro e wb ⟨rfl, b1⟩; have HBb := Lib.hid (below_then HBa.out b1); have HSb := Lib.hid (HSa.out.kept b1); clear b1)
      | ((with_reducible show wpList _ _ _ (⟨some 21, _, _, _, _, _⟩ :: _) _ _); refine wpList_loadv _ rfl 26 (.tmp 1) rfl 7 (by kernel_rfl) w.heap.size 0 _ rfl (BL.all HSb.out) rfl ?_)
      | (go_at_call 10; refine (large_any _ x _ (show rSi wb _ _ from ⟨a0, n0, c0, a1, n1, c1, a2, n2, c2, a3, n3, c3, a4, n4, c4, a5, n5, c5, rfl, H.out.kept HBb.out⟩)).mono ?_; rintro e wc ⟨rfl, b1⟩; rw [hlg]; have HBc := Lib.hid (below_then HBb.out b1); have HSc := Lib.hid (HSb.out.kept b1); clear b1)
      | fail)
    go_ret
    exact ⟨rfl, HBc.out⟩
  | false =>
    have HLG := Lib.hid (large_no hlg)
    have HBG : Hid (x.sp.length ≤ 1000) := Lib.hid (by have := HLG.out; omega)
    have HBH : Hid (x.held.length ≤ 1000) := Lib.hid (by have := HLG.out; omega)
    cases hv : siB x with
    | false =>
      go_enter Try.func6, Try.ntmps6
      go_wp2_with (first
        | ((with_reducible show wpList _ _ _ (⟨some 1, _, _, _, _, _⟩ :: _) _ _); refine wpList_box _ rfl 26 (.tmp 0) rfl (siC a0 n0 c0 a1 n1 c1 a2 n2 c2 a3 n3 c3 a4 n4 c4 a5 n5 c5 x.pct) rfl ?_; intro wa y1 y2 y3; have HBa := Lib.hid y2; have HSa := Lib.hid y1; clear y1 y2 y3)
        | (go_at_call 9; refine (awake_any wa).mono ?_; rintro e wb ⟨rfl, b1⟩; have HBb := Lib.hid (below_then HBa.out b1); have HSb := Lib.hid (HSa.out.kept b1); clear b1)
        | ((with_reducible show wpList _ _ _ (⟨some 21, _, _, _, _, _⟩ :: _) _ _); refine wpList_loadv _ rfl 26 (.tmp 1) rfl 7 (by kernel_rfl) w.heap.size 0 _ rfl (BL.all HSb.out) rfl ?_)
        | (go_at_call 10; refine (large_any _ x _ (show rSi wb _ _ from ⟨a0, n0, c0, a1, n1, c1, a2, n2, c2, a3, n3, c3, a4, n4, c4, a5, n5, c5, rfl, H.out.kept HBb.out⟩)).mono ?_; rintro e wc ⟨rfl, b1⟩; rw [hlg]; have HBc := Lib.hid (below_then HBb.out b1); have HSc := Lib.hid (HSb.out.kept b1); clear b1)
        | ((with_reducible show wpList _ _ _ (⟨some 24, _, _, _, _, _⟩ :: _) _ _); refine wpList_loadv _ rfl 26 (.tmp 1) rfl 7 (by kernel_rfl) w.heap.size 0 _ rfl (BL.all HSc.out) rfl ?_)
        | (go_at_call 12; (with_reducible show Calls _ _ _ wc _); refine (to_any a0 n0 c0 a1 n1 c1 a2 n2 c2 a3 n3 c3 a4 n4 c4 a5 n5 c5 x.pct wc).mono ?_; rintro e wd ⟨rfl, b1⟩; have HBd := Lib.hid (below_then HBc.out b1); have HSd := Lib.hid (HSc.out.kept b1); clear b1)
        | (go_at_call 11; refine (plan_any a0 n0 c0 a1 n1 c1 a2 n2 c2 a3 n3 c3 a4 n4 c4 a5 n5 c5 x wd (H.out.kept HBd.out) HBG.out HBH.out).mono ?_; unfold TStp; rw [hv]; (simp only [Bool.false_eq_true, if_false]); rintro e we ⟨rfl, b1⟩; have HBe := Lib.hid (below_then HBd.out b1); have HSe := Lib.hid (HSd.out.kept b1); clear b1)
        | ((with_reducible show wpList _ _ _ (⟨some 30, _, _, _, _, _⟩ :: _) _ _); refine wpList_loadv _ rfl 26 (.tmp 1) rfl 7 (by kernel_rfl) w.heap.size 0 _ rfl (BL.all HSe.out) rfl ?_)
        | (go_at_call 12; (with_reducible show Calls _ _ _ we _); refine (to_any a0 n0 c0 a1 n1 c1 a2 n2 c2 a3 n3 c3 a4 n4 c4 a5 n5 c5 x.pct we).mono ?_; rintro e wf ⟨rfl, b1⟩; have HBf := Lib.hid (below_then HBe.out b1); clear b1)
        | (go_at_call 25; refine (unneeded_any a0 n0 c0 a1 n1 c1 a2 n2 c2 a3 n3 c3 a4 n4 c4 a5 n5 c5 x wf (H.out.kept HBf.out) HBG.out).mono ?_; unfold TStr; rw [hv]; (simp only [Bool.false_eq_true, if_false]); rintro e wg ⟨rfl, b1⟩; have HBg := Lib.hid (below_then HBf.out b1); clear b1))
      go_ret
      exact ⟨rfl, HBg.out⟩
    | true =>
      go_enter Try.func6, Try.ntmps6
      go_wp2_with (first
        | ((with_reducible show wpList _ _ _ (⟨some 1, _, _, _, _, _⟩ :: _) _ _); refine wpList_box _ rfl 26 (.tmp 0) rfl (siC a0 n0 c0 a1 n1 c1 a2 n2 c2 a3 n3 c3 a4 n4 c4 a5 n5 c5 x.pct) rfl ?_; intro wa y1 y2 y3; have HBa := Lib.hid y2; have HSa := Lib.hid y1; clear y1 y2 y3)
        | (go_at_call 9; refine (awake_any wa).mono ?_; rintro e wb ⟨rfl, b1⟩; have HBb := Lib.hid (below_then HBa.out b1); have HSb := Lib.hid (HSa.out.kept b1); clear b1)
        | ((with_reducible show wpList _ _ _ (⟨some 21, _, _, _, _, _⟩ :: _) _ _); refine wpList_loadv _ rfl 26 (.tmp 1) rfl 7 (by kernel_rfl) w.heap.size 0 _ rfl (BL.all HSb.out) rfl ?_)
        | (go_at_call 10; refine (large_any _ x _ (show rSi wb _ _ from ⟨a0, n0, c0, a1, n1, c1, a2, n2, c2, a3, n3, c3, a4, n4, c4, a5, n5, c5, rfl, H.out.kept HBb.out⟩)).mono ?_; rintro e wc ⟨rfl, b1⟩; rw [hlg]; have HBc := Lib.hid (below_then HBb.out b1); have HSc := Lib.hid (HSb.out.kept b1); clear b1)
        | ((with_reducible show wpList _ _ _ (⟨some 24, _, _, _, _, _⟩ :: _) _ _); refine wpList_loadv _ rfl 26 (.tmp 1) rfl 7 (by kernel_rfl) w.heap.size 0 _ rfl (BL.all HSc.out) rfl ?_)
        | (go_at_call 12; (with_reducible show Calls _ _ _ wc _); refine (to_any a0 n0 c0 a1 n1 c1 a2 n2 c2 a3 n3 c3 a4 n4 c4 a5 n5 c5 x.pct wc).mono ?_; rintro e wd ⟨rfl, b1⟩; have HBd := Lib.hid (below_then HBc.out b1); have HSd := Lib.hid (HSc.out.kept b1); clear b1)
        | (go_at_call 11; refine (plan_any a0 n0 c0 a1 n1 c1 a2 n2 c2 a3 n3 c3 a4 n4 c4 a5 n5 c5 x wd (H.out.kept HBd.out) HBG.out HBH.out).mono ?_; unfold TStp; rw [hv]; (simp only [if_true]); rintro e wp ⟨A, c, rfl, hl, b1⟩; have HPL' := Lib.hid hl; have HBp := Lib.hid (below_then HBd.out b1); have HSp := Lib.hid (HSd.out.kept b1); clear b1 hl)
        | ((with_reducible show wpList _ _ _ (⟨some 30, _, _, _, _, _⟩ :: _) _ _); refine wpList_loadv _ rfl 26 (.tmp 1) rfl 7 (by kernel_rfl) w.heap.size 0 _ rfl (BL.all HSp.out) rfl ?_)
        | (go_at_call 12; (with_reducible show Calls _ _ _ wp _); refine (to_any a0 n0 c0 a1 n1 c1 a2 n2 c2 a3 n3 c3 a4 n4 c4 a5 n5 c5 x.pct wp).mono ?_; rintro e wf ⟨rfl, b1⟩; have HXf := Lib.hid b1; have HBf := Lib.hid (below_then HBp.out b1); have HSf := Lib.hid (HSp.out.kept b1); clear b1)
        | (go_at_call 25; refine (unneeded_any a0 n0 c0 a1 n1 c1 a2 n2 c2 a3 n3 c3 a4 n4 c4 a5 n5 c5 x wf (H.out.kept HBf.out) HBG.out).mono ?_; unfold TStr; rw [hv]; (simp only [if_true]); rintro e we ⟨Au, cu, rfl, lu, b1⟩; have HLU := Lib.hid lu; have HBe := Lib.hid (below_then HBf.out b1); have HSe := Lib.hid (HSf.out.kept b1); have HPL := Lib.hid (HPL'.out.kept stay_stp (below_then HXf.out b1)); clear b1 lu))
      have hpn := HPL.out.len_le
      have HTOT : Hid ((kindK 4 (planL x)).length ≤ 20 ∧ (kindK 2 (planL x)).length ≤ 20) := Lib.hid (by
        rw [fg_plan, pr_plan, ssort_length]
        have h1 := pRun_len x x.sp.length
        rw [List.take_length] at h1
        have h2 : (fgIds x x.sp).length ≤ x.sp.length := by rw [fgIds, List.length_map]; exact List.length_filter_le _ _
        have := HLG.out
        omega)
      have HDK := Lib.hid (delK_plan x)
      have HFG := Lib.hid (fg_plan x)
      have HPR := Lib.hid (pr_plan x)
      obtain ⟨pl, hpl⟩ : ∃ pl, pl = planL x := ⟨_, rfl⟩
      rw [← hpl] at HPL HTOT HDK HFG HPR hpn ⊢
      clear hpl HPL'
      obtain ⟨np, hnp⟩ : ∃ np, np = pl.length := ⟨_, rfl⟩
      have HNP := Lib.hid hnp
      rw [← hnp] at HPL hpn ⊢
      clear hnp
      go_loopw [7, 8, 9, 46] (fun vd vf vp iv wr => ∃ k : Nat, k ≤ np ∧ iv = .int .i64 (k : Int) ∧ Hid (D3 we wr vd vf vp (delK (pl.take k)) (kindK 4 (pl.take k)) (kindK 2 (pl.take k))) ∧ Hid (Below we.heap.size we wr)) (fun _ _ _ iv _ => np - (intOf iv).toNat)
      case atStart => exact ⟨0, by omega, rfl, Lib.hid ⟨OL.nil _ _ _ _ _, OL.nil _ _ _ _ _, OL.nil _ _ _ _ _, fun b e => by cases e⟩, Lib.hid (Below.refl _ _)⟩
      case round =>
        obtain ⟨k, hk, rfl, ho, hb⟩ := hrel
        obtain ⟨wx, hwx⟩ : ∃ x, x = wr := ⟨_, rfl⟩
        rw [← hwx] at ho hb ⊢
        clear hwx
        by_cases hlt : k < np
        · obtain ⟨t, g, o, cs, hs, ea, hat, hrt⟩ := HPL.out.at_ stay_stp (Below.refl _ _) hlt
          obtain ⟨B0, p0, e0, B1, p1, e1, rfl, hl0, _, _, hpc⟩ := hrt
          have HX := Lib.hid hs
          have HA := Lib.hid (hat.kept hb.out)
          have HL0 := Lib.hid hl0
          have HP0 := Lib.hid hl0.1
          have HOK := Lib.hid hpc
          subst ea
          clear hs hat hl0 hpc
          by_cases h3 : t.kind = 3
          · have f3 : (t.kind == 3) = true := by simp [h3]
            have HF1 : Hid (delK (pl.take (k + 1)) = delK (pl.take k) ++ [t.pc]) := Lib.hid (by rw [delK_step HX.out, if_pos h3])
            have HF2 : Hid (kindK 4 (pl.take (k + 1)) = kindK 4 (pl.take k)) := Lib.hid (by rw [kindK_step HX.out, if_neg (by omega), List.append_nil])
            have HF3 : Hid (kindK 2 (pl.take (k + 1)) = kindK 2 (pl.take k)) := Lib.hid (by rw [kindK_step HX.out, if_neg (by omega), List.append_nil])
            clear h3
            have HNF : Hid ((delK (pl.take k)).length ≤ k) := Lib.hid (by rw [delK, List.length_map]; exact Nat.le_trans (List.length_filter_le _ _) (by rw [List.length_take]; omega))
            obtain ⟨nf, hnf⟩ : ∃ nf, (delK (pl.take k)).length = nf := ⟨_, rfl⟩
            obtain ⟨css, hc1, hc2, hc3, hc4, hc5⟩ := ho.out.d
            rw [hnf] at hc4
            have HN := Lib.hid hnf
            have HC1 := Lib.hid hc1
            have HC2 := Lib.hid hc2
            have HC3 := Lib.hid hc3
            have HC4 := Lib.hid hc4
            have HC5 := Lib.hid hc5
            clear hnf hc1 hc2 hc3 hc4 hc5
            go_wp2_with (first
              | ((with_reducible show wpList _ _ _ (⟨some 5, _, _, _, _, _⟩ :: _) _ _); fail)
              | ((with_reducible show wpList _ _ _ (⟨some 49, _, _, _, _, _⟩ :: _) _ _); refine wpList_loadv _ rfl 44 (.tmp 48) rfl 5 (by kernel_rfl) g (o + k * 5) (stC2 t B0 p0 e0 B1 p1 e1) (by go_simp) HA.out rfl ?_)
              | ((with_reducible show wpList _ _ _ (⟨some 11, _, _, _, _, _⟩ :: _) _ _); refine wpList_alloc _ rfl 44 rfl stpZ stpZero ?_; intro w3 a1 a2 a3; have HV3 := Lib.hid a1; have HX3 := Lib.hid a2; clear a1 a2 a3)
              | ((with_reducible show wpList _ _ _ (⟨none, _, _, _, _, _⟩ :: _) _ _); refine wpList_storev _ rfl 44 (.tmp 11) (.tmp 49) rfl 5 (by kernel_rfl) wx.heap.size 0 _ stpZ (stC2 t B0 p0 e0 B1 p1 e1) rfl rfl HV3.out rfl (one_val _ rfl) (by decide) ?_; intro w4 a1 a2 a3; have HV4 : Hid (BL w4 wx.heap.size 44 (stC2 t B0 p0 e0 B1 p1 e1)) := Lib.hid a1; have HX4 : Hid (Below wx.heap.size wx w4) := Lib.hid (((Kp.of_below (S := fun _ => False) HX3.out).after a2 (fun i hi e => by omega)).below (Nat.le_refl _) (fun _ h => h.elim)); clear a1 a2 a3; have r0 := HV4.out.get (j := 0) rfl; have r1 := HV4.out.get (j := 1) rfl)
              | ((with_reducible show wpList _ _ _ (⟨some 56, _, _, _, _, _⟩ :: _) _ _); refine wpList_loadv _ rfl 39 (.tmp 55) rfl 2 (by kernel_rfl) wx.heap.size 2 (pcL t.pc) (by go_simp) HV4.out.all.mid rfl ?_)
              | ((with_reducible show wpList _ _ _ (⟨some 57, _, _, _, _, _⟩ :: _) _ _); refine wpList_bslice _ rfl 24 39 1 _ rfl #[(0, .agg (pcL t.pc).toArray)] (by rw [List.map_toArray]; rfl) (pcL t.pc) (bslPc t.pc _) ?_; intro w8 y1 y2 y3; have HG8 := Lib.hid y1; have HX8 := Lib.hid (below_thenB HX4.out HX4.out.size y2); clear y1 y2 y3)
              | ((with_reducible show wpList _ _ _ (⟨some 58, _, _, _, _, _⟩ :: _) _ _); obtain ⟨iS, i1, i2, i3, i4⟩ := info_some infoPc; refine wpList_appRW _ rfl (.tmp 54) (.tmp 57) 24 39 2 iS _ rfl Try.underlying24 i1 i2 i3 rfl _ nf _ rfl (HC4.out.kept HX8.out) w4.heap.size _ rfl HG8.out rfl (one_pc t.pc) (by rw [i4]; have := HNF.out; have := HN.out; omega) (by have := HNF.out; have := HN.out; omega) ?_; intro v' w9 y1; have HR9 := Lib.hid y1; clear y1 i1 i2 i3 i4))
            have HO9 : Hid (OL rPc 2 39 we w9 v' (delK (pl.take (k + 1)))) := Lib.hid (by
              rw [HF1.out]
              exact OL.push HC1.out HC2.out HC3.out HC5.out HN.out rfl ⟨rfl, HOK.out⟩ (by have := hb.out.size; have := HX8.out.size; omega) HR9.out)
            have HB9 : Hid (Below we.heap.size we w9) := Lib.hid (((Kp.of_below (S := fun _ => False) (below_thenB hb.out hb.out.size HX8.out)).after HR9.out.kp (fun i hi e => by have := HC5.out i e; omega)).below (Nat.le_refl _) (fun _ h => h.elim))
            go_roundw
            case rel => exact ⟨k + 1, by omega, by go_num, Lib.hid (by rw [HF2.out, HF3.out]; exact (ho.out.kept HX8.out).pushD HR9.out HO9.out), HB9⟩
            case measure => simp [intOf]; omega
          have f3 : (t.kind == 3) = false := by simp [h3]
          have HF1 : Hid (delK (pl.take (k + 1)) = delK (pl.take k)) := Lib.hid (by rw [delK_step HX.out, if_neg h3, List.append_nil])
          by_cases h4 : t.kind = 4
          · have f4 : (t.kind == 4) = true := by simp [h4]
            have HFK : Hid (kindK 4 (pl.take (k + 1)) = kindK 4 (pl.take k) ++ t.sts) := Lib.hid (by rw [kindK_step HX.out, if_pos h4])
            have HF3 : Hid (kindK 2 (pl.take (k + 1)) = kindK 2 (pl.take k)) := Lib.hid (by rw [kindK_step HX.out, if_neg (by omega), List.append_nil])
            clear h3 h4
            obtain ⟨dss, k1', k2', k3', hsrc⟩ := HL0.out.src (P := Try.prog) len_str ones_str Try.underlying23
            have HD1 := Lib.hid k1'
            have HD2 := Lib.hid k2'
            have HD3 := Lib.hid k3'
            have HSRC := Lib.hid hsrc
            clear k1' k2' k3' hsrc
            obtain ⟨nf, hnf⟩ : ∃ nf, (kindK 4 (pl.take k)).length = nf := ⟨_, rfl⟩
            obtain ⟨css, hc1, hc2, hc3, hc4, hc5⟩ := ho.out.f
            rw [hnf] at hc4
            have HN := Lib.hid hnf
            have HC1 := Lib.hid hc1
            have HC2 := Lib.hid hc2
            have HC3 := Lib.hid hc3
            have HC4 := Lib.hid hc4
            have HC5 := Lib.hid hc5
            clear hnf hc1 hc2 hc3 hc4 hc5
            have HNF : Hid (nf + p0 ≤ 20) := Lib.hid (by
              have h1 := kindK_len 4 pl (k + 1)
              rw [HFK.out, List.length_append, HN.out, HP0.out] at h1
              have := HTOT.out.1
              omega)
            go_wp2_with (first
              | ((with_reducible show wpList _ _ _ (⟨some 5, _, _, _, _, _⟩ :: _) _ _); fail)
              | ((with_reducible show wpList _ _ _ (⟨some 49, _, _, _, _, _⟩ :: _) _ _); refine wpList_loadv _ rfl 44 (.tmp 48) rfl 5 (by kernel_rfl) g (o + k * 5) (stC2 t B0 p0 e0 B1 p1 e1) (by go_simp) HA.out rfl ?_)
              | ((with_reducible show wpList _ _ _ (⟨some 11, _, _, _, _, _⟩ :: _) _ _); refine wpList_alloc _ rfl 44 rfl stpZ stpZero ?_; intro w3 a1 a2 a3; have HV3 := Lib.hid a1; have HX3 := Lib.hid a2; clear a1 a2 a3)
              | ((with_reducible show wpList _ _ _ (⟨none, _, _, _, _, _⟩ :: _) _ _); refine wpList_storev _ rfl 44 (.tmp 11) (.tmp 49) rfl 5 (by kernel_rfl) wx.heap.size 0 _ stpZ (stC2 t B0 p0 e0 B1 p1 e1) rfl rfl HV3.out rfl (one_val _ rfl) (by decide) ?_; intro w4 a1 a2 a3; have HV4 : Hid (BL w4 wx.heap.size 44 (stC2 t B0 p0 e0 B1 p1 e1)) := Lib.hid a1; have HX4 : Hid (Below wx.heap.size wx w4) := Lib.hid (((Kp.of_below (S := fun _ => False) HX3.out).after a2 (fun i hi e => by omega)).below (Nat.le_refl _) (fun _ h => h.elim)); clear a1 a2 a3; have r0 := HV4.out.get (j := 0) rfl; have r1 := HV4.out.get (j := 1) rfl)
              | ((with_reducible show wpList _ _ _ (⟨some 64, _, _, _, _, _⟩ :: _) _ _); obtain ⟨iS, i1, i2, i3, i4⟩ := info_some infoStr; refine wpList_appX _ rfl (.tmp 61) (.tmp 63) 23 9 1 iS _ rfl Try.underlying23 i1 i2 i3 rfl _ nf _ rfl (HC4.out.kept HX4.out) _ p0 _ rfl (HSRC.out _ (below_thenB hb.out hb.out.size HX4.out)) (by rw [i4]; have := HNF.out; omega) (by have := HNF.out; omega) ?_; intro v' w9 y1; have HR9 := Lib.hid y1; clear y1 i1 i2 i3 i4))
            have HO9 : Hid (OL rStr 1 9 we w9 v' (kindK 4 (pl.take (k + 1)))) := Lib.hid (by
              rw [HFK.out]
              exact OL.app HC1.out HC2.out HC3.out HC5.out HN.out HD1.out HD2.out HD3.out HP0.out (by have := hb.out.size; have := HX4.out.size; omega) HR9.out)
            have HB9 : Hid (Below we.heap.size we w9) := Lib.hid (((Kp.of_below (S := fun _ => False) (below_thenB hb.out hb.out.size HX4.out)).after HR9.out.kp (fun i hi e => by have := HC5.out i e; omega)).below (Nat.le_refl _) (fun _ h => h.elim))
            go_roundw
            case rel => exact ⟨k + 1, by omega, by go_num, Lib.hid (by rw [HF1.out, HF3.out]; exact (ho.out.kept HX4.out).pushF HR9.out HO9.out), HB9⟩
            case measure => simp [intOf]; omega
          have f4 : (t.kind == 4) = false := by simp [h4]
          have HF2 : Hid (kindK 4 (pl.take (k + 1)) = kindK 4 (pl.take k)) := Lib.hid (by rw [kindK_step HX.out, if_neg h4, List.append_nil])
          by_cases h2 : t.kind = 2
          · have f2 : (t.kind == 2) = true := by simp [h2]
            have HFK : Hid (kindK 2 (pl.take (k + 1)) = kindK 2 (pl.take k) ++ t.sts) := Lib.hid (by rw [kindK_step HX.out, if_pos h2])
            clear h3 h4 h2
            obtain ⟨dss, k1', k2', k3', hsrc⟩ := HL0.out.src (P := Try.prog) len_str ones_str Try.underlying23
            have HD1 := Lib.hid k1'
            have HD2 := Lib.hid k2'
            have HD3 := Lib.hid k3'
            have HSRC := Lib.hid hsrc
            clear k1' k2' k3' hsrc
            obtain ⟨nf, hnf⟩ : ∃ nf, (kindK 2 (pl.take k)).length = nf := ⟨_, rfl⟩
            obtain ⟨css, hc1, hc2, hc3, hc4, hc5⟩ := ho.out.p
            rw [hnf] at hc4
            have HN := Lib.hid hnf
            have HC1 := Lib.hid hc1
            have HC2 := Lib.hid hc2
            have HC3 := Lib.hid hc3
            have HC4 := Lib.hid hc4
            have HC5 := Lib.hid hc5
            clear hnf hc1 hc2 hc3 hc4 hc5
            have HNF : Hid (nf + p0 ≤ 20) := Lib.hid (by
              have h1 := kindK_len 2 pl (k + 1)
              rw [HFK.out, List.length_append, HN.out, HP0.out] at h1
              have := HTOT.out.2
              omega)
            go_wp2_with (first
              | ((with_reducible show wpList _ _ _ (⟨some 5, _, _, _, _, _⟩ :: _) _ _); fail)
              | ((with_reducible show wpList _ _ _ (⟨some 49, _, _, _, _, _⟩ :: _) _ _); refine wpList_loadv _ rfl 44 (.tmp 48) rfl 5 (by kernel_rfl) g (o + k * 5) (stC2 t B0 p0 e0 B1 p1 e1) (by go_simp) HA.out rfl ?_)
              | ((with_reducible show wpList _ _ _ (⟨some 11, _, _, _, _, _⟩ :: _) _ _); refine wpList_alloc _ rfl 44 rfl stpZ stpZero ?_; intro w3 a1 a2 a3; have HV3 := Lib.hid a1; have HX3 := Lib.hid a2; clear a1 a2 a3)
              | ((with_reducible show wpList _ _ _ (⟨none, _, _, _, _, _⟩ :: _) _ _); refine wpList_storev _ rfl 44 (.tmp 11) (.tmp 49) rfl 5 (by kernel_rfl) wx.heap.size 0 _ stpZ (stC2 t B0 p0 e0 B1 p1 e1) rfl rfl HV3.out rfl (one_val _ rfl) (by decide) ?_; intro w4 a1 a2 a3; have HV4 : Hid (BL w4 wx.heap.size 44 (stC2 t B0 p0 e0 B1 p1 e1)) := Lib.hid a1; have HX4 : Hid (Below wx.heap.size wx w4) := Lib.hid (((Kp.of_below (S := fun _ => False) HX3.out).after a2 (fun i hi e => by omega)).below (Nat.le_refl _) (fun _ h => h.elim)); clear a1 a2 a3; have r0 := HV4.out.get (j := 0) rfl; have r1 := HV4.out.get (j := 1) rfl)
              | ((with_reducible show wpList _ _ _ (⟨some 70, _, _, _, _, _⟩ :: _) _ _); obtain ⟨iS, i1, i2, i3, i4⟩ := info_some infoStr; refine wpList_appX _ rfl (.tmp 67) (.tmp 69) 23 9 1 iS _ rfl Try.underlying23 i1 i2 i3 rfl _ nf _ rfl (HC4.out.kept HX4.out) _ p0 _ rfl (HSRC.out _ (below_thenB hb.out hb.out.size HX4.out)) (by rw [i4]; have := HNF.out; omega) (by have := HNF.out; omega) ?_; intro v' w9 y1; have HR9 := Lib.hid y1; clear y1 i1 i2 i3 i4))
            have HO9 : Hid (OL rStr 1 9 we w9 v' (kindK 2 (pl.take (k + 1)))) := Lib.hid (by
              rw [HFK.out]
              exact OL.app HC1.out HC2.out HC3.out HC5.out HN.out HD1.out HD2.out HD3.out HP0.out (by have := hb.out.size; have := HX4.out.size; omega) HR9.out)
            have HB9 : Hid (Below we.heap.size we w9) := Lib.hid (((Kp.of_below (S := fun _ => False) (below_thenB hb.out hb.out.size HX4.out)).after HR9.out.kp (fun i hi e => by have := HC5.out i e; omega)).below (Nat.le_refl _) (fun _ h => h.elim))
            go_roundw
            case rel => exact ⟨k + 1, by omega, by go_num, Lib.hid (by rw [HF1.out, HF2.out]; exact (ho.out.kept HX4.out).pushP HR9.out HO9.out), HB9⟩
            case measure => simp [intOf]; omega
          · have f2 : (t.kind == 2) = false := by simp [h2]
            have HF3 : Hid (kindK 2 (pl.take (k + 1)) = kindK 2 (pl.take k)) := Lib.hid (by rw [kindK_step HX.out, if_neg h2, List.append_nil])
            clear h3 h4 h2
            go_wp2_with (first
              | ((with_reducible show wpList _ _ _ (⟨some 5, _, _, _, _, _⟩ :: _) _ _); fail)
              | ((with_reducible show wpList _ _ _ (⟨some 49, _, _, _, _, _⟩ :: _) _ _); refine wpList_loadv _ rfl 44 (.tmp 48) rfl 5 (by kernel_rfl) g (o + k * 5) (stC2 t B0 p0 e0 B1 p1 e1) (by go_simp) HA.out rfl ?_)
              | ((with_reducible show wpList _ _ _ (⟨some 11, _, _, _, _, _⟩ :: _) _ _); refine wpList_alloc _ rfl 44 rfl stpZ stpZero ?_; intro w3 a1 a2 a3; have HV3 := Lib.hid a1; have HX3 := Lib.hid a2; clear a1 a2 a3)
              | ((with_reducible show wpList _ _ _ (⟨none, _, _, _, _, _⟩ :: _) _ _); refine wpList_storev _ rfl 44 (.tmp 11) (.tmp 49) rfl 5 (by kernel_rfl) wx.heap.size 0 _ stpZ (stC2 t B0 p0 e0 B1 p1 e1) rfl rfl HV3.out rfl (one_val _ rfl) (by decide) ?_; intro w4 a1 a2 a3; have HV4 : Hid (BL w4 wx.heap.size 44 (stC2 t B0 p0 e0 B1 p1 e1)) := Lib.hid a1; have HX4 : Hid (Below wx.heap.size wx w4) := Lib.hid (((Kp.of_below (S := fun _ => False) HX3.out).after a2 (fun i hi e => by omega)).below (Nat.le_refl _) (fun _ h => h.elim)); clear a1 a2 a3; have r0 := HV4.out.get (j := 0) rfl; have r1 := HV4.out.get (j := 1) rfl)
              | fail)
            go_roundw
            case rel => exact ⟨k + 1, by omega, by go_num, Lib.hid (by rw [HF1.out, HF2.out, HF3.out]; exact ho.out.kept HX4.out), Lib.hid (below_thenB hb.out hb.out.size HX4.out)⟩
            case measure => simp [intOf]; omega
        · obtain rfl : k = np := by omega
          have ho9 := ho.out
          rw [take_end HNP.out.symm, HDK.out, HFG.out, HPR.out] at ho9
          obtain ⟨Ad, cd, ed, ld⟩ := OL.ls (b := 24) (L := delL x) ho9.d stay_pc hb.out (by
            have h1 : (delL x).length ≤ x.held.length := List.length_filter_le _ _
            have := HBH.out
            unfold lim; omega)
          have hl1 : (fgL x).length ≤ 20 := by have := HTOT.out.1; rw [HFG.out] at this; exact this
          have hl2 : (gvL x).length ≤ 20 := by have := HTOT.out.2; rw [HPR.out] at this; exact this
          obtain ⟨Af, cf, ef, lf⟩ := OL.ls (b := 16) (L := fgL x) ho9.f stay_str hb.out (by unfold lim; omega)
          obtain ⟨Ap, cp, ep, lp⟩ := OL.ls (b := 16) (L := gvL x) ho9.p stay_str hb.out (by unfold lim; omega)
          subst ed
          subst ef
          subst ep
          have LD := Lib.hid ld
          have LF := Lib.hid lf
          have LP := Lib.hid lp
          obtain ⟨nd, hnd⟩ : ∃ n, n = (delL x).length := ⟨_, rfl⟩
          have HND := Lib.hid hnd
          rw [← hnd] at LD ⊢
          clear ld lf lp ho ho9 hl1 hl2 hnd hk hlt HTOT HDK HFG HPR HPL
          have HBx := Lib.hid (below_thenB HBe.out HBe.out.size hb.out)
          have HSx := Lib.hid (HSe.out.kept hb.out)
          have HLX := Lib.hid (HLU.out.kept stay_str hb.out)
          obtain ⟨wk, hwk⟩ : ∃ y, y = wx := ⟨_, rfl⟩
          rw [← hwk] at LD LF LP HBx HSx HLX ⊢
          clear hb hwk
          have q5 := HSx.out.get (j := 5) rfl
          have hndk := LD.out.len_le
          have HHL : Hid (n5 ≤ 1000) := Lib.hid (by have := HBH.out; have := HL5.out; omega)
          go_wp2_with fail
          clear q5
          go_loopw [12, 75] (fun nv iv wr => ∃ k : Nat, k ≤ n5 ∧ iv = .int .i64 (k : Int) ∧ Hid (nv = .int .i64 (((x.held.take k).filter fun p => hasB x.drop p.1).length : Int)) ∧ Hid (Below wk.heap.size wk wr)) (fun _ iv _ => n5 - (intOf iv).toNat)
          case atStart => exact ⟨0, by omega, rfl, Lib.hid rfl, Lib.hid (Below.refl _ _)⟩
          case round =>
            obtain ⟨k, hk, rfl, hnv, hb⟩ := hrel
            obtain ⟨wx, hwx⟩ : ∃ x, x = wr := ⟨_, rfl⟩
            rw [← hwx] at hb ⊢
            clear hwx
            obtain rfl := hnv.out
            clear hnv
            obtain ⟨N, hN⟩ : ∃ N, N = ((x.held.take k).filter fun p => hasB x.drop p.1).length := ⟨_, rfl⟩
            have HNN := Lib.hid hN
            rw [← hN]
            clear hN
            have HBy := Lib.hid (below_thenB HBx.out HBx.out.size hb.out)
            have HSy := Lib.hid (HSx.out.kept hb.out)
            by_cases hlt : k < n5
            · obtain ⟨q, g, o, cs, hs, rfl, hat, rfl, hok⟩ := H.out.held.at_ stay_pc (Below.refl _ _) hlt
              have HX := Lib.hid hs
              have HA := Lib.hid (hat.kept HBy.out)
              clear hs hat hok
              cases h1 : hasB x.drop q.1 with
              | false =>
                have HF : Hid (((x.held.take (k + 1)).filter fun p => hasB x.drop p.1).length = N) := Lib.hid (by rw [filt_step HX.out, h1, HNN.out]; simp)
                go_wp2_with (first
                  | ((with_reducible show wpList _ _ _ (⟨some 78, _, _, _, _, _⟩ :: _) _ _); refine wpList_loadv _ rfl 39 (.tmp 77) rfl 2 (by kernel_rfl) g (o + k * 2) (pcL q) (by go_simp) HA.out rfl ?_)
                  | ((with_reducible show wpList _ _ _ (⟨some 14, _, _, _, _, _⟩ :: _) _ _); refine wpList_alloc _ rfl 39 rfl pcZ pcZero ?_; intro w3 a1 a2 a3; have HV3 := Lib.hid a1; have HX3 := Lib.hid a2; clear a1 a2 a3)
                  | ((with_reducible show wpList _ _ _ (⟨none, _, _, _, _, _⟩ :: _) _ _); refine wpList_storev _ rfl 39 (.tmp 14) (.tmp 78) rfl 2 (by kernel_rfl) wx.heap.size 0 _ pcZ (pcL q) rfl rfl HV3.out rfl (one_pc q) (by decide) ?_; intro w4 a1 a2 a3; have HV4 : Hid (BL w4 wx.heap.size 39 (pcL q)) := Lib.hid a1; have HX4 : Hid (Below wx.heap.size wx w4) := Lib.hid (((Kp.of_below (S := fun _ => False) HX3.out).after a2 (fun i hi e => by omega)).below (Nat.le_refl _) (fun _ h => h.elim)); clear a1 a2 a3; have r0 := HV4.out.get (j := 0) rfl; have q3 := (HSy.out.kept HX4.out).get (j := 3) rfl)
                  | (go_at_call 26; refine (lhas_any _ _ _ x.drop q.1 _ (H.out.drop.kept stay_str (below_thenB HBy.out HBy.out.size HX4.out))).mono ?_; rintro e w5 ⟨rfl, hb5⟩; have b5 := below_eq hb5; clear hb5; rw [h1]; have HX5 := Lib.hid (below_thenB HX4.out HX4.out.size b5); have HV5 := Lib.hid (HV4.out.kept b5); clear b5 q3))
                go_roundw
                case rel => exact ⟨k + 1, by omega, by go_num, Lib.hid (by rw [HF.out]), Lib.hid (below_thenB hb.out hb.out.size HX5.out)⟩
                case measure => simp [intOf]; omega
              | true =>
                have HF : Hid (((x.held.take (k + 1)).filter fun p => hasB x.drop p.1).length = N + 1) := Lib.hid (by rw [filt_step HX.out, h1, if_pos rfl, List.length_append, HNN.out]; rfl)
                have hget : (delL x)[N]? = some q := by rw [HNN.out]; exact filt_at HX.out h1
                have hNlt : N < nd := by rw [HND.out]; exact (List.getElem?_eq_some_iff.1 hget).1
                obtain ⟨q', g', o', cs', hq', e', hat', rfl, _⟩ := LD.out.at_ stay_pc (Below.refl _ _) hNlt
                obtain rfl : q = q' := by have := hget.symm.trans hq'; cases this; rfl
                have HA' := Lib.hid (hat'.kept hb.out)
                subst e'
                have hN1 : N ≤ 1000 := by have h8 := List.length_filter_le (fun p : Pc => hasB x.drop p.1) (x.held.take k); rw [List.length_take] at h8; have := HNN.out; have := HHL.out; omega
                have eg : decide ((nd : Int) ≤ (N : Int)) = false := decide_eq_false (by omega)
                have eg' : decide (nd ≤ N) = false := decide_eq_false (by omega)
                have er : ∀ w, (Op.equalIn 10000 39 (.agg (pcL q).toArray) (.agg (pcL q).toArray)).run Try.prog w = .ok true w := fun w => by rw [eqIn_pc, decide_eq_true rfl]
                clear hget hq' hat'
                go_wp2_with (first
                  | ((with_reducible show wpList _ _ _ (⟨some 78, _, _, _, _, _⟩ :: _) _ _); refine wpList_loadv _ rfl 39 (.tmp 77) rfl 2 (by kernel_rfl) g (o + k * 2) (pcL q) (by go_simp) HA.out rfl ?_)
                  | ((with_reducible show wpList _ _ _ (⟨some 14, _, _, _, _, _⟩ :: _) _ _); refine wpList_alloc _ rfl 39 rfl pcZ pcZero ?_; intro w3 a1 a2 a3; have HV3 := Lib.hid a1; have HX3 := Lib.hid a2; clear a1 a2 a3)
                  | ((with_reducible show wpList _ _ _ (⟨none, _, _, _, _, _⟩ :: _) _ _); refine wpList_storev _ rfl 39 (.tmp 14) (.tmp 78) rfl 2 (by kernel_rfl) wx.heap.size 0 _ pcZ (pcL q) rfl rfl HV3.out rfl (one_pc q) (by decide) ?_; intro w4 a1 a2 a3; have HV4 : Hid (BL w4 wx.heap.size 39 (pcL q)) := Lib.hid a1; have HX4 : Hid (Below wx.heap.size wx w4) := Lib.hid (((Kp.of_below (S := fun _ => False) HX3.out).after a2 (fun i hi e => by omega)).below (Nat.le_refl _) (fun _ h => h.elim)); clear a1 a2 a3; have r0 := HV4.out.get (j := 0) rfl; have q3 := (HSy.out.kept HX4.out).get (j := 3) rfl)
                  | (go_at_call 26; refine (lhas_any _ _ _ x.drop q.1 _ (H.out.drop.kept stay_str (below_thenB HBy.out HBy.out.size HX4.out))).mono ?_; rintro e w5 ⟨rfl, hb5⟩; have b5 := below_eq hb5; clear hb5; rw [h1]; have HX5 := Lib.hid (below_thenB HX4.out HX4.out.size b5); have HV5 := Lib.hid (HV4.out.kept b5); clear b5 q3))
                refine Text.wp_region_text (fun w' => Below w5.heap.size w5 w') [(0, 4), (1, 4), (2, 4), (3, 4), (4, 4), (5, 4), (6, 4), (7, 4), (8, 0), (9, 0), (10, 4), (11, 4)] (by kernel_rfl) (by kernel_rfl) (fun _ _ _ _ _ h => h) ((Below.refl _ _).drew) ?_
                iterate 8 (refine Text.purek rfl rfl (fun K hK => ⟨_, fun w' => by go_simp <;> rfl, ?_⟩); go_simp; refine hK _ ?_; clear hK K)
                refine Text.heldk rfl rfl (fun K hK => ?_)
                refine ⟨_, fun w' hw' => exec_loadv 39 (.tmp 91) rfl 2 (by kernel_rfl) g' (o' + N * 2) (pcL q) (by go_simp) ((HA'.out.kept HX5.out).kept hw') rfl, ?_⟩
                go_simp
                refine hK _ ?_
                clear hK K
                refine Text.heldk rfl rfl (fun K hK => ?_)
                refine ⟨_, fun w' hw' => exec_loadv 39 (.tmp 14) rfl 2 (by kernel_rfl) wx.heap.size 0 (pcL q) rfl (BL.all (HV5.out.kept hw')) rfl, ?_⟩
                go_simp
                refine hK _ ?_
                clear hK K
                iterate 2 (refine Text.purek rfl rfl (fun K hK => ⟨_, fun w' => by go_simp <;> rfl, ?_⟩); go_simp; refine hK _ ?_; clear hK K)
                refine Text.done ?_
                go_wp2_with fail
                go_roundw
                case rel => exact ⟨k + 1, by omega, by go_num, Lib.hid (by rw [HF.out]; go_num), Lib.hid (below_thenB hb.out hb.out.size HX5.out.drew)⟩
                case measure => simp [intOf]; omega
            · obtain rfl : k = n5 := by omega
              have hNe : N = nd := by rw [HNN.out, take_end HL5.out, HND.out]; rfl
              subst hNe
              have q0 := HSy.out.get (j := 0) rfl
              have HW2 := hb
              clear hb
              go_wp2_with fail
              clear q0
              go_loopw [106] (fun iv wr => ∃ k : Nat, k ≤ n0 ∧ iv = .int .i64 (k : Int) ∧ Hid (Below wk.heap.size wk wr)) (fun iv _ => n0 - (intOf iv).toNat)
              case atStart => exact ⟨0, by omega, rfl, HW2⟩
              case round =>
                obtain ⟨k, hk, rfl, hb⟩ := hrel
                obtain ⟨wx, hwx⟩ : ∃ x, x = wr := ⟨_, rfl⟩
                rw [← hwx] at hb ⊢
                clear hwx
                have HBy := Lib.hid (below_thenB HBx.out HBx.out.size hb.out)
                have HSy := Lib.hid (HSx.out.kept hb.out)
                by_cases hlt : k < n0
                · obtain ⟨s, g, o, cs, hs, e0, hat, hsp⟩ := H.out.sp.at_ stay_sp (Below.refl _ _) hlt
                  obtain ⟨A', m', c', rfl, _⟩ := hsp
                  have HA := Lib.hid (hat.kept HBy.out)
                  have HFH := Lib.hid (fg_has (List.mem_of_getElem? hs))
                  subst e0
                  clear hs hat
                  cases h1 : hasB x.drop s.id with
                  | false =>
                    cases h2 : hasB x.cond s.id with
                    | false =>
                      go_wp2_with (first
                        | ((with_reducible show wpList _ _ _ (⟨some 109, _, _, _, _, _⟩ :: _) _ _); refine wpList_loadv _ rfl 61 (.tmp 108) rfl 6 (by kernel_rfl) g (o + k * 6) (spC s A' m' c') (by go_simp) HA.out rfl ?_)
                        | ((with_reducible show wpList _ _ _ (⟨some 16, _, _, _, _, _⟩ :: _) _ _); refine wpList_alloc _ rfl 61 rfl spZ spZero ?_; intro w3 a1 a2 a3; have HV3 := Lib.hid a1; have HX3 := Lib.hid a2; clear a1 a2 a3)
                        | ((with_reducible show wpList _ _ _ (⟨none, _, _, _, _, _⟩ :: _) _ _); refine wpList_storev _ rfl 61 (.tmp 16) (.tmp 109) rfl 6 (by kernel_rfl) wx.heap.size 0 _ spZ (spC s A' m' c') rfl rfl HV3.out rfl (one_sp s A' m' c') (by decide) ?_; intro w4 a1 a2 a3; have HV4 : Hid (BL w4 wx.heap.size 61 (spC s A' m' c')) := Lib.hid a1; have HX4 : Hid (Below wx.heap.size wx w4) := Lib.hid (((Kp.of_below (S := fun _ => False) HX3.out).after a2 (fun i hi e => by omega)).below (Nat.le_refl _) (fun _ h => h.elim)); clear a1 a2 a3)
                        | fail)
                      refine Text.wp_region_text (fun w' => w'.cell? ⟨w.heap.size, 2, none⟩ = some (.slice a2 n2 c2) ∧ w'.cell? ⟨w.heap.size, 3, none⟩ = some (.slice a3 n3 c3) ∧ w'.cell? ⟨wx.heap.size, 0, none⟩ = some (.string (strB s.id))) [(0, 4), (2, 4), (5, 4), (6, 4), (1, 0), (3, 0), (7, 0), (4, 2), (8, 2), (9, 4), (10, 4), (11, 4), (13, 4), (12, 0), (14, 0), (15, 2), (16, 4), (17, 4), (18, 4), (19, 4), (20, 4), (21, 4), (22, 4)] (by kernel_rfl) (by kernel_rfl) (fun _ _ _ _ _ h => h) (⟨(HSy.out.kept HX4.out).get (j := 2) rfl, (HSy.out.kept HX4.out).get (j := 3) rfl, HV4.out.get (j := 0) rfl⟩) ?_
                      iterate 4 (refine Text.purek rfl rfl (fun K hK => ⟨_, fun w' => by go_simp <;> rfl, ?_⟩); go_simp; refine hK _ ?_; clear hK K)
                      iterate 3 (refine Text.heldk rfl rfl (fun K hK => ⟨_, fun w' hw' => by go_simp <;> rfl, ?_⟩); go_simp; refine hK _ ?_; clear hK K)
                      refine Text.eff rfl rfl (fun K hK => ?_)
                      go_simp
                      refine (lhas_any _ _ _ x.drop s.id _ (H.out.drop.kept stay_str (below_thenB HBy.out HBy.out.size HX4.out.drew))).mono ?_
                      rintro e w5 ⟨rfl, hb5⟩
                      have b5 := below_eq hb5
                      clear hb5
                      rw [h1]
                      have HX5 : Hid (Below wx.heap.size wx w5) := Lib.hid (below_thenB HX4.out HX4.out.size (below_ofDrew b5))
                      have HV5 := Lib.hid (HV4.out.kept (below_ofDrew b5))
                      refine hK _ _ ⟨(HSy.out.kept HX5.out).get (j := 2) rfl, (HSy.out.kept HX5.out).get (j := 3) rfl, HV5.out.get (j := 0) rfl⟩ ?_
                      clear hK K b5
                      refine Text.eff rfl rfl (fun K hK => ?_)
                      go_simp
                      refine (lhas_any _ _ _ (fgL x) s.id _ (LF.out.kept stay_str (below_thenB hb.out hb.out.size HX5.out))).mono ?_
                      rintro e w6 ⟨rfl, hb6⟩
                      have b6 := below_eq hb6
                      clear hb6
                      rw [show hasB (fgL x) s.id = false from HFH.out.trans h1]
                      have HX6 : Hid (Below wx.heap.size wx w6) := Lib.hid (below_thenB HX5.out HX5.out.size b6)
                      have HV6 := Lib.hid (HV5.out.kept b6)
                      refine hK _ _ ⟨(HSy.out.kept HX6.out).get (j := 2) rfl, (HSy.out.kept HX6.out).get (j := 3) rfl, HV6.out.get (j := 0) rfl⟩ ?_
                      clear hK K b6
                      iterate 4 (refine Text.purek rfl rfl (fun K hK => ⟨_, fun w' => by go_simp <;> rfl, ?_⟩); go_simp; refine hK _ ?_; clear hK K)
                      iterate 2 (refine Text.heldk rfl rfl (fun K hK => ⟨_, fun w' hw' => by go_simp <;> rfl, ?_⟩); go_simp; refine hK _ ?_; clear hK K)
                      refine Text.effw rfl rfl (fun K hK => ?_)
                      go_simp
                      refine (lhas_any _ _ _ x.cond s.id _ (H.out.cond.kept stay_str (below_thenB HBy.out HBy.out.size HX6.out))).mono ?_
                      rintro e w7 ⟨rfl, hb7⟩
                      have b7 := below_eq hb7
                      clear hb7
                      rw [h2]
                      have HX7 : Hid (Below wx.heap.size wx w7) := Lib.hid (below_thenB HX6.out HX6.out.size b7)
                      have HV7 := Lib.hid (HV6.out.kept b7)
                      refine hK _ _ ⟨(HSy.out.kept HX7.out).get (j := 2) rfl, (HSy.out.kept HX7.out).get (j := 3) rfl, HV7.out.get (j := 0) rfl⟩ ?_
                      clear hK K b7
                      (refine Text.purek rfl rfl (fun K hK => ⟨_, fun w' => by go_simp <;> rfl, ?_⟩); go_simp; refine hK _ ?_; clear hK K)
                      iterate 4 (refine Text.skipk (.inr (.inr rfl)) rfl rfl (fun K hK => ?_); go_simp; refine hK _ ?_; clear hK K)
                      iterate 2 (refine Text.purek rfl rfl (fun K hK => ⟨_, fun w' => by go_simp <;> rfl, ?_⟩); go_simp; refine hK _ ?_; clear hK K)
                      refine Text.done ?_
                      go_wp2_with fail
                      go_roundw
                      case rel => exact ⟨k + 1, by omega, by go_num, Lib.hid (below_thenB hb.out hb.out.size HX7.out)⟩
                      case measure => simp [intOf]; omega
                    | true =>
                      have HPF := Lib.hid (pr_cond hv h2)
                      go_wp2_with (first
                        | ((with_reducible show wpList _ _ _ (⟨some 109, _, _, _, _, _⟩ :: _) _ _); refine wpList_loadv _ rfl 61 (.tmp 108) rfl 6 (by kernel_rfl) g (o + k * 6) (spC s A' m' c') (by go_simp) HA.out rfl ?_)
                        | ((with_reducible show wpList _ _ _ (⟨some 16, _, _, _, _, _⟩ :: _) _ _); refine wpList_alloc _ rfl 61 rfl spZ spZero ?_; intro w3 a1 a2 a3; have HV3 := Lib.hid a1; have HX3 := Lib.hid a2; clear a1 a2 a3)
                        | ((with_reducible show wpList _ _ _ (⟨none, _, _, _, _, _⟩ :: _) _ _); refine wpList_storev _ rfl 61 (.tmp 16) (.tmp 109) rfl 6 (by kernel_rfl) wx.heap.size 0 _ spZ (spC s A' m' c') rfl rfl HV3.out rfl (one_sp s A' m' c') (by decide) ?_; intro w4 a1 a2 a3; have HV4 : Hid (BL w4 wx.heap.size 61 (spC s A' m' c')) := Lib.hid a1; have HX4 : Hid (Below wx.heap.size wx w4) := Lib.hid (((Kp.of_below (S := fun _ => False) HX3.out).after a2 (fun i hi e => by omega)).below (Nat.le_refl _) (fun _ h => h.elim)); clear a1 a2 a3)
                        | fail)
                      refine Text.wp_region_text (fun w' => w'.cell? ⟨w.heap.size, 2, none⟩ = some (.slice a2 n2 c2) ∧ w'.cell? ⟨w.heap.size, 3, none⟩ = some (.slice a3 n3 c3) ∧ w'.cell? ⟨wx.heap.size, 0, none⟩ = some (.string (strB s.id))) [(0, 4), (2, 4), (5, 4), (6, 4), (1, 0), (3, 0), (7, 0), (4, 2), (8, 2), (9, 4), (10, 4), (11, 4), (13, 4), (12, 0), (14, 0), (15, 2), (16, 4), (17, 4), (18, 4), (19, 0), (20, 2), (21, 4), (22, 4)] (by kernel_rfl) (by kernel_rfl) (fun _ _ _ _ _ h => h) (⟨(HSy.out.kept HX4.out).get (j := 2) rfl, (HSy.out.kept HX4.out).get (j := 3) rfl, HV4.out.get (j := 0) rfl⟩) ?_
                      iterate 4 (refine Text.purek rfl rfl (fun K hK => ⟨_, fun w' => by go_simp <;> rfl, ?_⟩); go_simp; refine hK _ ?_; clear hK K)
                      iterate 3 (refine Text.heldk rfl rfl (fun K hK => ⟨_, fun w' hw' => by go_simp <;> rfl, ?_⟩); go_simp; refine hK _ ?_; clear hK K)
                      refine Text.eff rfl rfl (fun K hK => ?_)
                      go_simp
                      refine (lhas_any _ _ _ x.drop s.id _ (H.out.drop.kept stay_str (below_thenB HBy.out HBy.out.size HX4.out.drew))).mono ?_
                      rintro e w5 ⟨rfl, hb5⟩
                      have b5 := below_eq hb5
                      clear hb5
                      rw [h1]
                      have HX5 : Hid (Below wx.heap.size wx w5) := Lib.hid (below_thenB HX4.out HX4.out.size (below_ofDrew b5))
                      have HV5 := Lib.hid (HV4.out.kept (below_ofDrew b5))
                      refine hK _ _ ⟨(HSy.out.kept HX5.out).get (j := 2) rfl, (HSy.out.kept HX5.out).get (j := 3) rfl, HV5.out.get (j := 0) rfl⟩ ?_
                      clear hK K b5
                      refine Text.eff rfl rfl (fun K hK => ?_)
                      go_simp
                      refine (lhas_any _ _ _ (fgL x) s.id _ (LF.out.kept stay_str (below_thenB hb.out hb.out.size HX5.out))).mono ?_
                      rintro e w6 ⟨rfl, hb6⟩
                      have b6 := below_eq hb6
                      clear hb6
                      rw [show hasB (fgL x) s.id = false from HFH.out.trans h1]
                      have HX6 : Hid (Below wx.heap.size wx w6) := Lib.hid (below_thenB HX5.out HX5.out.size b6)
                      have HV6 := Lib.hid (HV5.out.kept b6)
                      refine hK _ _ ⟨(HSy.out.kept HX6.out).get (j := 2) rfl, (HSy.out.kept HX6.out).get (j := 3) rfl, HV6.out.get (j := 0) rfl⟩ ?_
                      clear hK K b6
                      iterate 4 (refine Text.purek rfl rfl (fun K hK => ⟨_, fun w' => by go_simp <;> rfl, ?_⟩); go_simp; refine hK _ ?_; clear hK K)
                      iterate 2 (refine Text.heldk rfl rfl (fun K hK => ⟨_, fun w' hw' => by go_simp <;> rfl, ?_⟩); go_simp; refine hK _ ?_; clear hK K)
                      refine Text.effw rfl rfl (fun K hK => ?_)
                      go_simp
                      refine (lhas_any _ _ _ x.cond s.id _ (H.out.cond.kept stay_str (below_thenB HBy.out HBy.out.size HX6.out))).mono ?_
                      rintro e w7 ⟨rfl, hb7⟩
                      have b7 := below_eq hb7
                      clear hb7
                      rw [h2]
                      have HX7 : Hid (Below wx.heap.size wx w7) := Lib.hid (below_thenB HX6.out HX6.out.size b7)
                      have HV7 := Lib.hid (HV6.out.kept b7)
                      refine hK _ _ ⟨(HSy.out.kept HX7.out).get (j := 2) rfl, (HSy.out.kept HX7.out).get (j := 3) rfl, HV7.out.get (j := 0) rfl⟩ ?_
                      clear hK K b7
                      iterate 3 (refine Text.purek rfl rfl (fun K hK => ⟨_, fun w' => by go_simp <;> rfl, ?_⟩); go_simp; refine hK _ ?_; clear hK K)
                      (refine Text.heldk rfl rfl (fun K hK => ⟨_, fun w' hw' => by go_simp <;> rfl, ?_⟩); go_simp; refine hK _ ?_; clear hK K)
                      refine Text.effw rfl rfl (fun K hK => ?_)
                      go_simp
                      refine (lhas_any _ _ _ (gvL x) s.id _ (LP.out.kept stay_str (below_thenB hb.out hb.out.size HX7.out))).mono ?_
                      rintro e w8 ⟨rfl, hb8⟩
                      have b8 := below_eq hb8
                      clear hb8
                      rw [show hasB (gvL x) s.id = false from HPF.out]
                      have HX8 : Hid (Below wx.heap.size wx w8) := Lib.hid (below_thenB HX7.out HX7.out.size b8)
                      have HV8 := Lib.hid (HV7.out.kept b8)
                      refine hK _ _ ⟨(HSy.out.kept HX8.out).get (j := 2) rfl, (HSy.out.kept HX8.out).get (j := 3) rfl, HV8.out.get (j := 0) rfl⟩ ?_
                      clear hK K b8
                      iterate 2 (refine Text.purek rfl rfl (fun K hK => ⟨_, fun w' => by go_simp <;> rfl, ?_⟩); go_simp; refine hK _ ?_; clear hK K)
                      refine Text.done ?_
                      go_wp2_with fail
                      go_roundw
                      case rel => exact ⟨k + 1, by omega, by go_num, Lib.hid (below_thenB hb.out hb.out.size HX8.out)⟩
                      case measure => simp [intOf]; omega
                  | true =>
                    cases h2 : hasB x.cond s.id with
                    | false =>
                      go_wp2_with (first
                        | ((with_reducible show wpList _ _ _ (⟨some 109, _, _, _, _, _⟩ :: _) _ _); refine wpList_loadv _ rfl 61 (.tmp 108) rfl 6 (by kernel_rfl) g (o + k * 6) (spC s A' m' c') (by go_simp) HA.out rfl ?_)
                        | ((with_reducible show wpList _ _ _ (⟨some 16, _, _, _, _, _⟩ :: _) _ _); refine wpList_alloc _ rfl 61 rfl spZ spZero ?_; intro w3 a1 a2 a3; have HV3 := Lib.hid a1; have HX3 := Lib.hid a2; clear a1 a2 a3)
                        | ((with_reducible show wpList _ _ _ (⟨none, _, _, _, _, _⟩ :: _) _ _); refine wpList_storev _ rfl 61 (.tmp 16) (.tmp 109) rfl 6 (by kernel_rfl) wx.heap.size 0 _ spZ (spC s A' m' c') rfl rfl HV3.out rfl (one_sp s A' m' c') (by decide) ?_; intro w4 a1 a2 a3; have HV4 : Hid (BL w4 wx.heap.size 61 (spC s A' m' c')) := Lib.hid a1; have HX4 : Hid (Below wx.heap.size wx w4) := Lib.hid (((Kp.of_below (S := fun _ => False) HX3.out).after a2 (fun i hi e => by omega)).below (Nat.le_refl _) (fun _ h => h.elim)); clear a1 a2 a3)
                        | fail)
                      refine Text.wp_region_text (fun w' => w'.cell? ⟨w.heap.size, 2, none⟩ = some (.slice a2 n2 c2) ∧ w'.cell? ⟨w.heap.size, 3, none⟩ = some (.slice a3 n3 c3) ∧ w'.cell? ⟨wx.heap.size, 0, none⟩ = some (.string (strB s.id))) [(0, 4), (2, 4), (5, 4), (6, 4), (1, 0), (3, 0), (7, 0), (4, 2), (8, 2), (9, 4), (10, 4), (11, 4), (13, 4), (12, 0), (14, 0), (15, 2), (16, 4), (17, 4), (18, 4), (19, 4), (20, 4), (21, 4), (22, 4)] (by kernel_rfl) (by kernel_rfl) (fun _ _ _ _ _ h => h) (⟨(HSy.out.kept HX4.out).get (j := 2) rfl, (HSy.out.kept HX4.out).get (j := 3) rfl, HV4.out.get (j := 0) rfl⟩) ?_
                      iterate 4 (refine Text.purek rfl rfl (fun K hK => ⟨_, fun w' => by go_simp <;> rfl, ?_⟩); go_simp; refine hK _ ?_; clear hK K)
                      iterate 3 (refine Text.heldk rfl rfl (fun K hK => ⟨_, fun w' hw' => by go_simp <;> rfl, ?_⟩); go_simp; refine hK _ ?_; clear hK K)
                      refine Text.eff rfl rfl (fun K hK => ?_)
                      go_simp
                      refine (lhas_any _ _ _ x.drop s.id _ (H.out.drop.kept stay_str (below_thenB HBy.out HBy.out.size HX4.out.drew))).mono ?_
                      rintro e w5 ⟨rfl, hb5⟩
                      have b5 := below_eq hb5
                      clear hb5
                      rw [h1]
                      have HX5 : Hid (Below wx.heap.size wx w5) := Lib.hid (below_thenB HX4.out HX4.out.size (below_ofDrew b5))
                      have HV5 := Lib.hid (HV4.out.kept (below_ofDrew b5))
                      refine hK _ _ ⟨(HSy.out.kept HX5.out).get (j := 2) rfl, (HSy.out.kept HX5.out).get (j := 3) rfl, HV5.out.get (j := 0) rfl⟩ ?_
                      clear hK K b5
                      refine Text.eff rfl rfl (fun K hK => ?_)
                      go_simp
                      refine (lhas_any _ _ _ (fgL x) s.id _ (LF.out.kept stay_str (below_thenB hb.out hb.out.size HX5.out))).mono ?_
                      rintro e w6 ⟨rfl, hb6⟩
                      have b6 := below_eq hb6
                      clear hb6
                      rw [show hasB (fgL x) s.id = true from HFH.out.trans h1]
                      have HX6 : Hid (Below wx.heap.size wx w6) := Lib.hid (below_thenB HX5.out HX5.out.size b6)
                      have HV6 := Lib.hid (HV5.out.kept b6)
                      refine hK _ _ ⟨(HSy.out.kept HX6.out).get (j := 2) rfl, (HSy.out.kept HX6.out).get (j := 3) rfl, HV6.out.get (j := 0) rfl⟩ ?_
                      clear hK K b6
                      iterate 4 (refine Text.purek rfl rfl (fun K hK => ⟨_, fun w' => by go_simp <;> rfl, ?_⟩); go_simp; refine hK _ ?_; clear hK K)
                      iterate 2 (refine Text.heldk rfl rfl (fun K hK => ⟨_, fun w' hw' => by go_simp <;> rfl, ?_⟩); go_simp; refine hK _ ?_; clear hK K)
                      refine Text.effw rfl rfl (fun K hK => ?_)
                      go_simp
                      refine (lhas_any _ _ _ x.cond s.id _ (H.out.cond.kept stay_str (below_thenB HBy.out HBy.out.size HX6.out))).mono ?_
                      rintro e w7 ⟨rfl, hb7⟩
                      have b7 := below_eq hb7
                      clear hb7
                      rw [h2]
                      have HX7 : Hid (Below wx.heap.size wx w7) := Lib.hid (below_thenB HX6.out HX6.out.size b7)
                      have HV7 := Lib.hid (HV6.out.kept b7)
                      refine hK _ _ ⟨(HSy.out.kept HX7.out).get (j := 2) rfl, (HSy.out.kept HX7.out).get (j := 3) rfl, HV7.out.get (j := 0) rfl⟩ ?_
                      clear hK K b7
                      (refine Text.purek rfl rfl (fun K hK => ⟨_, fun w' => by go_simp <;> rfl, ?_⟩); go_simp; refine hK _ ?_; clear hK K)
                      iterate 4 (refine Text.skipk (.inr (.inr rfl)) rfl rfl (fun K hK => ?_); go_simp; refine hK _ ?_; clear hK K)
                      iterate 2 (refine Text.purek rfl rfl (fun K hK => ⟨_, fun w' => by go_simp <;> rfl, ?_⟩); go_simp; refine hK _ ?_; clear hK K)
                      refine Text.done ?_
                      go_wp2_with fail
                      go_roundw
                      case rel => exact ⟨k + 1, by omega, by go_num, Lib.hid (below_thenB hb.out hb.out.size HX7.out)⟩
                      case measure => simp [intOf]; omega
                    | true =>
                      have HPF := Lib.hid (pr_cond hv h2)
                      go_wp2_with (first
                        | ((with_reducible show wpList _ _ _ (⟨some 109, _, _, _, _, _⟩ :: _) _ _); refine wpList_loadv _ rfl 61 (.tmp 108) rfl 6 (by kernel_rfl) g (o + k * 6) (spC s A' m' c') (by go_simp) HA.out rfl ?_)
                        | ((with_reducible show wpList _ _ _ (⟨some 16, _, _, _, _, _⟩ :: _) _ _); refine wpList_alloc _ rfl 61 rfl spZ spZero ?_; intro w3 a1 a2 a3; have HV3 := Lib.hid a1; have HX3 := Lib.hid a2; clear a1 a2 a3)
                        | ((with_reducible show wpList _ _ _ (⟨none, _, _, _, _, _⟩ :: _) _ _); refine wpList_storev _ rfl 61 (.tmp 16) (.tmp 109) rfl 6 (by kernel_rfl) wx.heap.size 0 _ spZ (spC s A' m' c') rfl rfl HV3.out rfl (one_sp s A' m' c') (by decide) ?_; intro w4 a1 a2 a3; have HV4 : Hid (BL w4 wx.heap.size 61 (spC s A' m' c')) := Lib.hid a1; have HX4 : Hid (Below wx.heap.size wx w4) := Lib.hid (((Kp.of_below (S := fun _ => False) HX3.out).after a2 (fun i hi e => by omega)).below (Nat.le_refl _) (fun _ h => h.elim)); clear a1 a2 a3)
                        | fail)
                      refine Text.wp_region_text (fun w' => w'.cell? ⟨w.heap.size, 2, none⟩ = some (.slice a2 n2 c2) ∧ w'.cell? ⟨w.heap.size, 3, none⟩ = some (.slice a3 n3 c3) ∧ w'.cell? ⟨wx.heap.size, 0, none⟩ = some (.string (strB s.id))) [(0, 4), (2, 4), (5, 4), (6, 4), (1, 0), (3, 0), (7, 0), (4, 2), (8, 2), (9, 4), (10, 4), (11, 4), (13, 4), (12, 0), (14, 0), (15, 2), (16, 4), (17, 4), (18, 4), (19, 0), (20, 2), (21, 4), (22, 4)] (by kernel_rfl) (by kernel_rfl) (fun _ _ _ _ _ h => h) (⟨(HSy.out.kept HX4.out).get (j := 2) rfl, (HSy.out.kept HX4.out).get (j := 3) rfl, HV4.out.get (j := 0) rfl⟩) ?_
                      iterate 4 (refine Text.purek rfl rfl (fun K hK => ⟨_, fun w' => by go_simp <;> rfl, ?_⟩); go_simp; refine hK _ ?_; clear hK K)
                      iterate 3 (refine Text.heldk rfl rfl (fun K hK => ⟨_, fun w' hw' => by go_simp <;> rfl, ?_⟩); go_simp; refine hK _ ?_; clear hK K)
                      refine Text.eff rfl rfl (fun K hK => ?_)
                      go_simp
                      refine (lhas_any _ _ _ x.drop s.id _ (H.out.drop.kept stay_str (below_thenB HBy.out HBy.out.size HX4.out.drew))).mono ?_
                      rintro e w5 ⟨rfl, hb5⟩
                      have b5 := below_eq hb5
                      clear hb5
                      rw [h1]
                      have HX5 : Hid (Below wx.heap.size wx w5) := Lib.hid (below_thenB HX4.out HX4.out.size (below_ofDrew b5))
                      have HV5 := Lib.hid (HV4.out.kept (below_ofDrew b5))
                      refine hK _ _ ⟨(HSy.out.kept HX5.out).get (j := 2) rfl, (HSy.out.kept HX5.out).get (j := 3) rfl, HV5.out.get (j := 0) rfl⟩ ?_
                      clear hK K b5
                      refine Text.eff rfl rfl (fun K hK => ?_)
                      go_simp
                      refine (lhas_any _ _ _ (fgL x) s.id _ (LF.out.kept stay_str (below_thenB hb.out hb.out.size HX5.out))).mono ?_
                      rintro e w6 ⟨rfl, hb6⟩
                      have b6 := below_eq hb6
                      clear hb6
                      rw [show hasB (fgL x) s.id = true from HFH.out.trans h1]
                      have HX6 : Hid (Below wx.heap.size wx w6) := Lib.hid (below_thenB HX5.out HX5.out.size b6)
                      have HV6 := Lib.hid (HV5.out.kept b6)
                      refine hK _ _ ⟨(HSy.out.kept HX6.out).get (j := 2) rfl, (HSy.out.kept HX6.out).get (j := 3) rfl, HV6.out.get (j := 0) rfl⟩ ?_
                      clear hK K b6
                      iterate 4 (refine Text.purek rfl rfl (fun K hK => ⟨_, fun w' => by go_simp <;> rfl, ?_⟩); go_simp; refine hK _ ?_; clear hK K)
                      iterate 2 (refine Text.heldk rfl rfl (fun K hK => ⟨_, fun w' hw' => by go_simp <;> rfl, ?_⟩); go_simp; refine hK _ ?_; clear hK K)
                      refine Text.effw rfl rfl (fun K hK => ?_)
                      go_simp
                      refine (lhas_any _ _ _ x.cond s.id _ (H.out.cond.kept stay_str (below_thenB HBy.out HBy.out.size HX6.out))).mono ?_
                      rintro e w7 ⟨rfl, hb7⟩
                      have b7 := below_eq hb7
                      clear hb7
                      rw [h2]
                      have HX7 : Hid (Below wx.heap.size wx w7) := Lib.hid (below_thenB HX6.out HX6.out.size b7)
                      have HV7 := Lib.hid (HV6.out.kept b7)
                      refine hK _ _ ⟨(HSy.out.kept HX7.out).get (j := 2) rfl, (HSy.out.kept HX7.out).get (j := 3) rfl, HV7.out.get (j := 0) rfl⟩ ?_
                      clear hK K b7
                      iterate 3 (refine Text.purek rfl rfl (fun K hK => ⟨_, fun w' => by go_simp <;> rfl, ?_⟩); go_simp; refine hK _ ?_; clear hK K)
                      (refine Text.heldk rfl rfl (fun K hK => ⟨_, fun w' hw' => by go_simp <;> rfl, ?_⟩); go_simp; refine hK _ ?_; clear hK K)
                      refine Text.effw rfl rfl (fun K hK => ?_)
                      go_simp
                      refine (lhas_any _ _ _ (gvL x) s.id _ (LP.out.kept stay_str (below_thenB hb.out hb.out.size HX7.out))).mono ?_
                      rintro e w8 ⟨rfl, hb8⟩
                      have b8 := below_eq hb8
                      clear hb8
                      rw [show hasB (gvL x) s.id = false from HPF.out]
                      have HX8 : Hid (Below wx.heap.size wx w8) := Lib.hid (below_thenB HX7.out HX7.out.size b8)
                      have HV8 := Lib.hid (HV7.out.kept b8)
                      refine hK _ _ ⟨(HSy.out.kept HX8.out).get (j := 2) rfl, (HSy.out.kept HX8.out).get (j := 3) rfl, HV8.out.get (j := 0) rfl⟩ ?_
                      clear hK K b8
                      iterate 2 (refine Text.purek rfl rfl (fun K hK => ⟨_, fun w' => by go_simp <;> rfl, ?_⟩); go_simp; refine hK _ ?_; clear hK K)
                      refine Text.done ?_
                      go_wp2_with fail
                      go_roundw
                      case rel => exact ⟨k + 1, by omega, by go_num, Lib.hid (below_thenB hb.out hb.out.size HX8.out)⟩
                      case measure => simp [intOf]; omega
                · obtain rfl : k = n0 := by omega
                  obtain ⟨nu, hnu⟩ : ∃ n, n = (unneedL x).length := ⟨_, rfl⟩
                  have HNU := Lib.hid hnu
                  rw [← hnu] at HLX ⊢
                  clear hnu
                  have hnul := HLX.out.len_le
                  have HW3 := hb
                  clear hb
                  go_wp2_with fail
                  go_loopw [136] (fun iv wr => ∃ k : Nat, k ≤ nu ∧ iv = .int .i64 (k : Int) ∧ Hid (Below wk.heap.size wk wr)) (fun iv _ => nu - (intOf iv).toNat)
                  case atStart => exact ⟨0, by omega, rfl, HW3⟩
                  case round =>
                    obtain ⟨j, hj, rfl, hb⟩ := hrel
                    obtain ⟨wx, hwx⟩ : ∃ x, x = wr := ⟨_, rfl⟩
                    rw [← hwx] at hb ⊢
                    clear hwx
                    by_cases hlt : j < nu
                    · obtain ⟨id, g, o, hs, e0, p1⟩ := HLX.out.str_at hb.out hlt
                      have HUN : Hid (hasB (gvL x) id = true) := Lib.hid (pr_unneed (List.mem_of_getElem? hs))
                      subst e0
                      clear hs
                      go_wp2_with (first
                        | (go_at_call 26; refine (lhas_any _ _ _ (gvL x) id _ (LP.out.kept stay_str hb.out)).mono ?_; rintro e w5 ⟨rfl, hb5⟩; have b5 := below_eq hb5; clear hb5; rw [HUN.out]; have HX5 := Lib.hid b5; clear b5))
                      go_roundw
                      case rel => exact ⟨j + 1, by omega, by go_num, Lib.hid (below_thenB hb.out hb.out.size HX5.out)⟩
                      case measure => simp [intOf]; omega
                    · obtain rfl : j = nu := by omega
                      go_wp2_with fail
                      go_ret
                      exact ⟨rfl, below_thenB HBx.out HBx.out.size hb.out⟩
end Go.Proofs.Ytboglaokdgnpaaa
