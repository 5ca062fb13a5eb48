/- Several texts in one: Vl. -/
import Derived.Test.YtboglaokdgnpaaaA26
/- collector.After of a Rewrite that is done. -/
namespace Go.Proofs.Ytboglaokdgnpaaa
open Go Go.RowKit Gf Sha

def siE : Si := ⟨[], [], [], [], [], [], 0⟩
/-- What After returns. -/
def AfterR (res : Si) (err : Int) (w : World) (e : Ending) (w' : World) : Prop := ∃ cs, e = .returned (.tuple #[.agg cs.toArray, .int .i64 err]) ∧ rSi w' cs res ∧ Below w.heap.size w w'
set_option maxRecDepth 100000 in
set_option maxHeartbeats 4000000 in
theorem after_rw (a0 : Option Addr) (n0 c0 : Nat) (a1 : Option Addr) (n1 c1 : Nat) (a2 : Option Addr) (n2 c2 : Nat) (a3 : Option Addr) (n3 c3 : Nat) (a4 : Option Addr) (n4 c4 : Nat) (a5 : Option Addr) (n5 c5 : Nat) (x : Si) (w : World) (hq : SiOk w a0 n0 c0 a1 n1 c1 a2 n2 c2 a3 n3 c3 a4 n4 c4 a5 n5 c5 x) (hbig : x.sp.length ≤ 1000) (hv : siB x = true) (s : Stp) (cs : List Value) (hs : rStp w cs s) (B : Option Addr) (l d : Nat) (made : List Sp) (hm : LS rSp 6 72 w B l d made) (hmb : l ≤ 1000) (hk1 : s.kind = 1) (hre : refE (st0 x) s made = 0) :
  Calls Try.prog 18 #[.agg (siC a0 n0 c0 a1 n1 c1 a2 n2 c2 a3 n3 c3 a4 n4 c4 a5 n5 c5 x.pct).toArray, .agg cs.toArray, .slice B l d] w (AfterR { x with sp := x.sp ++ made } 0 w) := by
 have HSTP := Lib.hid hs
 obtain ⟨B0, p0, e0, B1, p1, e1, rfl, hl0, hl1, hkd, hpc⟩ := hs
 have H := Lib.hid hq
 have HBG := Lib.hid hbig
 have HM := Lib.hid hm
 have HMB := Lib.hid hmb
 have HRE := Lib.hid hre
 have f1 : decide (s.kind < 1) = false := by rw [hk1]; rfl
 have f2 : decide (4 < s.kind) = false := by rw [hk1]; rfl
 have f3 : (s.kind != 1) = false := by rw [hk1]; rfl
 have f4 : (s.kind == 3) = false := by rw [hk1]; rfl
 have f5 : (s.kind == 4) = false := by rw [hk1]; rfl
 have f6 : (s.kind == 1) = true := by rw [hk1]; rfl
 clear hq hbig hm hmb hre hl0 hl1 hkd hpc hk1
 by_cases hl : 0 < l
 ·
  have f7 : decide (0 < l) = true := decide_eq_true hl
  go_enter Try.func18, Try.ntmps18
  go_wp2_with (first
   | ((with_reducible show OpW 3); refine wpList_box _ rfl 33 (.tmp 0) rfl (siC a0 n0 c0 a1 n1 c1 a2 n2 c2 a3 n3 c3 a4 n4 c4 a5 n5 c5 x.pct) rfl ?_; intro w1 a1 a2 a3; have HB1 := Lib.hid a2; have HS1 := Lib.hid a1; clear a1 a2 a3)
   | ((with_reducible show OpW 4); refine wpList_box _ rfl 44 (.tmp 1) rfl (stC2 s B0 p0 e0 B1 p1 e1) rfl ?_; intro w2 a1 a2 a3; have HT2 := Lib.hid a1; have HB2 := Lib.hid (below_then HB1.out a2); have HS2 := Lib.hid (HS1.out.kept a2); clear a1 a2 a3)
   | ((with_reducible show OpW 6); refine wpList_alloc _ rfl 33 rfl siZ siZero ?_; intro w3 a1 a2 a3; have HR3 := Lib.hid a1; have HB3 := Lib.hid (below_then HB2.out a2); have HS3 := Lib.hid (HS2.out.kept a2); have HT3 := Lib.hid (HT2.out.kept a2); clear a1 a2 a3)
   | ((with_reducible show OpW 13); refine wpList_loadv _ rfl 33 (.tmp 3) rfl 7 (by kernel_rfl) w.heap.size 0 _ rfl (BL.all HS3.out) rfl ?_)
   | (go_at_call 38; refine (read_any a0 n0 c0 a1 n1 c1 a2 n2 c2 a3 n3 c3 a4 n4 c4 a5 n5 c5 x _ (H.out.kept HB3.out) HBG.out).mono ?_; unfold ReadR; rw [hv]; (simp only [if_true]); rintro e w4 ⟨gb, m0, m1, m2, m3, m4, m5, m6, m7, rfl, hst, b4, h8, h9⟩; have HB4 := Lib.hid (below_thenB HB3.out HB3.out.size b4); have HST := Lib.hid hst; have HS4 := Lib.hid (HS3.out.kept b4); have HT4 := Lib.hid (HT3.out.kept b4); have HR4 := Lib.hid (HR3.out.kept b4); have t0 := (HT3.out.kept b4).get (j := 0) rfl; clear hst b4 h8 h9)
   | ((with_reducible show OpW 41); refine wpList_loadv _ rfl 44 (.tmp 4) rfl 5 (by kernel_rfl) w1.heap.size 0 (stC2 s B0 p0 e0 B1 p1 e1) rfl (BL.all HT4.out) rfl ?_)
   | (go_at_call 50; refine (refuse_any _ gb _ _ _ _ _ _ _ _ _ _ _ _ _ _ _ _ _ _ _ _ _ _ _ _ _ _ _ _ HST.out s _ (stay_stp _ _ _ _ HSTP.out HB4.out) _ _ _ made (HM.out.kept stay_sp HB4.out)).mono ?_; rintro e w5 ⟨rfl, b5⟩; rw [HRE.out]; have HX5 := Lib.hid b5; have HB5 := Lib.hid (below_thenB HB4.out HB4.out.size b5); clear b5)
   | ((with_reducible show OpW 48); refine wpList_loadv _ rfl 33 (.tmp 3) rfl 7 (by kernel_rfl) w.heap.size 0 _ rfl (BL.all (HS4.out.kept HX5.out)) rfl ?_)
   | (go_at_call 51; refine (clone_any a0 n0 c0 a1 n1 c1 a2 n2 c2 a3 n3 c3 a4 n4 c4 a5 n5 c5 x _ (H.out.kept HB5.out)).mono ?_; rintro e w6 ⟨b0, k0, d0, b1, k1, d1, b2, k2, d2, b3, k3, d3, b4, k4, d4, b5, k5, d5, rfl, hcl, b6⟩; have HX6 := Lib.hid (below_thenB HX5.out HX5.out.size b6); have HB6 := Lib.hid (below_thenB HB5.out HB5.out.size b6); have HCL := Lib.hid hcl; clear hcl b6)
   | ((with_reducible show OpW 10); refine wpList_alloc _ rfl 33 rfl siZ siZero ?_; intro w7 a1 a2 a3; have HY7 := Lib.hid a1; have HB7 := Lib.hid (below_thenB HB6.out HB6.out.size a2); have HX7 := Lib.hid (below_thenB HX6.out HX6.out.size a2); have HCL7 := Lib.hid (HCL.out.kept a2); have HZ7 := Lib.hid a3; clear a1 a2 a3)
   | ((with_reducible show OpN); refine wpList_storev _ rfl 33 (.tmp 10) (.tmp 49) rfl 7 (by kernel_rfl) w6.heap.size 0 _ siZ (siC b0 k0 d0 b1 k1 d1 b2 k2 d2 b3 k3 d3 b4 k4 d4 b5 k5 d5 x.pct) rfl rfl HY7.out rfl (one_si _ _ _ _ _ _ _ _ _ _ _ _ _ _ _ _ _ _ _) (by decide) ?_; intro w8 a1 a2 a3; have HY8 : Hid (BL w8 w6.heap.size 33 (siC b0 k0 d0 b1 k1 d1 b2 k2 d2 b3 k3 d3 b4 k4 d4 b5 k5 d5 x.pct)) := Lib.hid a1; have HK8 := Lib.hid a2; have HCL8 := Lib.hid (HCL7.out.put a2 HY7.out); have HR8 := Lib.hid (a2.bl (HR4.out.kept HX7.out) (by have h1 := HR4.out.lt; have h2 := HX6.out.size; omega)); have t0 := (a2.bl (HT4.out.kept HX7.out) (by have h1 := HT4.out.lt; have h2 := HX6.out.size; omega)).get (j := 0) rfl; have y0 := HY8.out.get (j := 0) rfl; have HB8 : Hid (Below w.heap.size w w8) := Lib.hid (((Kp.of_below (S := fun _ => False) HB7.out).after a2 (fun i hi e => by have := HB6.out.size; omega)).below (Nat.le_refl _) (fun _ h => h.elim)); clear a1 a2 a3))
  refine Text.wp_region_text (fun w' => w'.cell? ⟨w6.heap.size, 0, none⟩ = some (.slice b0 k0 d0)) [(0, 4), (2, 4), (1, 0), (3, 2), (4, 2), (5, 4), (6, 3)] (by kernel_rfl) (by kernel_rfl) (fun _ _ _ _ _ h => h) (HY8.out.get (j := 0) rfl) ?_
  iterate 2 (refine Text.purek rfl rfl (fun K hK => ⟨_, fun w' => by go_simp <;> rfl, ?_⟩); go_simp; refine hK _ ?_; clear hK K)
  (refine Text.heldk rfl rfl (fun K hK => ⟨_, fun w' hw' => by go_simp <;> rfl, ?_⟩); go_simp; refine hK _ ?_; clear hK K)
  refine Text.eff rfl rfl (fun K hK => ?_)
  go_simp
  refine (copies_any _ _ _ made _ (HM.out.kept stay_sp HB8.out.drew)).mono ?_
  rintro e w9 ⟨C0, dc, rfl, oc, b9⟩
  have HX9 : Hid (Below w8.heap.size w8 w9) := Lib.hid (below_ofDrew b9)
  have HY9 := Lib.hid (HY8.out.kept HX9.out)
  have HCL9 := Lib.hid (HCL8.out.kept HX9.out)
  have HOC := Lib.hid oc
  refine hK _ _ (HY9.out.get (j := 0) rfl) ?_
  clear hK K oc b9
  refine Text.eff rfl rfl (fun K hK => ?_)
  obtain ⟨iS, i1, i2, i3, i4⟩ := info_some infoSp
  obtain ⟨css, h1, h2, h3, h4, h5⟩ := HCL9.out.sp
  obtain ⟨dss, k1', k2', k3', k4', k5'⟩ := HOC.out
  have hlen : x.sp.length = k0 := slen HCL9.out.sp
  have hlen2 : made.length = l := slen HOC.out
  rw [hlen] at h4
  rw [hlen2] at k4'
  refine wp_appX _ (.tmp 82) (.tmp 84) 22 61 6 iS _ rfl Try.underlying22 i1 i2 i3 rfl _ k0 _ rfl h4 _ l _ rfl (k4'.src Try.underlying22 (css_one k1' k3' ones_spT)) (by rw [i4]; have := HBG.out; have := HMB.out; omega) (by have := HBG.out; have := HMB.out; omega) ?_
  intro v' wa ap
  obtain ⟨A', c', e', _⟩ := ap.row.form
  subst e'
  have hstab : ∀ cs y, rSpT w9 cs y → rSpT wa cs y := fun cs y h => h.kp ap.kp (fun i hi e => by obtain ⟨cs', hb⟩ := h4.ty e; exact ⟨_, _, hb, by decide⟩)
  have hsp : OT rSpT 6 61 w.heap.size wa (.slice A' (k0 + l) c') (x.sp ++ made) := OT.app h1 h2 (fun k h h' => hstab _ _ (h3 k h h')) (fun b hb => Nat.le_trans HB5.out.size (h5 b hb)) hlen k1' k2' (fun k h h' => hstab _ _ (k3' k h h')) hlen2 (Nat.le_trans HB8.out.size HX9.out.size) ap
  have HCLa := Lib.hid (ClO.setSp (base := w.heap.size) ⟨HCL9.out.sp.base HB5.out.size, HCL9.out.need.base HB5.out.size, HCL9.out.cond.base HB5.out.size, HCL9.out.drop.base HB5.out.size, HCL9.out.carr.base HB5.out.size, HCL9.out.held.base HB5.out.size⟩ ap.kp hsp)
  have HYa := Lib.hid (ap.kp.bl HY9.out (fun e => (HCL9.out.sp.ne_bl HY9.out (by decide)) _ e rfl))
  have HRa := Lib.hid (ap.kp.bl (HR8.out.kept HX9.out) (fun e => (HCL9.out.sp.ne_bl (HR8.out.kept HX9.out) (by decide)) _ e rfl))
  have HBa : Hid (Below w.heap.size w wa) := Lib.hid (((Kp.of_below (S := fun _ => False) (below_thenB HB8.out HB8.out.size HX9.out)).after ap.kp (fun i hi e => by have := HCL9.out.sp.own i e; have := HB5.out.size; omega)).below (Nat.le_refl _) (fun _ h => h.elim))
  refine hK _ _ (HYa.out.get (j := 0) rfl) ?_
  clear hK K i1 i2 i3 i4 h1 h2 h3 h4 h5 k1' k2' k3' k4' k5' hstab hsp ap
  (refine Text.purek rfl rfl (fun K hK => ⟨_, fun w' => by go_simp <;> rfl, ?_⟩); go_simp; refine hK _ ?_; clear hK K)
  refine Text.last rfl rfl (fun K hK => ?_)
  refine wp_store1 _ 22 (.tmp 86) (.tmp 85) rfl (slSz _ (by kernel_rfl) _) w6.heap.size 0 _ _ (.slice A' (k0 + l) c') rfl rfl HYa.out rfl rfl (by simp) ?_
  intro wb g1 g2 g3
  have HYb : Hid (BL wb w6.heap.size 33 (siC A' (k0 + l) c' b1 k1 d1 b2 k2 d2 b3 k3 d3 b4 k4 d4 b5 k5 d5 x.pct)) := Lib.hid g1
  have HCLb := Lib.hid (HCLa.out.put g2 HYa.out)
  have HRb := Lib.hid (g2.bl HRa.out (by have h1 := HR4.out.lt; have h2 := HX6.out.size; omega))
  have HBb : Hid (Below w.heap.size w wb) := Lib.hid (((Kp.of_below (S := fun _ => False) HBa.out).after g2 (fun i hi e => by have := HB6.out.size; omega)).below (Nat.le_refl _) (fun _ h => h.elim))
  clear g1 g2 g3
  refine hK _ _ ?_
  clear hK K
  refine Text.done ?_
  go_wp2_with (first
   | ((with_reducible show OpW 102); refine wpList_loadv _ rfl 33 (.tmp 10) rfl 7 (by kernel_rfl) w6.heap.size 0 _ rfl (BL.all HYb.out) rfl ?_)
   | ((with_reducible show OpN); refine wpList_storev _ rfl 33 (.tmp 6) (.tmp 102) rfl 7 (by kernel_rfl) w2.heap.size 0 _ siZ (siC A' (k0 + l) c' b1 k1 d1 b2 k2 d2 b3 k3 d3 b4 k4 d4 b5 k5 d5 x.pct) rfl rfl HRb.out rfl (one_si _ _ _ _ _ _ _ _ _ _ _ _ _ _ _ _ _ _ _) (by decide) ?_; intro wc a1 a2 a3; have HRc : Hid (BL wc w2.heap.size 33 (siC A' (k0 + l) c' b1 k1 d1 b2 k2 d2 b3 k3 d3 b4 k4 d4 b5 k5 d5 x.pct)) := Lib.hid a1; have HCLc := Lib.hid (HCLb.out.put a2 HRb.out); have HBc : Hid (Below w.heap.size w wc) := Lib.hid (((Kp.of_below (S := fun _ => False) HBb.out).after a2 (fun i hi e => by have := HB2.out.size; omega)).below (Nat.le_refl _) (fun _ h => h.elim)); clear a1 a2 a3))
  (try simp only [Exit.inBlock, Exit.then])
  have hls : Lims { x with sp := x.sp ++ made } := by
   have h9 := H.out.lims
   exact ⟨by have := HBG.out; have := HMB.out; unfold lim; simp only [List.length_append]; omega, h9.need, h9.cond, h9.drop, h9.carr, h9.held⟩
  refine bodyPost_ret (results_at2 wc Try.results18 (n := 7) (by kernel_rfl) (g := w2.heap.size) (o := 0) rfl (ms := siC A' (k0 + l) c' b1 k1 d1 b2 k2 d2 b3 k3 d3 b4 k4 d4 b5 k5 d5 x.pct) (BL.all HRc.out) rfl) rfl ⟨_, rfl, ⟨_, _, _, _, _, _, _, _, _, _, _, _, _, _, _, _, _, _, rfl, HCLc.out.si hls H.out.pct⟩, HBc.out⟩
 ·
  have f7 : decide (0 < l) = false := decide_eq_false hl
  go_enter Try.func18, Try.ntmps18
  go_wp2_with (first
   | ((with_reducible show OpW 3); refine wpList_box _ rfl 33 (.tmp 0) rfl (siC a0 n0 c0 a1 n1 c1 a2 n2 c2 a3 n3 c3 a4 n4 c4 a5 n5 c5 x.pct) rfl ?_; intro w1 a1 a2 a3; have HB1 := Lib.hid a2; have HS1 := Lib.hid a1; clear a1 a2 a3)
   | ((with_reducible show OpW 4); refine wpList_box _ rfl 44 (.tmp 1) rfl (stC2 s B0 p0 e0 B1 p1 e1) rfl ?_; intro w2 a1 a2 a3; have HT2 := Lib.hid a1; have HB2 := Lib.hid (below_then HB1.out a2); have HS2 := Lib.hid (HS1.out.kept a2); clear a1 a2 a3)
   | ((with_reducible show OpW 6); refine wpList_alloc _ rfl 33 rfl siZ siZero ?_; intro w3 a1 a2 a3; have HR3 := Lib.hid a1; have HB3 := Lib.hid (below_then HB2.out a2); have HS3 := Lib.hid (HS2.out.kept a2); have HT3 := Lib.hid (HT2.out.kept a2); clear a1 a2 a3)
   | ((with_reducible show OpW 13); refine wpList_loadv _ rfl 33 (.tmp 3) rfl 7 (by kernel_rfl) w.heap.size 0 _ rfl (BL.all HS3.out) rfl ?_)
   | (go_at_call 38; refine (read_any a0 n0 c0 a1 n1 c1 a2 n2 c2 a3 n3 c3 a4 n4 c4 a5 n5 c5 x _ (H.out.kept HB3.out) HBG.out).mono ?_; unfold ReadR; rw [hv]; (simp only [if_true]); rintro e w4 ⟨gb, m0, m1, m2, m3, m4, m5, m6, m7, rfl, hst, b4, h8, h9⟩; have HB4 := Lib.hid (below_thenB HB3.out HB3.out.size b4); have HST := Lib.hid hst; have HS4 := Lib.hid (HS3.out.kept b4); have HT4 := Lib.hid (HT3.out.kept b4); have HR4 := Lib.hid (HR3.out.kept b4); have t0 := (HT3.out.kept b4).get (j := 0) rfl; clear hst b4 h8 h9)
   | ((with_reducible show OpW 41); refine wpList_loadv _ rfl 44 (.tmp 4) rfl 5 (by kernel_rfl) w1.heap.size 0 (stC2 s B0 p0 e0 B1 p1 e1) rfl (BL.all HT4.out) rfl ?_)
   | (go_at_call 50; refine (refuse_any _ gb _ _ _ _ _ _ _ _ _ _ _ _ _ _ _ _ _ _ _ _ _ _ _ _ _ _ _ _ HST.out s _ (stay_stp _ _ _ _ HSTP.out HB4.out) _ _ _ made (HM.out.kept stay_sp HB4.out)).mono ?_; rintro e w5 ⟨rfl, b5⟩; rw [HRE.out]; have HX5 := Lib.hid b5; have HB5 := Lib.hid (below_thenB HB4.out HB4.out.size b5); clear b5)
   | ((with_reducible show OpW 48); refine wpList_loadv _ rfl 33 (.tmp 3) rfl 7 (by kernel_rfl) w.heap.size 0 _ rfl (BL.all (HS4.out.kept HX5.out)) rfl ?_)
   | (go_at_call 51; refine (clone_any a0 n0 c0 a1 n1 c1 a2 n2 c2 a3 n3 c3 a4 n4 c4 a5 n5 c5 x _ (H.out.kept HB5.out)).mono ?_; rintro e w6 ⟨b0, k0, d0, b1, k1, d1, b2, k2, d2, b3, k3, d3, b4, k4, d4, b5, k5, d5, rfl, hcl, b6⟩; have HX6 := Lib.hid (below_thenB HX5.out HX5.out.size b6); have HB6 := Lib.hid (below_thenB HB5.out HB5.out.size b6); have HCL := Lib.hid hcl; clear hcl b6)
   | ((with_reducible show OpW 10); refine wpList_alloc _ rfl 33 rfl siZ siZero ?_; intro w7 a1 a2 a3; have HY7 := Lib.hid a1; have HB7 := Lib.hid (below_thenB HB6.out HB6.out.size a2); have HX7 := Lib.hid (below_thenB HX6.out HX6.out.size a2); have HCL7 := Lib.hid (HCL.out.kept a2); have HZ7 := Lib.hid a3; clear a1 a2 a3)
   | ((with_reducible show OpN); refine wpList_storev _ rfl 33 (.tmp 10) (.tmp 49) rfl 7 (by kernel_rfl) w6.heap.size 0 _ siZ (siC b0 k0 d0 b1 k1 d1 b2 k2 d2 b3 k3 d3 b4 k4 d4 b5 k5 d5 x.pct) rfl rfl HY7.out rfl (one_si _ _ _ _ _ _ _ _ _ _ _ _ _ _ _ _ _ _ _) (by decide) ?_; intro w8 a1 a2 a3; have HY8 : Hid (BL w8 w6.heap.size 33 (siC b0 k0 d0 b1 k1 d1 b2 k2 d2 b3 k3 d3 b4 k4 d4 b5 k5 d5 x.pct)) := Lib.hid a1; have HK8 := Lib.hid a2; have HCL8 := Lib.hid (HCL7.out.put a2 HY7.out); have HR8 := Lib.hid (a2.bl (HR4.out.kept HX7.out) (by have h1 := HR4.out.lt; have h2 := HX6.out.size; omega)); have t0 := (a2.bl (HT4.out.kept HX7.out) (by have h1 := HT4.out.lt; have h2 := HX6.out.size; omega)).get (j := 0) rfl; have y0 := HY8.out.get (j := 0) rfl; have HB8 : Hid (Below w.heap.size w w8) := Lib.hid (((Kp.of_below (S := fun _ => False) HB7.out).after a2 (fun i hi e => by have := HB6.out.size; omega)).below (Nat.le_refl _) (fun _ h => h.elim)); clear a1 a2 a3))
  refine Text.wp_region_text (fun w' => w'.cell? ⟨w6.heap.size, 0, none⟩ = some (.slice b0 k0 d0)) [(0, 4), (2, 4), (1, 0), (3, 2), (4, 2), (5, 4), (6, 3)] (by kernel_rfl) (by kernel_rfl) (fun _ _ _ _ _ h => h) (HY8.out.get (j := 0) rfl) ?_
  iterate 2 (refine Text.purek rfl rfl (fun K hK => ⟨_, fun w' => by go_simp <;> rfl, ?_⟩); go_simp; refine hK _ ?_; clear hK K)
  (refine Text.heldk rfl rfl (fun K hK => ⟨_, fun w' hw' => by go_simp <;> rfl, ?_⟩); go_simp; refine hK _ ?_; clear hK K)
  refine Text.eff rfl rfl (fun K hK => ?_)
  go_simp
  refine (copies_any _ _ _ made _ (HM.out.kept stay_sp HB8.out.drew)).mono ?_
  rintro e w9 ⟨C0, dc, rfl, oc, b9⟩
  have HX9 : Hid (Below w8.heap.size w8 w9) := Lib.hid (below_ofDrew b9)
  have HY9 := Lib.hid (HY8.out.kept HX9.out)
  have HCL9 := Lib.hid (HCL8.out.kept HX9.out)
  have HOC := Lib.hid oc
  refine hK _ _ (HY9.out.get (j := 0) rfl) ?_
  clear hK K oc b9
  refine Text.eff rfl rfl (fun K hK => ?_)
  obtain ⟨iS, i1, i2, i3, i4⟩ := info_some infoSp
  obtain ⟨css, h1, h2, h3, h4, h5⟩ := HCL9.out.sp
  obtain ⟨dss, k1', k2', k3', k4', k5'⟩ := HOC.out
  have hlen : x.sp.length = k0 := slen HCL9.out.sp
  have hlen2 : made.length = l := slen HOC.out
  rw [hlen] at h4
  rw [hlen2] at k4'
  refine wp_appX _ (.tmp 82) (.tmp 84) 22 61 6 iS _ rfl Try.underlying22 i1 i2 i3 rfl _ k0 _ rfl h4 _ l _ rfl (k4'.src Try.underlying22 (css_one k1' k3' ones_spT)) (by rw [i4]; have := HBG.out; have := HMB.out; omega) (by have := HBG.out; have := HMB.out; omega) ?_
  intro v' wa ap
  obtain ⟨A', c', e', _⟩ := ap.row.form
  subst e'
  have hstab : ∀ cs y, rSpT w9 cs y → rSpT wa cs y := fun cs y h => h.kp ap.kp (fun i hi e => by obtain ⟨cs', hb⟩ := h4.ty e; exact ⟨_, _, hb, by decide⟩)
  have hsp : OT rSpT 6 61 w.heap.size wa (.slice A' (k0 + l) c') (x.sp ++ made) := OT.app h1 h2 (fun k h h' => hstab _ _ (h3 k h h')) (fun b hb => Nat.le_trans HB5.out.size (h5 b hb)) hlen k1' k2' (fun k h h' => hstab _ _ (k3' k h h')) hlen2 (Nat.le_trans HB8.out.size HX9.out.size) ap
  have HCLa := Lib.hid (ClO.setSp (base := w.heap.size) ⟨HCL9.out.sp.base HB5.out.size, HCL9.out.need.base HB5.out.size, HCL9.out.cond.base HB5.out.size, HCL9.out.drop.base HB5.out.size, HCL9.out.carr.base HB5.out.size, HCL9.out.held.base HB5.out.size⟩ ap.kp hsp)
  have HYa := Lib.hid (ap.kp.bl HY9.out (fun e => (HCL9.out.sp.ne_bl HY9.out (by decide)) _ e rfl))
  have HRa := Lib.hid (ap.kp.bl (HR8.out.kept HX9.out) (fun e => (HCL9.out.sp.ne_bl (HR8.out.kept HX9.out) (by decide)) _ e rfl))
  have HBa : Hid (Below w.heap.size w wa) := Lib.hid (((Kp.of_below (S := fun _ => False) (below_thenB HB8.out HB8.out.size HX9.out)).after ap.kp (fun i hi e => by have := HCL9.out.sp.own i e; have := HB5.out.size; omega)).below (Nat.le_refl _) (fun _ h => h.elim))
  refine hK _ _ (HYa.out.get (j := 0) rfl) ?_
  clear hK K i1 i2 i3 i4 h1 h2 h3 h4 h5 k1' k2' k3' k4' k5' hstab hsp ap
  (refine Text.purek rfl rfl (fun K hK => ⟨_, fun w' => by go_simp <;> rfl, ?_⟩); go_simp; refine hK _ ?_; clear hK K)
  refine Text.last rfl rfl (fun K hK => ?_)
  refine wp_store1 _ 22 (.tmp 86) (.tmp 85) rfl (slSz _ (by kernel_rfl) _) w6.heap.size 0 _ _ (.slice A' (k0 + l) c') rfl rfl HYa.out rfl rfl (by simp) ?_
  intro wb g1 g2 g3
  have HYb : Hid (BL wb w6.heap.size 33 (siC A' (k0 + l) c' b1 k1 d1 b2 k2 d2 b3 k3 d3 b4 k4 d4 b5 k5 d5 x.pct)) := Lib.hid g1
  have HCLb := Lib.hid (HCLa.out.put g2 HYa.out)
  have HRb := Lib.hid (g2.bl HRa.out (by have h1 := HR4.out.lt; have h2 := HX6.out.size; omega))
  have HBb : Hid (Below w.heap.size w wb) := Lib.hid (((Kp.of_below (S := fun _ => False) HBa.out).after g2 (fun i hi e => by have := HB6.out.size; omega)).below (Nat.le_refl _) (fun _ h => h.elim))
  clear g1 g2 g3
  refine hK _ _ ?_
  clear hK K
  refine Text.done ?_
  go_wp2_with (first
   | ((with_reducible show OpW 102); refine wpList_loadv _ rfl 33 (.tmp 10) rfl 7 (by kernel_rfl) w6.heap.size 0 _ rfl (BL.all HYb.out) rfl ?_)
   | ((with_reducible show OpN); refine wpList_storev _ rfl 33 (.tmp 6) (.tmp 102) rfl 7 (by kernel_rfl) w2.heap.size 0 _ siZ (siC A' (k0 + l) c' b1 k1 d1 b2 k2 d2 b3 k3 d3 b4 k4 d4 b5 k5 d5 x.pct) rfl rfl HRb.out rfl (one_si _ _ _ _ _ _ _ _ _ _ _ _ _ _ _ _ _ _ _) (by decide) ?_; intro wc a1 a2 a3; have HRc : Hid (BL wc w2.heap.size 33 (siC A' (k0 + l) c' b1 k1 d1 b2 k2 d2 b3 k3 d3 b4 k4 d4 b5 k5 d5 x.pct)) := Lib.hid a1; have HCLc := Lib.hid (HCLb.out.put a2 HRb.out); have HBc : Hid (Below w.heap.size w wc) := Lib.hid (((Kp.of_below (S := fun _ => False) HBb.out).after a2 (fun i hi e => by have := HB2.out.size; omega)).below (Nat.le_refl _) (fun _ h => h.elim)); clear a1 a2 a3))
  (try simp only [Exit.inBlock, Exit.then])
  have hls : Lims { x with sp := x.sp ++ made } := by
   have h9 := H.out.lims
   exact ⟨by have := HBG.out; have := HMB.out; unfold lim; simp only [List.length_append]; omega, h9.need, h9.cond, h9.drop, h9.carr, h9.held⟩
  refine bodyPost_ret (results_at2 wc Try.results18 (n := 7) (by kernel_rfl) (g := w2.heap.size) (o := 0) rfl (ms := siC A' (k0 + l) c' b1 k1 d1 b2 k2 d2 b3 k3 d3 b4 k4 d4 b5 k5 d5 x.pct) (BL.all HRc.out) rfl) rfl ⟨_, rfl, ⟨_, _, _, _, _, _, _, _, _, _, _, _, _, _, _, _, _, _, rfl, HCLc.out.si hls H.out.pct⟩, HBc.out⟩
end Go.Proofs.Ytboglaokdgnpaaa
