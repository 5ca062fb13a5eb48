/- Several texts in one: Wu, Wn, Wv. -/
import Derived.Test.YtboglaokdgnpaaaB3
import Derived.Test.YtboglaokdgnpaaaA27
import Derived.Test.YtboglaokdgnpaaaA11
import Derived.Test.YtboglaokdgnpaaaA15
/- The reference's After: a kind that is none; a deletion. -/
namespace Go.Proofs.Ytboglaokdgnpaaa
open Go Go.RowKit Gf Sha

theorem bldSiq0 (w : World) : (Instr.build 26 #[]).run Try.prog w = .ok (.agg siZ.toArray) w := by kernel_rfl
theorem one_siZ : ∀ v ∈ siZ, v.oneCell' = true := one_val _ rfl
theorem rSi_zero (w : World) : rSi w siZ siE := ⟨none, 0, 0, none, 0, 0, none, 0, 0, none, 0, 0, none, 0, 0, none, 0, 0, rfl, ⟨LS.nil, LS.nil, LS.nil, LS.nil, LS.nil, LS.nil, by rfl⟩⟩
theorem bslPcQ (p : Pc) (w : World) : (Instr.buildSlice 24 1 #[(0, .agg (pcL p).toArray)]).run Try.prog w = .ok (.slice (some ⟨w.heap.size, 0, none⟩) 1 1) (w.alloc (.cells (pcL p).toArray 39)) := by kernel_rfl
set_option maxRecDepth 100000 in
set_option maxHeartbeats 4000000 in
theorem rafter_bad (cx : List Value) (y : Si) (w : World) (hx : rSi w cx y) (cs : List Value) (s : Stp) (hs : rStp w cs s) (B : Option Addr) (l d : Nat) (hk : (decide (s.kind < 1) || decide (4 < s.kind)) = true ∨ (decide (s.kind < 1) = false ∧ decide (4 < s.kind) = false ∧ (s.kind != 1) = true ∧ decide (0 < l) = true)) :
  Calls Try.prog 22 #[.agg cx.toArray, .agg cs.toArray, .slice B l d] w (AfterR siE 1 w) := by
 obtain ⟨a0, n0, c0, a1, n1, c1, a2, n2, c2, a3, n3, c3, a4, n4, c4, a5, n5, c5, rfl, hq⟩ := hx
 obtain ⟨B0, p0, d0, B1, p1, d1, rfl, _⟩ := hs
 clear hq
 cases f1 : decide (s.kind < 1) with
 | true =>
  clear hk
  go_enter Try.func22, Try.ntmps22
  go_wp2_with (first
   | ((with_reducible show OpW 3); refine wpList_box _ rfl 26 (.tmp 0) rfl (siC a0 n0 c0 a1 n1 c1 a2 n2 c2 a3 n3 c3 a4 n4 c4 a5 n5 c5 y.pct) rfl ?_; intro w1 y1 y2 y3; have HB1 := Lib.hid y2; have HS1 := Lib.hid y1; clear y1 y2 y3)
   | ((with_reducible show OpW 4); refine wpList_box _ rfl 42 (.tmp 1) rfl (stC s B0 p0 d0 B1 p1 d1) rfl ?_; intro w2 y1 y2 y3; have HT2 := Lib.hid y1; have HB2 := Lib.hid (below_then HB1.out y2); have HS2 := Lib.hid (HS1.out.kept y2); clear y1 y2 y3)
   | ((with_reducible show OpW 6); refine wpList_alloc _ rfl 26 rfl siZ siqZero ?_; intro w3 y1 y2 y3; have HR3 := Lib.hid y1; have HB3 := Lib.hid (below_then HB2.out y2); have HS3 := Lib.hid (HS2.out.kept y2); have HT3 := Lib.hid (HT2.out.kept y2); have HG := Lib.hid HB2.out.size; have HL1 := Lib.hid HS1.out.lt; have HL2 := Lib.hid HT2.out.lt; have t0 := (HT2.out.kept y2).get (j := 0) rfl; have t1 := (HT2.out.kept y2).get (j := 1) rfl; clear y1 y2 y3)
   | ((with_reducible show OpW 38); refine wpList_build _ rfl 26 #[] rfl #[] (by rfl) (.agg siZ.toArray) (bldSiq0 _) ?_)
   | ((with_reducible show OpN); refine wpList_storev _ rfl 26 (.tmp 6) (.tmp 38) rfl 7 (by kernel_rfl) w2.heap.size 0 _ siZ siZ rfl rfl HR3.out rfl one_siZ (by decide) ?_; intro w9 y1 y2 y3; have HT9 : Hid (BL w9 w2.heap.size 26 siZ) := Lib.hid y1; have HK9 := Lib.hid y2; clear y1 y2 y3)
   | fail)
  (try simp only [Exit.inBlock, Exit.then])
  exact bodyPost_ret (results_at2 w9 Try.results22 (n := 7) (by kernel_rfl) (g := w2.heap.size) (o := 0) rfl (ms := siZ) (BL.all HT9.out) rfl) rfl ⟨_, rfl, rSi_zero _, ((Kp.of_below (S := fun _ => False) HB3.out).after HK9.out (fun i hi e => by have := HG.out; omega)).below (Nat.le_refl _) (fun _ h => h.elim)⟩
 | false =>
  cases f2 : decide (4 < s.kind) with
  | true =>
   clear hk
   go_enter Try.func22, Try.ntmps22
   go_wp2_with (first
    | ((with_reducible show OpW 3); refine wpList_box _ rfl 26 (.tmp 0) rfl (siC a0 n0 c0 a1 n1 c1 a2 n2 c2 a3 n3 c3 a4 n4 c4 a5 n5 c5 y.pct) rfl ?_; intro w1 y1 y2 y3; have HB1 := Lib.hid y2; have HS1 := Lib.hid y1; clear y1 y2 y3)
    | ((with_reducible show OpW 4); refine wpList_box _ rfl 42 (.tmp 1) rfl (stC s B0 p0 d0 B1 p1 d1) rfl ?_; intro w2 y1 y2 y3; have HT2 := Lib.hid y1; have HB2 := Lib.hid (below_then HB1.out y2); have HS2 := Lib.hid (HS1.out.kept y2); clear y1 y2 y3)
    | ((with_reducible show OpW 6); refine wpList_alloc _ rfl 26 rfl siZ siqZero ?_; intro w3 y1 y2 y3; have HR3 := Lib.hid y1; have HB3 := Lib.hid (below_then HB2.out y2); have HS3 := Lib.hid (HS2.out.kept y2); have HT3 := Lib.hid (HT2.out.kept y2); have HG := Lib.hid HB2.out.size; have HL1 := Lib.hid HS1.out.lt; have HL2 := Lib.hid HT2.out.lt; have t0 := (HT2.out.kept y2).get (j := 0) rfl; have t1 := (HT2.out.kept y2).get (j := 1) rfl; clear y1 y2 y3)
    | ((with_reducible show OpW 38); refine wpList_build _ rfl 26 #[] rfl #[] (by rfl) (.agg siZ.toArray) (bldSiq0 _) ?_)
    | ((with_reducible show OpN); refine wpList_storev _ rfl 26 (.tmp 6) (.tmp 38) rfl 7 (by kernel_rfl) w2.heap.size 0 _ siZ siZ rfl rfl HR3.out rfl one_siZ (by decide) ?_; intro w9 y1 y2 y3; have HT9 : Hid (BL w9 w2.heap.size 26 siZ) := Lib.hid y1; have HK9 := Lib.hid y2; clear y1 y2 y3)
    | fail)
   (try simp only [Exit.inBlock, Exit.then])
   exact bodyPost_ret (results_at2 w9 Try.results22 (n := 7) (by kernel_rfl) (g := w2.heap.size) (o := 0) rfl (ms := siZ) (BL.all HT9.out) rfl) rfl ⟨_, rfl, rSi_zero _, ((Kp.of_below (S := fun _ => False) HB3.out).after HK9.out (fun i hi e => by have := HG.out; omega)).below (Nat.le_refl _) (fun _ h => h.elim)⟩
  | false =>
   have f3 : (s.kind != 1) = true := by
    rcases hk with h | h
    ·
     rw [f1, f2] at h; cases h
    ·
     exact h.2.2.1
   have f7 : decide (0 < l) = true := by
    rcases hk with h | h
    ·
     rw [f1, f2] at h; cases h
    ·
     exact h.2.2.2
   clear hk
   go_enter Try.func22, Try.ntmps22
   go_wp2_with (first
    | ((with_reducible show OpW 3); refine wpList_box _ rfl 26 (.tmp 0) rfl (siC a0 n0 c0 a1 n1 c1 a2 n2 c2 a3 n3 c3 a4 n4 c4 a5 n5 c5 y.pct) rfl ?_; intro w1 y1 y2 y3; have HB1 := Lib.hid y2; have HS1 := Lib.hid y1; clear y1 y2 y3)
    | ((with_reducible show OpW 4); refine wpList_box _ rfl 42 (.tmp 1) rfl (stC s B0 p0 d0 B1 p1 d1) rfl ?_; intro w2 y1 y2 y3; have HT2 := Lib.hid y1; have HB2 := Lib.hid (below_then HB1.out y2); have HS2 := Lib.hid (HS1.out.kept y2); clear y1 y2 y3)
    | ((with_reducible show OpW 6); refine wpList_alloc _ rfl 26 rfl siZ siqZero ?_; intro w3 y1 y2 y3; have HR3 := Lib.hid y1; have HB3 := Lib.hid (below_then HB2.out y2); have HS3 := Lib.hid (HS2.out.kept y2); have HT3 := Lib.hid (HT2.out.kept y2); have HG := Lib.hid HB2.out.size; have HL1 := Lib.hid HS1.out.lt; have HL2 := Lib.hid HT2.out.lt; have t0 := (HT2.out.kept y2).get (j := 0) rfl; have t1 := (HT2.out.kept y2).get (j := 1) rfl; clear y1 y2 y3)
    | ((with_reducible show OpW 38); refine wpList_build _ rfl 26 #[] rfl #[] (by rfl) (.agg siZ.toArray) (bldSiq0 _) ?_)
    | ((with_reducible show OpN); refine wpList_storev _ rfl 26 (.tmp 6) (.tmp 38) rfl 7 (by kernel_rfl) w2.heap.size 0 _ siZ siZ rfl rfl HR3.out rfl one_siZ (by decide) ?_; intro w9 y1 y2 y3; have HT9 : Hid (BL w9 w2.heap.size 26 siZ) := Lib.hid y1; have HK9 := Lib.hid y2; clear y1 y2 y3)
    | fail)
   (try simp only [Exit.inBlock, Exit.then])
   exact bodyPost_ret (results_at2 w9 Try.results22 (n := 7) (by kernel_rfl) (g := w2.heap.size) (o := 0) rfl (ms := siZ) (BL.all HT9.out) rfl) rfl ⟨_, rfl, rSi_zero _, ((Kp.of_below (S := fun _ => False) HB3.out).after HK9.out (fun i hi e => by have := HG.out; omega)).below (Nat.le_refl _) (fun _ h => h.elim)⟩
set_option maxRecDepth 100000 in
set_option maxHeartbeats 4000000 in
theorem rafter3_no (cx : List Value) (y : Si) (w : World) (hx : rSi w cx y) (cs : List Value) (s : Stp) (hs : rStp w cs s) (B : Option Addr) (l d : Nat) (hk : s.kind = 3) (hl : l = 0) (h1 : heldB y s.pc = false) :
  Calls Try.prog 22 #[.agg cx.toArray, .agg cs.toArray, .slice B l d] w (AfterR siE 4 w) := by
 obtain ⟨a0, n0, c0, a1, n1, c1, a2, n2, c2, a3, n3, c3, a4, n4, c4, a5, n5, c5, rfl, hq⟩ := hx
 obtain ⟨B0, p0, d0, B1, p1, d1, rfl, _⟩ := hs
 have HQ := Lib.hid hq
 have f1 : decide (s.kind < 1) = false := by rw [hk]; rfl
 have f2 : decide (4 < s.kind) = false := by rw [hk]; rfl
 have f3 : (s.kind != 1) = true := by rw [hk]; rfl
 have f4 : (s.kind == 3) = true := by rw [hk]; rfl
 subst hl
 clear hq hk
 go_enter Try.func22, Try.ntmps22
 go_wp2_with (first
  | ((with_reducible show OpW 3); refine wpList_box _ rfl 26 (.tmp 0) rfl (siC a0 n0 c0 a1 n1 c1 a2 n2 c2 a3 n3 c3 a4 n4 c4 a5 n5 c5 y.pct) rfl ?_; intro w1 y1 y2 y3; have HB1 := Lib.hid y2; have HS1 := Lib.hid y1; clear y1 y2 y3)
  | ((with_reducible show OpW 4); refine wpList_box _ rfl 42 (.tmp 1) rfl (stC s B0 p0 d0 B1 p1 d1) rfl ?_; intro w2 y1 y2 y3; have HT2 := Lib.hid y1; have HB2 := Lib.hid (below_then HB1.out y2); have HS2 := Lib.hid (HS1.out.kept y2); clear y1 y2 y3)
  | ((with_reducible show OpW 6); refine wpList_alloc _ rfl 26 rfl siZ siqZero ?_; intro w3 y1 y2 y3; have HR3 := Lib.hid y1; have HB3 := Lib.hid (below_then HB2.out y2); have HS3 := Lib.hid (HS2.out.kept y2); have HT3 := Lib.hid (HT2.out.kept y2); have HG := Lib.hid HB2.out.size; have HL1 := Lib.hid HS1.out.lt; have HL2 := Lib.hid HT2.out.lt; have t0 := (HT2.out.kept y2).get (j := 0) rfl; have t1 := (HT2.out.kept y2).get (j := 1) rfl; clear y1 y2 y3)
  | ((with_reducible show OpW 42); refine wpList_loadv _ rfl 26 (.tmp 3) rfl 7 (by kernel_rfl) w.heap.size 0 _ rfl (BL.all HS3.out) rfl ?_)
  | ((with_reducible show OpW 44); refine wpList_loadv _ rfl 39 (.tmp 43) rfl 2 (by kernel_rfl) w1.heap.size 2 (pcL s.pc) (by go_simp) (at_two (BL.all HT3.out)) rfl ?_)
  | (go_at_call 64; refine (isheld_any _ y s.pc _ (show rSi w3 _ _ from ⟨a0, n0, c0, a1, n1, c1, a2, n2, c2, a3, n3, c3, a4, n4, c4, a5, n5, c5, rfl, HQ.out.kept HB3.out⟩)).mono ?_; rintro e wh ⟨rfl, b4⟩; rw [h1]; have HBh := Lib.hid (below_thenB HB3.out HB3.out.size b4); have HRh := Lib.hid (HR3.out.kept b4); have HSh := Lib.hid (HS3.out.kept b4); have HTh := Lib.hid (HT3.out.kept b4); have s5 := (HS3.out.kept b4).get (j := 5) rfl; clear b4)
  | ((with_reducible show OpW 47); refine wpList_build _ rfl 26 #[] rfl #[] (by rfl) (.agg siZ.toArray) (bldSiq0 _) ?_)
  | ((with_reducible show OpN); refine wpList_storev _ rfl 26 (.tmp 6) (.tmp 47) rfl 7 (by kernel_rfl) w2.heap.size 0 _ siZ siZ rfl rfl HRh.out rfl one_siZ (by decide) ?_; intro w9 y1 y2 y3; have HT9 : Hid (BL w9 w2.heap.size 26 siZ) := Lib.hid y1; have HK9 := Lib.hid y2; clear y1 y2 y3)
  | fail)
 (try simp only [Exit.inBlock, Exit.then])
 exact bodyPost_ret (results_at2 w9 Try.results22 (n := 7) (by kernel_rfl) (g := w2.heap.size) (o := 0) rfl (ms := siZ) (BL.all HT9.out) rfl) rfl ⟨_, rfl, rSi_zero _, ((Kp.of_below (S := fun _ => False) HBh.out).after HK9.out (fun i hi e => by have := HG.out; omega)).below (Nat.le_refl _) (fun _ h => h.elim)⟩
set_option maxRecDepth 100000 in
set_option maxHeartbeats 8000000 in
theorem rafter3 (cx : List Value) (y : Si) (w : World) (hx : rSi w cx y) (cs : List Value) (s : Stp) (hs : rStp w cs s) (B : Option Addr) (l d : Nat) (hk : s.kind = 3) (hl : l = 0) (h1 : heldB y s.pc = true) :
  Calls Try.prog 22 #[.agg cx.toArray, .agg cs.toArray, .slice B l d] w (AfterR (dropHeld y s.pc) 0 w) := by
 obtain ⟨a0, n0, c0, a1, n1, c1, a2, n2, c2, a3, n3, c3, a4, n4, c4, a5, n5, c5, rfl, hq⟩ := hx
 obtain ⟨B0, p0, d0, B1, p1, d1, rfl, _⟩ := hs
 have hn := hq.held.len_le
 have HQ := Lib.hid hq
 have HL := Lib.hid hq.held.1
 have HLL := Lib.hid hq.held.2.2.1
 have f1 : decide (s.kind < 1) = false := by rw [hk]; rfl
 have f2 : decide (4 < s.kind) = false := by rw [hk]; rfl
 have f3 : (s.kind != 1) = true := by rw [hk]; rfl
 have f4 : (s.kind == 3) = true := by rw [hk]; rfl
 subst hl
 clear hq hk
 go_enter Try.func22, Try.ntmps22
 go_wp2_with (first
  | ((with_reducible show OpW 3); refine wpList_box _ rfl 26 (.tmp 0) rfl (siC a0 n0 c0 a1 n1 c1 a2 n2 c2 a3 n3 c3 a4 n4 c4 a5 n5 c5 y.pct) rfl ?_; intro w1 y1 y2 y3; have HB1 := Lib.hid y2; have HS1 := Lib.hid y1; clear y1 y2 y3)
  | ((with_reducible show OpW 4); refine wpList_box _ rfl 42 (.tmp 1) rfl (stC s B0 p0 d0 B1 p1 d1) rfl ?_; intro w2 y1 y2 y3; have HT2 := Lib.hid y1; have HB2 := Lib.hid (below_then HB1.out y2); have HS2 := Lib.hid (HS1.out.kept y2); clear y1 y2 y3)
  | ((with_reducible show OpW 6); refine wpList_alloc _ rfl 26 rfl siZ siqZero ?_; intro w3 y1 y2 y3; have HR3 := Lib.hid y1; have HB3 := Lib.hid (below_then HB2.out y2); have HS3 := Lib.hid (HS2.out.kept y2); have HT3 := Lib.hid (HT2.out.kept y2); have HG := Lib.hid HB2.out.size; have HL1 := Lib.hid HS1.out.lt; have HL2 := Lib.hid HT2.out.lt; have t0 := (HT2.out.kept y2).get (j := 0) rfl; have t1 := (HT2.out.kept y2).get (j := 1) rfl; clear y1 y2 y3)
  | ((with_reducible show OpW 42); refine wpList_loadv _ rfl 26 (.tmp 3) rfl 7 (by kernel_rfl) w.heap.size 0 _ rfl (BL.all HS3.out) rfl ?_)
  | ((with_reducible show OpW 44); refine wpList_loadv _ rfl 39 (.tmp 43) rfl 2 (by kernel_rfl) w1.heap.size 2 (pcL s.pc) (by go_simp) (at_two (BL.all HT3.out)) rfl ?_)
  | (go_at_call 64; refine (isheld_any _ y s.pc _ (show rSi w3 _ _ from ⟨a0, n0, c0, a1, n1, c1, a2, n2, c2, a3, n3, c3, a4, n4, c4, a5, n5, c5, rfl, HQ.out.kept HB3.out⟩)).mono ?_; rintro e wh ⟨rfl, b4⟩; rw [h1]; have HBh := Lib.hid (below_thenB HB3.out HB3.out.size b4); have HRh := Lib.hid (HR3.out.kept b4); have HSh := Lib.hid (HS3.out.kept b4); have HTh := Lib.hid (HT3.out.kept b4); have s5 := (HS3.out.kept b4).get (j := 5) rfl; clear b4)
  | fail)
 clear s5 t0 t1
 go_loopw [8, 51] (fun v iv wr => ∃ k : Nat, k ≤ n5 ∧ iv = .int .i64 (k : Int) ∧ Hid (OL rPc 2 39 wh wr v ((y.held.take k).filter fun q => !decide (q = s.pc))) ∧ Hid (Below wh.heap.size wh wr)) (fun _ iv _ => n5 - (intOf iv).toNat)
 case atStart => exact ⟨0, by omega, rfl, Lib.hid (OL.nil _ _ _ _ _), Lib.hid (Below.refl _ _)⟩
 case round =>
  obtain ⟨k, hk, rfl, ho, hb⟩ := hrel
  obtain ⟨wx, hwx⟩ : ∃ x, x = wr := ⟨_, rfl⟩
  rw [← hwx] at ho hb ⊢
  clear hwx
  have HBx := Lib.hid (below_thenB HBh.out HBh.out.size hb.out)
  by_cases hlt : k < n5
  ·
   obtain ⟨q, g, o, cq, hq, ea, hat, rfl, hok⟩ := HQ.out.held.at_ stay_pc (Below.refl _ _) hlt
   have HX := Lib.hid hq
   have HOK := Lib.hid hok
   have HA := Lib.hid (hat.kept HBx.out)
   have HFL : Hid (((y.held.take k).filter fun q => !decide (q = s.pc)).length ≤ k) := Lib.hid (Nat.le_trans (List.length_filter_le _ _) (by rw [List.length_take]; omega))
   subst ea
   clear hq hat hok
   by_cases he : q = s.pc
   ·
    have HF : Hid (((y.held.take (k + 1)).filter fun q => !decide (q = s.pc)) = (y.held.take k).filter fun q => !decide (q = s.pc)) := Lib.hid (by rw [filt_step HX.out]; simp [he])
    have er : ∀ w, (Op.equalIn 10000 39 (.agg (pcL q).toArray) (.agg (pcL s.pc).toArray)).run Try.prog w = .ok true w := fun w => by rw [eqIn_pc, decide_eq_true he]
    clear he
    have HTx := Lib.hid (HTh.out.kept hb.out)
    go_wp2_with (first
     | ((with_reducible show OpW 54); refine wpList_loadv _ rfl 39 (.tmp 53) rfl 2 (by kernel_rfl) g (o + k * 2) (pcL q) (by go_simp) HA.out rfl ?_)
     | ((with_reducible show OpW 10); refine wpList_alloc _ rfl 39 rfl pcZ pcZero ?_; intro w3 a1 a2 a3; have HV3 := Lib.hid a1; have HX3 := Lib.hid a2; clear a1 a2 a3)
     | ((with_reducible show OpN); refine wpList_storev _ rfl 39 (.tmp 10) (.tmp 54) rfl 2 (by kernel_rfl) wx.heap.size 0 _ pcZ (pcL q) rfl rfl HV3.out rfl (one_pc q) (by decide) ?_; intro w4 a1 a2 a3; have HV4 : Hid (BL w4 wx.heap.size 39 (pcL q)) := Lib.hid a1; have HX4 : Hid (Below wx.heap.size wx w4) := Lib.hid (((Kp.of_below (S := fun _ => False) HX3.out).after a2 (fun i hi e => by omega)).below (Nat.le_refl _) (fun _ h => h.elim)); clear a1 a2 a3)
     | ((with_reducible show OpW 55); refine wpList_loadv _ rfl 39 (.tmp 10) rfl 2 (by kernel_rfl) wx.heap.size 0 (pcL q) rfl (BL.all HV4.out) rfl ?_)
     | ((with_reducible show OpW 57); refine wpList_loadv _ rfl 39 (.tmp 56) rfl 2 (by kernel_rfl) w1.heap.size 2 (pcL s.pc) (by go_simp) (at_two (BL.all (HTx.out.kept HX4.out))) rfl ?_)
     )
    go_roundw
    case rel => exact ⟨k + 1, by omega, by go_num, Lib.hid (by rw [HF.out]; exact ho.out.kept HX4.out), Lib.hid (below_thenB hb.out hb.out.size HX4.out)⟩
    case measure => simp [intOf]; omega
   ·
    have HF : Hid (((y.held.take (k + 1)).filter fun q => !decide (q = s.pc)) = ((y.held.take k).filter fun q => !decide (q = s.pc)) ++ [q]) := Lib.hid (by rw [filt_step HX.out]; simp [he])
    have er : ∀ w, (Op.equalIn 10000 39 (.agg (pcL q).toArray) (.agg (pcL s.pc).toArray)).run Try.prog w = .ok false w := fun w => by rw [eqIn_pc, decide_eq_false he]
    clear he
    obtain ⟨nf, hnf⟩ : ∃ nf, ((y.held.take k).filter fun q => !decide (q = s.pc)).length = nf := ⟨_, rfl⟩
    obtain ⟨css, hc1, hc2, hc3, hc4, hc5⟩ := ho.out
    rw [hnf] at hc4
    have HNF : Hid (nf ≤ k) := Lib.hid (by rw [← hnf]; exact HFL.out)
    have HN := Lib.hid hnf
    have HC1 := Lib.hid hc1
    have HC2 := Lib.hid hc2
    have HC3 := Lib.hid hc3
    have HC4 := Lib.hid hc4
    have HC5 := Lib.hid hc5
    clear hnf hc1 hc2 hc3 hc4 hc5
    have HTx := Lib.hid (HTh.out.kept hb.out)
    go_wp2_with (first
     | ((with_reducible show OpW 54); refine wpList_loadv _ rfl 39 (.tmp 53) rfl 2 (by kernel_rfl) g (o + k * 2) (pcL q) (by go_simp) HA.out rfl ?_)
     | ((with_reducible show OpW 10); refine wpList_alloc _ rfl 39 rfl pcZ pcZero ?_; intro w3 a1 a2 a3; have HV3 := Lib.hid a1; have HX3 := Lib.hid a2; clear a1 a2 a3)
     | ((with_reducible show OpN); refine wpList_storev _ rfl 39 (.tmp 10) (.tmp 54) rfl 2 (by kernel_rfl) wx.heap.size 0 _ pcZ (pcL q) rfl rfl HV3.out rfl (one_pc q) (by decide) ?_; intro w4 a1 a2 a3; have HV4 : Hid (BL w4 wx.heap.size 39 (pcL q)) := Lib.hid a1; have HX4 : Hid (Below wx.heap.size wx w4) := Lib.hid (((Kp.of_below (S := fun _ => False) HX3.out).after a2 (fun i hi e => by omega)).below (Nat.le_refl _) (fun _ h => h.elim)); clear a1 a2 a3)
     | ((with_reducible show OpW 55); refine wpList_loadv _ rfl 39 (.tmp 10) rfl 2 (by kernel_rfl) wx.heap.size 0 (pcL q) rfl (BL.all HV4.out) rfl ?_)
     | ((with_reducible show OpW 57); refine wpList_loadv _ rfl 39 (.tmp 56) rfl 2 (by kernel_rfl) w1.heap.size 2 (pcL s.pc) (by go_simp) (at_two (BL.all (HTx.out.kept HX4.out))) rfl ?_)
     | ((with_reducible show OpW 60); refine wpList_loadv _ rfl 39 (.tmp 10) rfl 2 (by kernel_rfl) wx.heap.size 0 (pcL q) rfl (BL.all HV4.out) rfl ?_) | ((with_reducible show OpW 61); refine wpList_bslice _ rfl 24 39 1 _ rfl #[(0, .agg (pcL q).toArray)] (by rw [List.map_toArray]; rfl) (pcL q) (bslPcQ q _) ?_; intro w5 a1 a2 a3; have HG5 := Lib.hid a1; have HX5 := Lib.hid (below_thenB HX4.out HX4.out.size a2); clear a1 a2 a3) | ((with_reducible show OpW 62); obtain ⟨iS, i1, i2, i3, i4⟩ := info_some infoPc; refine wpList_appRW _ rfl (.tmp 59) (.tmp 61) 24 39 2 iS _ rfl Try.underlying24 i1 i2 i3 rfl _ nf _ rfl (HC4.out.kept HX5.out) w4.heap.size _ rfl HG5.out rfl (one_pc q) (by rw [i4]; have := HNF.out; omega) (by have := HNF.out; omega) ?_; intro v' w6 a1; have HR6 := Lib.hid a1; clear a1 i1 i2 i3 i4))
    have HY5 : Hid (Below wh.heap.size wh w5) := Lib.hid (below_thenB hb.out hb.out.size HX5.out)
    have HY6 : Hid (Below wh.heap.size wh w6) := Lib.hid (((Kp.of_below (S := fun _ => False) HY5.out).after HR6.out.kp (fun i hi e => by have := HC5.out i e; omega)).below (Nat.le_refl _) (fun _ h => h.elim))
    have HO6 : Hid (OL rPc 2 39 wh w6 v' ((y.held.take (k + 1)).filter fun q => !decide (q = s.pc))) := Lib.hid (by
     rw [HF.out]
     exact OL.push HC1.out HC2.out HC3.out HC5.out HN.out rfl ⟨rfl, HOK.out⟩ HY5.out.size HR6.out)
    go_roundw
    case rel => exact ⟨k + 1, by omega, by go_num, HO6, HY6⟩
    case measure => simp [intOf]; omega
  ·
   obtain rfl : k = n5 := by omega
   have h9 := ho.out
   rw [take_end HL.out] at h9
   have HFL : Hid ((dropHeld y s.pc).held.length * 24 ≤ lim) := Lib.hid (Nat.le_trans (Nat.mul_le_mul_right _ (Nat.le_trans (List.length_filter_le _ _) (by rw [HL.out]; exact Nat.le_refl _))) HLL.out)
   obtain ⟨A9, c9, e9, l9⟩ := OL.ls (b := 24) (L := (dropHeld y s.pc).held) h9 stay_pc hb.out HFL.out
   have HL9 := Lib.hid l9
   subst e9
   obtain ⟨n9, hn9⟩ : ∃ n9, n9 = (dropHeld y s.pc).held.length := ⟨_, rfl⟩
   rw [← hn9] at HL9 ⊢
   clear hn9 h9 l9 ho HFL
   have HSx := Lib.hid (HSh.out.kept hb.out)
   have HRx := Lib.hid (HRh.out.kept hb.out)
   have HQx := Lib.hid (HQ.out.kept HBx.out)
   have HLT : Hid (w.heap.size < w2.heap.size) := Lib.hid (by have := HL1.out; have := HL2.out; omega)
   go_wp2_with (first
    | ((with_reducible show OpN); refine wpList_store1 _ rfl 24 (.tmp 65) (.tmp 64) rfl (slSz _ (by kernel_rfl) _) w.heap.size 5 _ _ (.slice A9 n9 c9) rfl rfl HSx.out rfl rfl (by simp) ?_; intro w7 y1 y2 y3; have HS7 : Hid (BL w7 w.heap.size 26 (siC a0 n0 c0 a1 n1 c1 a2 n2 c2 a3 n3 c3 a4 n4 c4 A9 n9 c9 y.pct)) := Lib.hid y1; have HK7 := Lib.hid y2; clear y1 y2 y3)
    | ((with_reducible show OpW 66); have HR7 := Lib.hid (HK7.out.bl HRx.out (fun e => by have := HLT.out; omega)); refine wpList_loadv _ rfl 26 (.tmp 3) rfl 7 (by kernel_rfl) w.heap.size 0 _ rfl (BL.all HS7.out) rfl ?_)
    | ((with_reducible show OpN); refine wpList_storev _ rfl 26 (.tmp 6) (.tmp 66) rfl 7 (by kernel_rfl) w2.heap.size 0 _ siZ (siC a0 n0 c0 a1 n1 c1 a2 n2 c2 a3 n3 c3 a4 n4 c4 A9 n9 c9 y.pct) rfl rfl HR7.out rfl (one_si _ _ _ _ _ _ _ _ _ _ _ _ _ _ _ _ _ _ _) (by decide) ?_; intro w8 y1 y2 y3; have HT8 : Hid (BL w8 w2.heap.size 26 (siC a0 n0 c0 a1 n1 c1 a2 n2 c2 a3 n3 c3 a4 n4 c4 A9 n9 c9 y.pct)) := Lib.hid y1; have HK8 := Lib.hid y2; clear y1 y2 y3))
   (try simp only [Exit.inBlock, Exit.then])
   have h5 : SiOk wx a0 n0 c0 a1 n1 c1 a2 n2 c2 a3 n3 c3 a4 n4 c4 A9 n9 c9 (dropHeld y s.pc) := ⟨HQx.out.sp, HQx.out.need, HQx.out.cond, HQx.out.drop, HQx.out.carr, HL9.out, HQx.out.pct⟩
   have h7 := (h5.put HK7.out HSx.out).put HK8.out HR7.out
   exact bodyPost_ret (results_at2 w8 Try.results22 (n := 7) (by kernel_rfl) (g := w2.heap.size) (o := 0) rfl (ms := siC a0 n0 c0 a1 n1 c1 a2 n2 c2 a3 n3 c3 a4 n4 c4 A9 n9 c9 y.pct) (BL.all HT8.out) rfl) rfl ⟨_, rfl, ⟨_, _, _, _, _, _, _, _, _, _, _, _, _, _, _, _, _, _, rfl, h7⟩, (((Kp.of_below (S := fun _ => False) HBx.out).after HK7.out (fun i hi e => by omega)).after HK8.out (fun i hi e => by have := HG.out; omega)).below (Nat.le_refl _) (fun _ h => h.elim)⟩
end Go.Proofs.Ytboglaokdgnpaaa
/- The reference's IsSafe for a forgetting and a proposal. -/
namespace Go.Proofs.Ytboglaokdgnpaaa
open Go Go.RowKit Gf Sha

end Go.Proofs.Ytboglaokdgnpaaa
/- The reference's After: a proposal, a forgetting. -/
namespace Go.Proofs.Ytboglaokdgnpaaa
open Go Go.RowKit Gf Sha

theorem bslSpQ (s : Sp) (A : Option Addr) (n c : Nat) (w : World) : (Instr.buildSlice 22 1 #[(0, .agg (spC s A n c).toArray)]).run Try.prog w = .ok (.slice (some ⟨w.heap.size, 0, none⟩) 1 1) (w.alloc (.cells (spC s A n c).toArray 61)) := by kernel_rfl
/-- The stripes of a step are there; they are dropped. -/
def okAll (y : Si) (s : Stp) : Bool := s.sts.all fun id => (findS y id).isSome
def okDrop (y : Si) (s : Stp) : Bool := s.sts.all (hasB y.drop)
set_option maxRecDepth 100000 in
set_option maxHeartbeats 4000000 in
theorem rafter24_no (cx : List Value) (y : Si) (w : World) (hx : rSi w cx y) (cs : List Value) (s : Stp) (hs : rStp w cs s) (B : Option Addr) (l d : Nat) (hk : s.kind = 2 ∨ s.kind = 4) (hl : l = 0) (h1 : okAll y s = false) :
  Calls Try.prog 22 #[.agg cx.toArray, .agg cs.toArray, .slice B l d] w (AfterR siE 4 w) := by
 obtain ⟨a0, n0, c0, a1, n1, c1, a2, n2, c2, a3, n3, c3, a4, n4, c4, a5, n5, c5, rfl, hq⟩ := hx
 obtain ⟨B0, p0, e0, B1, p1, e1, rfl, hl0, _⟩ := hs
 have hm := hl0.len_le
 have HQ := Lib.hid hq
 have HI := Lib.hid hl0
 have HN0 := Lib.hid hl0.1
 subst hl
 clear hq hl0
 have f1 : decide (s.kind < 1) = false := decide_eq_false (by omega)
 have f2 : decide (4 < s.kind) = false := decide_eq_false (by omega)
 have f3 : (s.kind != 1) = true := by simp; omega
 have f4 : (s.kind == 3) = false := by simp; omega
 have f5 : (s.kind == 1) = false := by simp; omega
 have H1 := Lib.hid h1
 clear hk h1
 go_enter Try.func22, Try.ntmps22
 go_wp2_with (first
  | ((with_reducible show OpW 3); refine wpList_box _ rfl 26 (.tmp 0) rfl (siC a0 n0 c0 a1 n1 c1 a2 n2 c2 a3 n3 c3 a4 n4 c4 a5 n5 c5 y.pct) rfl ?_; intro w1 y1 y2 y3; have HB1 := Lib.hid y2; have HS1 := Lib.hid y1; clear y1 y2 y3)
  | ((with_reducible show OpW 4); refine wpList_box _ rfl 42 (.tmp 1) rfl (stC s B0 p0 e0 B1 p1 e1) rfl ?_; intro w2 y1 y2 y3; have HT2 := Lib.hid y1; have HB2 := Lib.hid (below_then HB1.out y2); have HS2 := Lib.hid (HS1.out.kept y2); clear y1 y2 y3)
  | ((with_reducible show OpW 6); refine wpList_alloc _ rfl 26 rfl siZ siqZero ?_; intro w3 y1 y2 y3; have HR3 := Lib.hid y1; have HB3 := Lib.hid (below_then HB2.out y2); have HS3 := Lib.hid (HS2.out.kept y2); have HT3 := Lib.hid (HT2.out.kept y2); have HG := Lib.hid HB2.out.size; have HL1 := Lib.hid HS1.out.lt; have HL2 := Lib.hid HT2.out.lt; have t0 := (HT2.out.kept y2).get (j := 0) rfl; have t1 := (HT2.out.kept y2).get (j := 1) rfl; clear y1 y2 y3)
  | fail)
 clear t0 t1
 go_loopw [87] (fun iv wr => ∃ k : Nat, k ≤ p0 ∧ iv = .int .i64 (k : Int) ∧ Hid ((s.sts.take k).all (fun id => (findS y id).isSome) = true) ∧ Hid (Below w3.heap.size w3 wr)) (fun iv _ => p0 - (intOf iv).toNat)
 case atStart => exact ⟨0, by omega, rfl, Lib.hid rfl, Lib.hid (Below.refl _ _)⟩
 case round =>
  obtain ⟨k, hk, rfl, hall, hb⟩ := hrel
  obtain ⟨wx, hwx⟩ : ∃ x, x = wr := ⟨_, rfl⟩
  rw [← hwx] at hb ⊢
  clear hwx
  have HBx := Lib.hid (below_thenB HB3.out HB3.out.size hb.out)
  have HSx := Lib.hid (HS3.out.kept hb.out)
  have HRx := Lib.hid (HR3.out.kept hb.out)
  by_cases hlt : k < p0
  ·
   obtain ⟨id, g, o, hs, ea, pp1⟩ := HI.out.str_at HBx.out hlt
   have HX := Lib.hid hs
   subst ea
   clear hs
   cases hf : (findS y id).isSome with
   | false =>
    go_wp2_with (first
     | ((with_reducible show OpW 92); refine wpList_loadv _ rfl 26 (.tmp 3) rfl 7 (by kernel_rfl) w.heap.size 0 _ rfl (BL.all HSx.out) rfl ?_)
     | (go_at_call 66; refine (find_any _ y id _ (show rSi wx _ _ from ⟨a0, n0, c0, a1, n1, c1, a2, n2, c2, a3, n3, c3, a4, n4, c4, a5, n5, c5, rfl, HQ.out.kept HBx.out⟩)).mono ?_; rintro e w5 ⟨fs, rfl, hfs, b5⟩; rw [hf]; obtain ⟨Af, mf, cf, rfl, _⟩ := hfs; have HX5 := Lib.hid b5; have HR5 := Lib.hid (HRx.out.kept b5); clear b5)
     | ((with_reducible show OpW 13); refine wpList_alloc _ rfl 61 rfl spZ spZero ?_; intro w6 y1 y2 y3; have HV6 := Lib.hid y1; have HX6 := Lib.hid (below_thenB HX5.out HX5.out.size y2); have HR6 := Lib.hid (HR5.out.kept y2); have HLT := Lib.hid HR5.out.lt; clear y1 y2 y3)
     | ((with_reducible show OpN); refine wpList_storev _ rfl 61 (.tmp 13) (.tmp 95) rfl 6 (by kernel_rfl) w5.heap.size 0 _ spZ (spC ((findS y id).getD spE) Af mf cf) rfl rfl HV6.out rfl (one_sp _ Af mf cf) (by decide) ?_; intro w7 y1 y2 y3; have HX7 : Hid (Below wx.heap.size wx w7) := Lib.hid (((Kp.of_below (S := fun _ => False) HX6.out).after y2 (fun i hi e => by have := HX5.out.size; omega)).below (Nat.le_refl _) (fun _ h => h.elim)); have HR7 := Lib.hid (y2.bl HR6.out (fun e => by have := HLT.out; omega)); have HB7 := Lib.hid (below_thenB HBx.out HBx.out.size HX7.out); clear y1 y2 y3)
     | ((with_reducible show OpW 99); refine wpList_build _ rfl 26 #[] rfl #[] (by rfl) (.agg siZ.toArray) (bldSiq0 _) ?_)
     | ((with_reducible show OpN); refine wpList_storev _ rfl 26 (.tmp 6) (.tmp 99) rfl 7 (by kernel_rfl) w2.heap.size 0 _ siZ siZ rfl rfl HR7.out rfl one_siZ (by decide) ?_; intro w9 y1 y2 y3; have HT9 : Hid (BL w9 w2.heap.size 26 siZ) := Lib.hid y1; have HK9 := Lib.hid y2; clear y1 y2 y3)
     | fail)
    (try simp only [Exit.inBlock, Exit.then])
    exact bodyPost_ret (results_at2 w9 Try.results22 (n := 7) (by kernel_rfl) (g := w2.heap.size) (o := 0) rfl (ms := siZ) (BL.all HT9.out) rfl) rfl ⟨_, rfl, rSi_zero _, ((Kp.of_below (S := fun _ => False) HB7.out).after HK9.out (fun i hi e => by have := HG.out; omega)).below (Nat.le_refl _) (fun _ h => h.elim)⟩
   | true =>
    have HF := Lib.hid (all_step HX.out hall.out hf)
    go_wp2_with (first
     | ((with_reducible show OpW 92); refine wpList_loadv _ rfl 26 (.tmp 3) rfl 7 (by kernel_rfl) w.heap.size 0 _ rfl (BL.all HSx.out) rfl ?_)
     | (go_at_call 66; refine (find_any _ y id _ (show rSi wx _ _ from ⟨a0, n0, c0, a1, n1, c1, a2, n2, c2, a3, n3, c3, a4, n4, c4, a5, n5, c5, rfl, HQ.out.kept HBx.out⟩)).mono ?_; rintro e w5 ⟨fs, rfl, hfs, b5⟩; rw [hf]; obtain ⟨Af, mf, cf, rfl, _⟩ := hfs; have HX5 := Lib.hid b5; have HR5 := Lib.hid (HRx.out.kept b5); clear b5)
     | ((with_reducible show OpW 13); refine wpList_alloc _ rfl 61 rfl spZ spZero ?_; intro w6 y1 y2 y3; have HV6 := Lib.hid y1; have HX6 := Lib.hid (below_thenB HX5.out HX5.out.size y2); have HR6 := Lib.hid (HR5.out.kept y2); have HLT := Lib.hid HR5.out.lt; clear y1 y2 y3)
     | ((with_reducible show OpN); refine wpList_storev _ rfl 61 (.tmp 13) (.tmp 95) rfl 6 (by kernel_rfl) w5.heap.size 0 _ spZ (spC ((findS y id).getD spE) Af mf cf) rfl rfl HV6.out rfl (one_sp _ Af mf cf) (by decide) ?_; intro w7 y1 y2 y3; have HX7 : Hid (Below wx.heap.size wx w7) := Lib.hid (((Kp.of_below (S := fun _ => False) HX6.out).after y2 (fun i hi e => by have := HX5.out.size; omega)).below (Nat.le_refl _) (fun _ h => h.elim)); have HR7 := Lib.hid (y2.bl HR6.out (fun e => by have := HLT.out; omega)); have HB7 := Lib.hid (below_thenB HBx.out HBx.out.size HX7.out); clear y1 y2 y3)
     
     | fail)
    go_roundw
    case rel => exact ⟨k + 1, by omega, by go_num, HF, Lib.hid (below_thenB hb.out hb.out.size HX7.out)⟩
    case measure => simp [intOf]; omega
  ·
   obtain rfl : p0 = k := by omega
   have HAL : Hid (okAll y s = true) := Lib.hid (by have h9 := hall.out; rw [take_end HN0.out] at h9; exact h9)
   have HTx := Lib.hid (HT3.out.kept hb.out)
   have t0 := HTx.out.get (j := 0) rfl
   have t1 := HTx.out.get (j := 1) rfl
   have h9 := HAL.out
   rw [H1.out] at h9
   cases h9
set_option maxRecDepth 100000 in
set_option maxHeartbeats 4000000 in
theorem rafter2 (cx : List Value) (y : Si) (w : World) (hx : rSi w cx y) (cs : List Value) (s : Stp) (hs : rStp w cs s) (B : Option Addr) (l d : Nat) (hk : s.kind = 2) (hl : l = 0) (h1 : okAll y s = true) (hbd : y.cond.length + s.sts.length ≤ 100000) :
  Calls Try.prog 22 #[.agg cx.toArray, .agg cs.toArray, .slice B l d] w (AfterR (condY y s.sts) 0 w) := by
 obtain ⟨a0, n0, c0, a1, n1, c1, a2, n2, c2, a3, n3, c3, a4, n4, c4, a5, n5, c5, rfl, hq⟩ := hx
 obtain ⟨B0, p0, e0, B1, p1, e1, rfl, hl0, _⟩ := hs
 have hm := hl0.len_le
 have HQ := Lib.hid hq
 have HI := Lib.hid hl0
 have HN0 := Lib.hid hl0.1
 subst hl
 clear hq hl0
 have f1 : decide (s.kind < 1) = false := by rw [hk]; rfl
 have f2 : decide (4 < s.kind) = false := by rw [hk]; rfl
 have f3 : (s.kind != 1) = true := by rw [hk]; rfl
 have f4 : (s.kind == 3) = false := by rw [hk]; rfl
 have f5 : (s.kind == 1) = false := by rw [hk]; rfl
 have f6 : (s.kind == 2) = true := by rw [hk]; rfl
 have H1 := Lib.hid h1
 have HBD : Hid (y.cond.length + p0 ≤ 100000) := Lib.hid (by have := HN0.out; omega)
 clear hk h1 hbd
 go_enter Try.func22, Try.ntmps22
 go_wp2_with (first
  | ((with_reducible show OpW 3); refine wpList_box _ rfl 26 (.tmp 0) rfl (siC a0 n0 c0 a1 n1 c1 a2 n2 c2 a3 n3 c3 a4 n4 c4 a5 n5 c5 y.pct) rfl ?_; intro w1 y1 y2 y3; have HB1 := Lib.hid y2; have HS1 := Lib.hid y1; clear y1 y2 y3)
  | ((with_reducible show OpW 4); refine wpList_box _ rfl 42 (.tmp 1) rfl (stC s B0 p0 e0 B1 p1 e1) rfl ?_; intro w2 y1 y2 y3; have HT2 := Lib.hid y1; have HB2 := Lib.hid (below_then HB1.out y2); have HS2 := Lib.hid (HS1.out.kept y2); clear y1 y2 y3)
  | ((with_reducible show OpW 6); refine wpList_alloc _ rfl 26 rfl siZ siqZero ?_; intro w3 y1 y2 y3; have HR3 := Lib.hid y1; have HB3 := Lib.hid (below_then HB2.out y2); have HS3 := Lib.hid (HS2.out.kept y2); have HT3 := Lib.hid (HT2.out.kept y2); have HG := Lib.hid HB2.out.size; have HL1 := Lib.hid HS1.out.lt; have HL2 := Lib.hid HT2.out.lt; have t0 := (HT2.out.kept y2).get (j := 0) rfl; have t1 := (HT2.out.kept y2).get (j := 1) rfl; clear y1 y2 y3)
  | fail)
 clear t0 t1
 go_loopw [87] (fun iv wr => ∃ k : Nat, k ≤ p0 ∧ iv = .int .i64 (k : Int) ∧ Hid ((s.sts.take k).all (fun id => (findS y id).isSome) = true) ∧ Hid (Below w3.heap.size w3 wr)) (fun iv _ => p0 - (intOf iv).toNat)
 case atStart => exact ⟨0, by omega, rfl, Lib.hid rfl, Lib.hid (Below.refl _ _)⟩
 case round =>
  obtain ⟨k, hk, rfl, hall, hb⟩ := hrel
  obtain ⟨wx, hwx⟩ : ∃ x, x = wr := ⟨_, rfl⟩
  rw [← hwx] at hb ⊢
  clear hwx
  have HBx := Lib.hid (below_thenB HB3.out HB3.out.size hb.out)
  have HSx := Lib.hid (HS3.out.kept hb.out)
  have HRx := Lib.hid (HR3.out.kept hb.out)
  by_cases hlt : k < p0
  ·
   obtain ⟨id, g, o, hs, ea, pp1⟩ := HI.out.str_at HBx.out hlt
   have HX := Lib.hid hs
   subst ea
   clear hs
   cases hf : (findS y id).isSome with
   | false =>
    have h9 : okAll y s = false := all_miss (p := fun id => (findS y id).isSome) HX.out hf
    exact absurd (H1.out.symm.trans h9) (by decide)
   | true =>
    have HF := Lib.hid (all_step HX.out hall.out hf)
    go_wp2_with (first
     | ((with_reducible show OpW 92); refine wpList_loadv _ rfl 26 (.tmp 3) rfl 7 (by kernel_rfl) w.heap.size 0 _ rfl (BL.all HSx.out) rfl ?_)
     | (go_at_call 66; refine (find_any _ y id _ (show rSi wx _ _ from ⟨a0, n0, c0, a1, n1, c1, a2, n2, c2, a3, n3, c3, a4, n4, c4, a5, n5, c5, rfl, HQ.out.kept HBx.out⟩)).mono ?_; rintro e w5 ⟨fs, rfl, hfs, b5⟩; rw [hf]; obtain ⟨Af, mf, cf, rfl, _⟩ := hfs; have HX5 := Lib.hid b5; have HR5 := Lib.hid (HRx.out.kept b5); clear b5)
     | ((with_reducible show OpW 13); refine wpList_alloc _ rfl 61 rfl spZ spZero ?_; intro w6 y1 y2 y3; have HV6 := Lib.hid y1; have HX6 := Lib.hid (below_thenB HX5.out HX5.out.size y2); have HR6 := Lib.hid (HR5.out.kept y2); have HLT := Lib.hid HR5.out.lt; clear y1 y2 y3)
     | ((with_reducible show OpN); refine wpList_storev _ rfl 61 (.tmp 13) (.tmp 95) rfl 6 (by kernel_rfl) w5.heap.size 0 _ spZ (spC ((findS y id).getD spE) Af mf cf) rfl rfl HV6.out rfl (one_sp _ Af mf cf) (by decide) ?_; intro w7 y1 y2 y3; have HX7 : Hid (Below wx.heap.size wx w7) := Lib.hid (((Kp.of_below (S := fun _ => False) HX6.out).after y2 (fun i hi e => by have := HX5.out.size; omega)).below (Nat.le_refl _) (fun _ h => h.elim)); have HR7 := Lib.hid (y2.bl HR6.out (fun e => by have := HLT.out; omega)); have HB7 := Lib.hid (below_thenB HBx.out HBx.out.size HX7.out); clear y1 y2 y3)
     
     | fail)
    go_roundw
    case rel => exact ⟨k + 1, by omega, by go_num, HF, Lib.hid (below_thenB hb.out hb.out.size HX7.out)⟩
    case measure => simp [intOf]; omega
  ·
   obtain rfl : p0 = k := by omega
   have HAL : Hid (okAll y s = true) := Lib.hid (by have h9 := hall.out; rw [take_end HN0.out] at h9; exact h9)
   have HTx := Lib.hid (HT3.out.kept hb.out)
   have t0 := HTx.out.get (j := 0) rfl
   have t1 := HTx.out.get (j := 1) rfl
   go_wp2_with (first
    | ((with_reducible show OpW 104); refine wpList_loadv _ rfl 26 (.tmp 3) rfl 7 (by kernel_rfl) w.heap.size 0 _ rfl (BL.all HSx.out) rfl ?_)
    | (go_at_call 67; refine (condemning_any _ y wx (show rSi wx _ _ from ⟨a0, n0, c0, a1, n1, c1, a2, n2, c2, a3, n3, c3, a4, n4, c4, a5, n5, c5, rfl, HQ.out.kept HBx.out⟩) _ _ _ s.sts (HI.out.kept stay_str HBx.out) HBD.out).mono ?_; rintro e w5 ⟨⟨rs, rfl, hrs⟩, bl5⟩; obtain ⟨b0, k0, d0, b1, k1, d1, b2, k2, d2, b3, k3, d3, b4, k4, d4, b5, k5, d5, rfl, hcy⟩ := hrs; have HCY := Lib.hid hcy; have HB5 := Lib.hid (below_thenB HBx.out HBx.out.size bl5); have HR5 := Lib.hid (HRx.out.kept bl5); clear hcy bl5)
    | ((with_reducible show OpN); refine wpList_storev _ rfl 26 (.tmp 6) (.tmp 107) rfl 7 (by kernel_rfl) w2.heap.size 0 _ siZ (siC b0 k0 d0 b1 k1 d1 b2 k2 d2 b3 k3 d3 b4 k4 d4 b5 k5 d5 (condY y s.sts).pct) rfl rfl HR5.out rfl (one_si _ _ _ _ _ _ _ _ _ _ _ _ _ _ _ _ _ _ _) (by decide) ?_; intro w8 y1 y2 y3; have HT8 : Hid (BL w8 w2.heap.size 26 (siC b0 k0 d0 b1 k1 d1 b2 k2 d2 b3 k3 d3 b4 k4 d4 b5 k5 d5 (condY y s.sts).pct)) := Lib.hid y1; have HK8 := Lib.hid y2; clear y1 y2 y3))
   (try simp only [Exit.inBlock, Exit.then])
   exact bodyPost_ret (results_at2 w8 Try.results22 (n := 7) (by kernel_rfl) (g := w2.heap.size) (o := 0) rfl (ms := siC b0 k0 d0 b1 k1 d1 b2 k2 d2 b3 k3 d3 b4 k4 d4 b5 k5 d5 (condY y s.sts).pct) (BL.all HT8.out) rfl) rfl ⟨_, rfl, ⟨_, _, _, _, _, _, _, _, _, _, _, _, _, _, _, _, _, _, rfl, HCY.out.put HK8.out HR5.out⟩, ((Kp.of_below (S := fun _ => False) HB5.out).after HK8.out (fun i hi e => by have := HG.out; omega)).below (Nat.le_refl _) (fun _ h => h.elim)⟩
set_option maxRecDepth 100000 in
set_option maxHeartbeats 4000000 in
theorem rafter4_st (cx : List Value) (y : Si) (w : World) (hx : rSi w cx y) (cs : List Value) (s : Stp) (hs : rStp w cs s) (B : Option Addr) (l d : Nat) (hk : s.kind = 4) (hl : l = 0) (h1 : okAll y s = true) (h2 : okDrop y s = false) :
  Calls Try.prog 22 #[.agg cx.toArray, .agg cs.toArray, .slice B l d] w (AfterR siE 6 w) := by
 obtain ⟨a0, n0, c0, a1, n1, c1, a2, n2, c2, a3, n3, c3, a4, n4, c4, a5, n5, c5, rfl, hq⟩ := hx
 obtain ⟨B0, p0, e0, B1, p1, e1, rfl, hl0, _⟩ := hs
 have hm := hl0.len_le
 have HQ := Lib.hid hq
 have HI := Lib.hid hl0
 have HN0 := Lib.hid hl0.1
 subst hl
 clear hq hl0
 have f1 : decide (s.kind < 1) = false := by rw [hk]; rfl
 have f2 : decide (4 < s.kind) = false := by rw [hk]; rfl
 have f3 : (s.kind != 1) = true := by rw [hk]; rfl
 have f4 : (s.kind == 3) = false := by rw [hk]; rfl
 have f5 : (s.kind == 1) = false := by rw [hk]; rfl
 have f6 : (s.kind == 2) = false := by rw [hk]; rfl
 have H1 := Lib.hid h1
 have H2 := Lib.hid h2
 clear hk h1 h2
 go_enter Try.func22, Try.ntmps22
 go_wp2_with (first
  | ((with_reducible show OpW 3); refine wpList_box _ rfl 26 (.tmp 0) rfl (siC a0 n0 c0 a1 n1 c1 a2 n2 c2 a3 n3 c3 a4 n4 c4 a5 n5 c5 y.pct) rfl ?_; intro w1 y1 y2 y3; have HB1 := Lib.hid y2; have HS1 := Lib.hid y1; clear y1 y2 y3)
  | ((with_reducible show OpW 4); refine wpList_box _ rfl 42 (.tmp 1) rfl (stC s B0 p0 e0 B1 p1 e1) rfl ?_; intro w2 y1 y2 y3; have HT2 := Lib.hid y1; have HB2 := Lib.hid (below_then HB1.out y2); have HS2 := Lib.hid (HS1.out.kept y2); clear y1 y2 y3)
  | ((with_reducible show OpW 6); refine wpList_alloc _ rfl 26 rfl siZ siqZero ?_; intro w3 y1 y2 y3; have HR3 := Lib.hid y1; have HB3 := Lib.hid (below_then HB2.out y2); have HS3 := Lib.hid (HS2.out.kept y2); have HT3 := Lib.hid (HT2.out.kept y2); have HG := Lib.hid HB2.out.size; have HL1 := Lib.hid HS1.out.lt; have HL2 := Lib.hid HT2.out.lt; have t0 := (HT2.out.kept y2).get (j := 0) rfl; have t1 := (HT2.out.kept y2).get (j := 1) rfl; clear y1 y2 y3)
  | fail)
 clear t0 t1
 go_loopw [87] (fun iv wr => ∃ k : Nat, k ≤ p0 ∧ iv = .int .i64 (k : Int) ∧ Hid ((s.sts.take k).all (fun id => (findS y id).isSome) = true) ∧ Hid (Below w3.heap.size w3 wr)) (fun iv _ => p0 - (intOf iv).toNat)
 case atStart => exact ⟨0, by omega, rfl, Lib.hid rfl, Lib.hid (Below.refl _ _)⟩
 case round =>
  obtain ⟨k, hk, rfl, hall, hb⟩ := hrel
  obtain ⟨wx, hwx⟩ : ∃ x, x = wr := ⟨_, rfl⟩
  rw [← hwx] at hb ⊢
  clear hwx
  have HBx := Lib.hid (below_thenB HB3.out HB3.out.size hb.out)
  have HSx := Lib.hid (HS3.out.kept hb.out)
  have HRx := Lib.hid (HR3.out.kept hb.out)
  by_cases hlt : k < p0
  ·
   obtain ⟨id, g, o, hs, ea, pp1⟩ := HI.out.str_at HBx.out hlt
   have HX := Lib.hid hs
   subst ea
   clear hs
   cases hf : (findS y id).isSome with
   | false =>
    have h9 : okAll y s = false := all_miss (p := fun id => (findS y id).isSome) HX.out hf
    exact absurd (H1.out.symm.trans h9) (by decide)
   | true =>
    have HF := Lib.hid (all_step HX.out hall.out hf)
    go_wp2_with (first
     | ((with_reducible show OpW 92); refine wpList_loadv _ rfl 26 (.tmp 3) rfl 7 (by kernel_rfl) w.heap.size 0 _ rfl (BL.all HSx.out) rfl ?_)
     | (go_at_call 66; refine (find_any _ y id _ (show rSi wx _ _ from ⟨a0, n0, c0, a1, n1, c1, a2, n2, c2, a3, n3, c3, a4, n4, c4, a5, n5, c5, rfl, HQ.out.kept HBx.out⟩)).mono ?_; rintro e w5 ⟨fs, rfl, hfs, b5⟩; rw [hf]; obtain ⟨Af, mf, cf, rfl, _⟩ := hfs; have HX5 := Lib.hid b5; have HR5 := Lib.hid (HRx.out.kept b5); clear b5)
     | ((with_reducible show OpW 13); refine wpList_alloc _ rfl 61 rfl spZ spZero ?_; intro w6 y1 y2 y3; have HV6 := Lib.hid y1; have HX6 := Lib.hid (below_thenB HX5.out HX5.out.size y2); have HR6 := Lib.hid (HR5.out.kept y2); have HLT := Lib.hid HR5.out.lt; clear y1 y2 y3)
     | ((with_reducible show OpN); refine wpList_storev _ rfl 61 (.tmp 13) (.tmp 95) rfl 6 (by kernel_rfl) w5.heap.size 0 _ spZ (spC ((findS y id).getD spE) Af mf cf) rfl rfl HV6.out rfl (one_sp _ Af mf cf) (by decide) ?_; intro w7 y1 y2 y3; have HX7 : Hid (Below wx.heap.size wx w7) := Lib.hid (((Kp.of_below (S := fun _ => False) HX6.out).after y2 (fun i hi e => by have := HX5.out.size; omega)).below (Nat.le_refl _) (fun _ h => h.elim)); have HR7 := Lib.hid (y2.bl HR6.out (fun e => by have := HLT.out; omega)); have HB7 := Lib.hid (below_thenB HBx.out HBx.out.size HX7.out); clear y1 y2 y3)
     
     | fail)
    go_roundw
    case rel => exact ⟨k + 1, by omega, by go_num, HF, Lib.hid (below_thenB hb.out hb.out.size HX7.out)⟩
    case measure => simp [intOf]; omega
  ·
   obtain rfl : p0 = k := by omega
   have HAL : Hid (okAll y s = true) := Lib.hid (by have h9 := hall.out; rw [take_end HN0.out] at h9; exact h9)
   have HTx := Lib.hid (HT3.out.kept hb.out)
   have t0 := HTx.out.get (j := 0) rfl
   have t1 := HTx.out.get (j := 1) rfl
   go_wp2_with fail
   clear t0 t1
   go_loopw [111] (fun iv wr => ∃ k : Nat, k ≤ p0 ∧ iv = .int .i64 (k : Int) ∧ Hid ((s.sts.take k).all (hasB y.drop) = true) ∧ Hid (Below w3.heap.size w3 wr)) (fun iv _ => p0 - (intOf iv).toNat)
   case atStart => exact ⟨0, by omega, rfl, Lib.hid rfl, hb⟩
   clear hall HTx HRx HSx HBx hb hk hlt
   case round =>
    obtain ⟨k, hk, rfl, hall, hb⟩ := hrel
    obtain ⟨wy, hwy⟩ : ∃ x, x = wr := ⟨_, rfl⟩
    rw [← hwy] at hb ⊢
    clear hwy
    have HBy := Lib.hid (below_thenB HB3.out HB3.out.size hb.out)
    have HSy := Lib.hid (HS3.out.kept hb.out)
    have HRy := Lib.hid (HR3.out.kept hb.out)
    by_cases hlt : k < p0
    ·
     obtain ⟨id, g, o, hs, ea, pp1⟩ := HI.out.str_at HBy.out hlt
     have HX := Lib.hid hs
     have s3 := HSy.out.get (j := 3) rfl
     subst ea
     clear hs
     cases hd : hasB y.drop id with
     | false =>
      have HBD : Hid (okDrop y s = false) := Lib.hid (all_miss HX.out hd)
      go_wp2_with (first
       | (go_at_call 43; refine (has_any a3 n3 c3 y.drop id _ (HQ.out.drop.kept stay_str HBy.out)).mono ?_; rintro e wh ⟨rfl, hw⟩; rw [hw]; clear hw wh; rw [hd])
       | ((with_reducible show OpW 120); refine wpList_build _ rfl 26 #[] rfl #[] (by rfl) (.agg siZ.toArray) (bldSiq0 _) ?_)
       | ((with_reducible show OpN); refine wpList_storev _ rfl 26 (.tmp 6) (.tmp 120) rfl 7 (by kernel_rfl) w2.heap.size 0 _ siZ siZ rfl rfl HRy.out rfl one_siZ (by decide) ?_; intro w9 y1 y2 y3; have HT9 : Hid (BL w9 w2.heap.size 26 siZ) := Lib.hid y1; have HK9 := Lib.hid y2; clear y1 y2 y3)
       | fail)
      (try simp only [Exit.inBlock, Exit.then])
      exact bodyPost_ret (results_at2 w9 Try.results22 (n := 7) (by kernel_rfl) (g := w2.heap.size) (o := 0) rfl (ms := siZ) (BL.all HT9.out) rfl) rfl ⟨_, rfl, rSi_zero _, ((Kp.of_below (S := fun _ => False) HBy.out).after HK9.out (fun i hi e => by have := HG.out; omega)).below (Nat.le_refl _) (fun _ h => h.elim)⟩
     | true =>
      have HF := Lib.hid (all_step HX.out hall.out hd)
      go_wp2_with (first
       | (go_at_call 43; refine (has_any a3 n3 c3 y.drop id _ (HQ.out.drop.kept stay_str HBy.out)).mono ?_; rintro e wh ⟨rfl, hw⟩; rw [hw]; clear hw wh; rw [hd]))
      go_roundw
      case rel => exact ⟨k + 1, by omega, by go_num, HF, hb⟩
      case measure => simp [intOf]; omega
    ·
     obtain rfl : p0 = k := by omega
     have HAD : Hid (okDrop y s = true) := Lib.hid (by have h9 := hall.out; rw [take_end HN0.out] at h9; exact h9)
     have h9 := HAD.out
     rw [H2.out] at h9
     cases h9
set_option maxRecDepth 100000 in
set_option maxHeartbeats 8000000 in
theorem rafter4 (cx : List Value) (y : Si) (w : World) (hx : rSi w cx y) (cs : List Value) (s : Stp) (hs : rStp w cs s) (B : Option Addr) (l d : Nat) (hk : s.kind = 4) (hl : l = 0) (h1 : okAll y s = true) (h2 : okDrop y s = true) :
  Calls Try.prog 22 #[.agg cx.toArray, .agg cs.toArray, .slice B l d] w (AfterR (forgetY y s.sts) 0 w) := by
 obtain ⟨a0, n0, c0, a1, n1, c1, a2, n2, c2, a3, n3, c3, a4, n4, c4, a5, n5, c5, rfl, hq⟩ := hx
 obtain ⟨B0, p0, e0, B1, p1, e1, rfl, hl0, _⟩ := hs
 have hm := hl0.len_le
 have HQ := Lib.hid hq
 have HI := Lib.hid hl0
 have HN0 := Lib.hid hl0.1
 subst hl
 clear hq hl0
 have hn0 := HQ.out.sp.len_le
 have HN := Lib.hid HQ.out.sp.1
 have HLL := Lib.hid HQ.out.sp.2.2.1
 have f1 : decide (s.kind < 1) = false := by rw [hk]; rfl
 have f2 : decide (4 < s.kind) = false := by rw [hk]; rfl
 have f3 : (s.kind != 1) = true := by rw [hk]; rfl
 have f4 : (s.kind == 3) = false := by rw [hk]; rfl
 have f5 : (s.kind == 1) = false := by rw [hk]; rfl
 have f6 : (s.kind == 2) = false := by rw [hk]; rfl
 have H1 := Lib.hid h1
 have H2 := Lib.hid h2
 clear hk h1 h2
 go_enter Try.func22, Try.ntmps22
 go_wp2_with (first
  | ((with_reducible show OpW 3); refine wpList_box _ rfl 26 (.tmp 0) rfl (siC a0 n0 c0 a1 n1 c1 a2 n2 c2 a3 n3 c3 a4 n4 c4 a5 n5 c5 y.pct) rfl ?_; intro w1 y1 y2 y3; have HB1 := Lib.hid y2; have HS1 := Lib.hid y1; clear y1 y2 y3)
  | ((with_reducible show OpW 4); refine wpList_box _ rfl 42 (.tmp 1) rfl (stC s B0 p0 e0 B1 p1 e1) rfl ?_; intro w2 y1 y2 y3; have HT2 := Lib.hid y1; have HB2 := Lib.hid (below_then HB1.out y2); have HS2 := Lib.hid (HS1.out.kept y2); clear y1 y2 y3)
  | ((with_reducible show OpW 6); refine wpList_alloc _ rfl 26 rfl siZ siqZero ?_; intro w3 y1 y2 y3; have HR3 := Lib.hid y1; have HB3 := Lib.hid (below_then HB2.out y2); have HS3 := Lib.hid (HS2.out.kept y2); have HT3 := Lib.hid (HT2.out.kept y2); have HG := Lib.hid HB2.out.size; have HL1 := Lib.hid HS1.out.lt; have HL2 := Lib.hid HT2.out.lt; have t0 := (HT2.out.kept y2).get (j := 0) rfl; have t1 := (HT2.out.kept y2).get (j := 1) rfl; clear y1 y2 y3)
  | fail)
 clear t0 t1
 go_loopw [87] (fun iv wr => ∃ k : Nat, k ≤ p0 ∧ iv = .int .i64 (k : Int) ∧ Hid ((s.sts.take k).all (fun id => (findS y id).isSome) = true) ∧ Hid (Below w3.heap.size w3 wr)) (fun iv _ => p0 - (intOf iv).toNat)
 case atStart => exact ⟨0, by omega, rfl, Lib.hid rfl, Lib.hid (Below.refl _ _)⟩
 case round =>
  obtain ⟨k, hk, rfl, hall, hb⟩ := hrel
  obtain ⟨wx, hwx⟩ : ∃ x, x = wr := ⟨_, rfl⟩
  rw [← hwx] at hb ⊢
  clear hwx
  have HBx := Lib.hid (below_thenB HB3.out HB3.out.size hb.out)
  have HSx := Lib.hid (HS3.out.kept hb.out)
  have HRx := Lib.hid (HR3.out.kept hb.out)
  by_cases hlt : k < p0
  ·
   obtain ⟨id, g, o, hs, ea, pp1⟩ := HI.out.str_at HBx.out hlt
   have HX := Lib.hid hs
   subst ea
   clear hs
   cases hf : (findS y id).isSome with
   | false =>
    have h9 : okAll y s = false := all_miss (p := fun id => (findS y id).isSome) HX.out hf
    exact absurd (H1.out.symm.trans h9) (by decide)
   | true =>
    have HF := Lib.hid (all_step HX.out hall.out hf)
    go_wp2_with (first
     | ((with_reducible show OpW 92); refine wpList_loadv _ rfl 26 (.tmp 3) rfl 7 (by kernel_rfl) w.heap.size 0 _ rfl (BL.all HSx.out) rfl ?_)
     | (go_at_call 66; refine (find_any _ y id _ (show rSi wx _ _ from ⟨a0, n0, c0, a1, n1, c1, a2, n2, c2, a3, n3, c3, a4, n4, c4, a5, n5, c5, rfl, HQ.out.kept HBx.out⟩)).mono ?_; rintro e w5 ⟨fs, rfl, hfs, b5⟩; rw [hf]; obtain ⟨Af, mf, cf, rfl, _⟩ := hfs; have HX5 := Lib.hid b5; have HR5 := Lib.hid (HRx.out.kept b5); clear b5)
     | ((with_reducible show OpW 13); refine wpList_alloc _ rfl 61 rfl spZ spZero ?_; intro w6 y1 y2 y3; have HV6 := Lib.hid y1; have HX6 := Lib.hid (below_thenB HX5.out HX5.out.size y2); have HR6 := Lib.hid (HR5.out.kept y2); have HLT := Lib.hid HR5.out.lt; clear y1 y2 y3)
     | ((with_reducible show OpN); refine wpList_storev _ rfl 61 (.tmp 13) (.tmp 95) rfl 6 (by kernel_rfl) w5.heap.size 0 _ spZ (spC ((findS y id).getD spE) Af mf cf) rfl rfl HV6.out rfl (one_sp _ Af mf cf) (by decide) ?_; intro w7 y1 y2 y3; have HX7 : Hid (Below wx.heap.size wx w7) := Lib.hid (((Kp.of_below (S := fun _ => False) HX6.out).after y2 (fun i hi e => by have := HX5.out.size; omega)).below (Nat.le_refl _) (fun _ h => h.elim)); have HR7 := Lib.hid (y2.bl HR6.out (fun e => by have := HLT.out; omega)); have HB7 := Lib.hid (below_thenB HBx.out HBx.out.size HX7.out); clear y1 y2 y3)
     
     | fail)
    go_roundw
    case rel => exact ⟨k + 1, by omega, by go_num, HF, Lib.hid (below_thenB hb.out hb.out.size HX7.out)⟩
    case measure => simp [intOf]; omega
  ·
   obtain rfl : p0 = k := by omega
   have HAL : Hid (okAll y s = true) := Lib.hid (by have h9 := hall.out; rw [take_end HN0.out] at h9; exact h9)
   have HTx := Lib.hid (HT3.out.kept hb.out)
   have t0 := HTx.out.get (j := 0) rfl
   have t1 := HTx.out.get (j := 1) rfl
   go_wp2_with fail
   clear t0 t1
   go_loopw [111] (fun iv wr => ∃ k : Nat, k ≤ p0 ∧ iv = .int .i64 (k : Int) ∧ Hid ((s.sts.take k).all (hasB y.drop) = true) ∧ Hid (Below w3.heap.size w3 wr)) (fun iv _ => p0 - (intOf iv).toNat)
   case atStart => exact ⟨0, by omega, rfl, Lib.hid rfl, hb⟩
   clear hall HTx HRx HSx HBx hb hk hlt
   case round =>
    obtain ⟨k, hk, rfl, hall, hb⟩ := hrel
    obtain ⟨wy, hwy⟩ : ∃ x, x = wr := ⟨_, rfl⟩
    rw [← hwy] at hb ⊢
    clear hwy
    have HBy := Lib.hid (below_thenB HB3.out HB3.out.size hb.out)
    have HSy := Lib.hid (HS3.out.kept hb.out)
    have HRy := Lib.hid (HR3.out.kept hb.out)
    by_cases hlt : k < p0
    ·
     obtain ⟨id, g, o, hs, ea, pp1⟩ := HI.out.str_at HBy.out hlt
     have HX := Lib.hid hs
     have s3 := HSy.out.get (j := 3) rfl
     subst ea
     clear hs
     cases hd : hasB y.drop id with
     | false =>
      have h9 : okDrop y s = false := all_miss HX.out hd
      exact absurd (H2.out.symm.trans h9) (by decide)
     | true =>
      have HF := Lib.hid (all_step HX.out hall.out hd)
      go_wp2_with (first
       | (go_at_call 43; refine (has_any a3 n3 c3 y.drop id _ (HQ.out.drop.kept stay_str HBy.out)).mono ?_; rintro e wh ⟨rfl, hw⟩; rw [hw]; clear hw wh; rw [hd]))
      go_roundw
      case rel => exact ⟨k + 1, by omega, by go_num, HF, hb⟩
      case measure => simp [intOf]; omega
    ·
     obtain rfl : p0 = k := by omega
     have HAD : Hid (okDrop y s = true) := Lib.hid (by have h9 := hall.out; rw [take_end HN0.out] at h9; exact h9)
     clear hall HAD HAL
     have s0 := HSy.out.get (j := 0) rfl
     go_wp2_with fail
     clear s0
     go_loopw [17, 125] (fun v iv wr => ∃ j : Nat, j ≤ n0 ∧ iv = .int .i64 (j : Int) ∧ Hid (OL rSp 6 61 wy wr v ((y.sp.take j).filter fun t => !hasB s.sts t.id)) ∧ Hid (Below wy.heap.size wy wr)) (fun _ iv _ => n0 - (intOf iv).toNat)
     case atStart => exact ⟨0, by omega, rfl, Lib.hid (OL.nil _ _ _ _ _), Lib.hid (Below.refl _ _)⟩
     case round =>
      obtain ⟨j, hj, rfl, ho, hz⟩ := hrel
      obtain ⟨wz, hwz⟩ : ∃ x, x = wr := ⟨_, rfl⟩
      rw [← hwz] at ho hz ⊢
      clear hwz
      have HBz := Lib.hid (below_thenB HBy.out HBy.out.size hz.out)
      by_cases hlj : j < n0
      ·
       obtain ⟨t, g, o, ct, hs, ea, hat, hrt⟩ := HQ.out.sp.at_ stay_sp HBy.out hlj
       have HRT := Lib.hid hrt
       obtain ⟨A', m', c', rfl, _⟩ := hrt
       have HX := Lib.hid hs
       have HA := Lib.hid (hat.kept hz.out)
       have HFL : Hid (((y.sp.take j).filter fun t => !hasB s.sts t.id).length ≤ j) := Lib.hid (Nat.le_trans (List.length_filter_le _ _) (by rw [List.length_take]; omega))
       subst ea
       clear hs hat
       cases h1 : hasB s.sts t.id with
       | true =>
        have HF : Hid (((y.sp.take (j + 1)).filter fun t => !hasB s.sts t.id) = (y.sp.take j).filter fun t => !hasB s.sts t.id) := Lib.hid (by rw [filt_step HX.out]; simp [h1])
        have HTz := Lib.hid (HT3.out.kept (below_thenB hb.out hb.out.size hz.out))
        go_wp2_with (first
         | ((with_reducible show OpW 128); refine wpList_loadv _ rfl 61 (.tmp 127) rfl 6 (by kernel_rfl) g (o + j * 6) (spC t A' m' c') (by go_simp) HA.out rfl ?_)
         | ((with_reducible show OpW 19); refine wpList_alloc _ rfl 61 rfl spZ spZero ?_; intro w3 a1 a2 a3; have HV3 := Lib.hid a1; have HX3 := Lib.hid a2; clear a1 a2 a3)
         | ((with_reducible show OpN); refine wpList_storev _ rfl 61 (.tmp 19) (.tmp 128) rfl 6 (by kernel_rfl) wz.heap.size 0 _ spZ (spC t A' m' c') rfl rfl HV3.out rfl (one_sp t A' m' c') (by decide) ?_; intro w4 a1 a2 a3; have HV4 : Hid (BL w4 wz.heap.size 61 (spC t A' m' c')) := Lib.hid a1; have HX4 : Hid (Below wz.heap.size wz w4) := Lib.hid (((Kp.of_below (S := fun _ => False) HX3.out).after a2 (fun i hi e => by omega)).below (Nat.le_refl _) (fun _ h => h.elim)); clear a1 a2 a3; have t1 := (HTz.out.kept HX4.out).get (j := 1) rfl; have r0 := HV4.out.get (j := 0) rfl)
         | (go_at_call 43; refine (has_any _ _ _ s.sts t.id _ (HI.out.kept stay_str (below_thenB HBz.out HBz.out.size HX4.out))).mono ?_; rintro e wh ⟨rfl, hw⟩; rw [hw]; clear hw wh; rw [h1])
         
         | fail)
        go_roundw
        case rel => exact ⟨j + 1, by omega, by go_num, Lib.hid (by rw [HF.out]; exact ho.out.kept HX4.out), Lib.hid (below_thenB hz.out hz.out.size HX4.out)⟩
        case measure => simp [intOf]; omega
       | false =>
        have HF : Hid (((y.sp.take (j + 1)).filter fun t => !hasB s.sts t.id) = ((y.sp.take j).filter fun t => !hasB s.sts t.id) ++ [t]) := Lib.hid (by rw [filt_step HX.out]; simp [h1])
        obtain ⟨nf, hnf⟩ : ∃ nf, ((y.sp.take j).filter fun t => !hasB s.sts t.id).length = nf := ⟨_, rfl⟩
        obtain ⟨css, hc1, hc2, hc3, hc4, hc5⟩ := ho.out
        rw [hnf] at hc4
        have HNF : Hid (nf ≤ j) := Lib.hid (by rw [← hnf]; exact HFL.out)
        have HNN := Lib.hid hnf
        have HC1 := Lib.hid hc1
        have HC2 := Lib.hid hc2
        have HC3 := Lib.hid hc3
        have HC4 := Lib.hid hc4
        have HC5 := Lib.hid hc5
        clear hnf hc1 hc2 hc3 hc4 hc5
        have HTz := Lib.hid (HT3.out.kept (below_thenB hb.out hb.out.size hz.out))
        go_wp2_with (first
         | ((with_reducible show OpW 128); refine wpList_loadv _ rfl 61 (.tmp 127) rfl 6 (by kernel_rfl) g (o + j * 6) (spC t A' m' c') (by go_simp) HA.out rfl ?_)
         | ((with_reducible show OpW 19); refine wpList_alloc _ rfl 61 rfl spZ spZero ?_; intro w3 a1 a2 a3; have HV3 := Lib.hid a1; have HX3 := Lib.hid a2; clear a1 a2 a3)
         | ((with_reducible show OpN); refine wpList_storev _ rfl 61 (.tmp 19) (.tmp 128) rfl 6 (by kernel_rfl) wz.heap.size 0 _ spZ (spC t A' m' c') rfl rfl HV3.out rfl (one_sp t A' m' c') (by decide) ?_; intro w4 a1 a2 a3; have HV4 : Hid (BL w4 wz.heap.size 61 (spC t A' m' c')) := Lib.hid a1; have HX4 : Hid (Below wz.heap.size wz w4) := Lib.hid (((Kp.of_below (S := fun _ => False) HX3.out).after a2 (fun i hi e => by omega)).below (Nat.le_refl _) (fun _ h => h.elim)); clear a1 a2 a3; have t1 := (HTz.out.kept HX4.out).get (j := 1) rfl; have r0 := HV4.out.get (j := 0) rfl)
         | (go_at_call 43; refine (has_any _ _ _ s.sts t.id _ (HI.out.kept stay_str (below_thenB HBz.out HBz.out.size HX4.out))).mono ?_; rintro e wh ⟨rfl, hw⟩; rw [hw]; clear hw wh; rw [h1])
         | ((with_reducible show OpW 136); refine wpList_loadv _ rfl 61 (.tmp 19) rfl 6 (by kernel_rfl) wz.heap.size 0 (spC t A' m' c') rfl (BL.all HV4.out) rfl ?_)
         | ((with_reducible show OpW 137); refine wpList_bslice _ rfl 22 61 1 _ rfl #[(0, .agg (spC t A' m' c').toArray)] (by rw [List.map_toArray]; rfl) (spC t A' m' c') (bslSpQ t A' m' c' _) ?_; intro w5 y1 y2 y3; have HG5 := Lib.hid y1; have HX5 := Lib.hid (below_thenB HX4.out HX4.out.size y2); clear y1 y2 y3)
         | ((with_reducible show OpW 138); obtain ⟨iS, i1, i2, i3, i4⟩ := info_some infoSp; refine wpList_appRW _ rfl (.tmp 135) (.tmp 137) 22 61 6 iS _ rfl Try.underlying22 i1 i2 i3 rfl _ nf _ rfl (HC4.out.kept HX5.out) w4.heap.size _ rfl HG5.out rfl (one_sp t A' m' c') (by rw [i4]; have := HNF.out; omega) (by have := HNF.out; omega) ?_; intro v' w6 y1; have HR6 := Lib.hid y1; clear y1 i1 i2 i3 i4)
         | fail)
        have HY5 : Hid (Below wy.heap.size wy w5) := Lib.hid (below_thenB hz.out hz.out.size HX5.out)
        have HY6 : Hid (Below wy.heap.size wy w6) := Lib.hid (((Kp.of_below (S := fun _ => False) HY5.out).after HR6.out.kp (fun i hi e => by have := HC5.out i e; omega)).below (Nat.le_refl _) (fun _ h => h.elim))
        have HO6 : Hid (OL rSp 6 61 wy w6 v' ((y.sp.take (j + 1)).filter fun t => !hasB s.sts t.id)) := Lib.hid (by
         rw [HF.out]
         exact OL.push HC1.out HC2.out HC3.out HC5.out HNN.out rfl HRT.out HY5.out.size HR6.out)
        go_roundw
        case rel => exact ⟨j + 1, by omega, by go_num, HO6, HY6⟩
        case measure => simp [intOf]; omega
      ·
       obtain rfl : n0 = j := by omega
       have h9 := ho.out
       rw [take_end HN.out] at h9
       have HFL : Hid ((forgetY y s.sts).sp.length * 72 ≤ lim) := Lib.hid (Nat.le_trans (Nat.mul_le_mul_right _ (Nat.le_trans (List.length_filter_le _ _) (by rw [HN.out]; exact Nat.le_refl _))) HLL.out)
       obtain ⟨A9, c9, e9, l9⟩ := OL.ls (b := 72) (L := (forgetY y s.sts).sp) h9 stay_sp hz.out HFL.out
       have HL9 := Lib.hid l9
       subst e9
       obtain ⟨n9, hn9⟩ : ∃ n9, n9 = (forgetY y s.sts).sp.length := ⟨_, rfl⟩
       rw [← hn9] at HL9 ⊢
       clear hn9 h9 l9 ho HFL
       have HSz := Lib.hid (HSy.out.kept hz.out)
       have HRz := Lib.hid (HRy.out.kept hz.out)
       have HTz := Lib.hid (HT3.out.kept (below_thenB hb.out hb.out.size hz.out))
       have HQz := Lib.hid (HQ.out.kept HBz.out)
       have HIz := Lib.hid (HI.out.kept stay_str HBz.out)
       have HLT : Hid (w.heap.size < w2.heap.size) := Lib.hid (by have := HL1.out; have := HL2.out; omega)
       go_wp2_with (first
        | ((with_reducible show OpN); refine wpList_store1 _ rfl 22 (.tmp 141) (.tmp 140) rfl (slSz _ (by kernel_rfl) _) w.heap.size 0 _ _ (.slice A9 n9 c9) rfl rfl HSz.out rfl rfl (by simp) ?_; intro w7 y1 y2 y3; have HS7 : Hid (BL w7 w.heap.size 26 (siC A9 n9 c9 a1 n1 c1 a2 n2 c2 a3 n3 c3 a4 n4 c4 a5 n5 c5 y.pct)) := Lib.hid y1; have HK7 := Lib.hid y2; clear y1 y2 y3))
       have HR7 := Lib.hid (HK7.out.bl HRz.out (fun e => by have := HLT.out; omega))
       have HT7 := Lib.hid (HK7.out.bl HTz.out (fun e => by have := HL1.out; omega))
       have HQ7 : Hid (SiOk w7 A9 n9 c9 a1 n1 c1 a2 n2 c2 a3 n3 c3 a4 n4 c4 a5 n5 c5 { y with sp := (forgetY y s.sts).sp }) := Lib.hid ((show SiOk wz A9 n9 c9 a1 n1 c1 a2 n2 c2 a3 n3 c3 a4 n4 c4 a5 n5 c5 { y with sp := (forgetY y s.sts).sp } from ⟨HL9.out, HQz.out.need, HQz.out.cond, HQz.out.drop, HQz.out.carr, HQz.out.held, HQz.out.pct⟩).put HK7.out HSz.out)
       have HI7 : Hid (LS rStr 1 16 w7 B0 p0 e0 s.sts) := Lib.hid (HIz.out.put HK7.out HSz.out (fun _ _ h => ⟨_, _, h.1⟩) (fun _ _ h => h))
       have HB7 : Hid (Below w.heap.size w w7) := Lib.hid (((Kp.of_below (S := fun _ => False) HBz.out).after HK7.out (fun i hi e => by omega)).below (Nat.le_refl _) (fun _ h => h.elim))
       refine Text.wp_region_text (fun w' => w'.cell? ⟨w.heap.size, 2, none⟩ = some (.slice a2 n2 c2) ∧ w'.cell? ⟨w1.heap.size, 1, none⟩ = some (.slice B0 p0 e0) ∧ w'.cell? ⟨w.heap.size, 4, none⟩ = some (.slice a4 n4 c4)) [(0, 4), (2, 4), (5, 4), (7, 4), (1, 0), (3, 0), (6, 0), (8, 0), (4, 2), (10, 4), (9, 2), (11, 3), (12, 4), (13, 3)] (by kernel_rfl) (by kernel_rfl) (fun _ _ _ _ _ h => h) (⟨HS7.out.get (j := 2) rfl, HT7.out.get (j := 1) rfl, HS7.out.get (j := 4) rfl⟩) ?_
       iterate 4 (refine Text.purek rfl rfl (fun K hK => ⟨_, fun w' => by go_simp <;> rfl, ?_⟩); go_simp; refine hK _ ?_; clear hK K)
       iterate 4 (refine Text.heldk rfl rfl (fun K hK => ⟨_, fun w' hw' => by go_simp <;> rfl, ?_⟩); go_simp; refine hK _ ?_; clear hK K)
       refine Text.eff rfl rfl (fun K hK => ?_)
       go_simp
       refine (without_any a2 n2 c2 y.cond _ _ _ s.sts _ (HQ7.out.cond.kept stay_str (Below.refl _ _).drew) (HI7.out.kept stay_str (Below.refl _ _).drew)).mono ?_
       rintro e wa ⟨C2, q2, rfl, l2, bl2⟩
       have HXa : Hid (Below w7.heap.size w7 wa) := Lib.hid (below_ofDrew bl2)
       have HLC := Lib.hid l2
       have HSa := Lib.hid (HS7.out.kept HXa.out)
       have HTa := Lib.hid (HT7.out.kept HXa.out)
       clear l2 bl2
       refine hK _ _ ⟨HSa.out.get (j := 2) rfl, HTa.out.get (j := 1) rfl, HSa.out.get (j := 4) rfl⟩ ?_
       clear hK K
       (refine Text.purek rfl rfl (fun K hK => ⟨_, fun w' => by go_simp <;> rfl, ?_⟩); go_simp; refine hK _ ?_; clear hK K)
       refine Text.eff rfl rfl (fun K hK => ?_)
       go_simp
       refine (without_any a4 n4 c4 y.carr _ _ _ s.sts _ (HQ7.out.carr.kept stay_str HXa.out) (HI7.out.kept stay_str HXa.out)).mono ?_
       rintro e wb ⟨C4, q4, rfl, l4, bl4⟩
       have HXb : Hid (Below w7.heap.size w7 wb) := Lib.hid (below_thenB HXa.out HXa.out.size bl4)
       have HLD := Lib.hid l4
       have HLC' := Lib.hid (HLC.out.kept stay_str bl4)
       have HSb := Lib.hid (HS7.out.kept HXb.out)
       have HTb := Lib.hid (HT7.out.kept HXb.out)
       have HRb := Lib.hid (HR7.out.kept HXb.out)
       have HBb := Lib.hid (below_thenB HB7.out HB7.out.size HXb.out)
       clear l4 bl4
       refine hK _ _ ⟨HSb.out.get (j := 2) rfl, HTb.out.get (j := 1) rfl, HSb.out.get (j := 4) rfl⟩ ?_
       clear hK K
       refine Text.last rfl rfl (fun K hK => ?_)
       refine wp_store1 _ 23 (.tmp 152) (.tmp 146) rfl (slSz _ (by kernel_rfl) _) w.heap.size 2 _ _ (.slice C2 (woutL y.cond s.sts).length q2) rfl rfl HSb.out rfl rfl (by simp) ?_
       intro wc y1 y2 y3
       have HSc : Hid (BL wc w.heap.size 26 (siC A9 n9 c9 a1 n1 c1 C2 (woutL y.cond s.sts).length q2 a3 n3 c3 a4 n4 c4 a5 n5 c5 y.pct)) := Lib.hid y1
       have HKc := Lib.hid y2
       clear y1 y2 y3
       refine hK _ _ ?_
       clear hK K
       (refine Text.purek rfl rfl (fun K hK => ⟨_, fun w' => by go_simp <;> rfl, ?_⟩); go_simp; refine hK _ ?_; clear hK K)
       refine Text.last rfl rfl (fun K hK => ?_)
       refine wp_store1 _ 23 (.tmp 153) (.tmp 151) rfl (slSz _ (by kernel_rfl) _) w.heap.size 4 _ _ (.slice C4 (woutL y.carr s.sts).length q4) rfl rfl HSc.out rfl rfl (by simp) ?_
       intro wd y1 y2 y3
       have HSd : Hid (BL wd w.heap.size 26 (siC A9 n9 c9 a1 n1 c1 C2 (woutL y.cond s.sts).length q2 a3 n3 c3 C4 (woutL y.carr s.sts).length q4 a5 n5 c5 y.pct)) := Lib.hid y1
       have HKd := Lib.hid y2
       have HRd := Lib.hid (HKd.out.bl (HKc.out.bl HRb.out (fun e => by have := HLT.out; omega)) (fun e => by have := HLT.out; omega))
       clear y1 y2 y3
       refine hK _ _ ?_
       clear hK K
       refine Text.done ?_
       go_wp2_with (first
        | ((with_reducible show OpW 154); refine wpList_loadv _ rfl 26 (.tmp 3) rfl 7 (by kernel_rfl) w.heap.size 0 _ rfl (BL.all HSd.out) rfl ?_)
        | ((with_reducible show OpN); refine wpList_storev _ rfl 26 (.tmp 6) (.tmp 154) rfl 7 (by kernel_rfl) w2.heap.size 0 _ siZ (siC A9 n9 c9 a1 n1 c1 C2 (woutL y.cond s.sts).length q2 a3 n3 c3 C4 (woutL y.carr s.sts).length q4 a5 n5 c5 y.pct) rfl rfl HRd.out rfl (one_si _ _ _ _ _ _ _ _ _ _ _ _ _ _ _ _ _ _ _) (by decide) ?_; intro w8 y1 y2 y3; have HT8 : Hid (BL w8 w2.heap.size 26 (siC A9 n9 c9 a1 n1 c1 C2 (woutL y.cond s.sts).length q2 a3 n3 c3 C4 (woutL y.carr s.sts).length q4 a5 n5 c5 y.pct)) := Lib.hid y1; have HK8 := Lib.hid y2; clear y1 y2 y3))
       (try simp only [Exit.inBlock, Exit.then])
       have hqb := HQ7.out.kept HXb.out
       have h5 : SiOk wb A9 n9 c9 a1 n1 c1 C2 (woutL y.cond s.sts).length q2 a3 n3 c3 C4 (woutL y.carr s.sts).length q4 a5 n5 c5 (forgetY y s.sts) := ⟨hqb.sp, hqb.need, HLC'.out, hqb.drop, HLD.out, hqb.held, hqb.pct⟩
       have h7 := ((h5.put HKc.out HSb.out).put HKd.out HSc.out).put HK8.out HRd.out
       exact bodyPost_ret (results_at2 w8 Try.results22 (n := 7) (by kernel_rfl) (g := w2.heap.size) (o := 0) rfl (ms := siC A9 n9 c9 a1 n1 c1 C2 (woutL y.cond s.sts).length q2 a3 n3 c3 C4 (woutL y.carr s.sts).length q4 a5 n5 c5 y.pct) (BL.all HT8.out) rfl) rfl ⟨_, rfl, ⟨_, _, _, _, _, _, _, _, _, _, _, _, _, _, _, _, _, _, rfl, h7⟩, ((((Kp.of_below (S := fun _ => False) HBb.out).after HKc.out (fun i hi e => by omega)).after HKd.out (fun i hi e => by omega)).after HK8.out (fun i hi e => by have := HG.out; omega)).below (Nat.le_refl _) (fun _ h => h.elim)⟩
end Go.Proofs.Ytboglaokdgnpaaa
