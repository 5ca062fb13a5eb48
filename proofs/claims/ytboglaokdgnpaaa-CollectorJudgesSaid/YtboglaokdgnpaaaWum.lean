/- The reference's After: a kind that is none; a deletion. -/
import Derived.Test.YtboglaokdgnpaaaWpm
import Derived.Test.YtboglaokdgnpaaaA27
import Derived.Test.YtboglaokdgnpaaaA11
namespace Go.Proofs.Ytboglaokdgnpaaa
open Go Go.RowKit Gf Sha

theorem bldSiq0 (w : World) : (Instr.build 26 #[]).run Try.prog w = .ok (.agg siZ.toArray) w := by kernel_rfl
theorem one_siZ : ∀ v ∈ siZ, v.oneCell' = true := one_val _ rfl
theorem rSi_zero (w : World) : rSi w siZ siE := ⟨none, 0, 0, none, 0, 0, none, 0, 0, none, 0, 0, none, 0, 0, none, 0, 0, rfl, ⟨LS.nil, LS.nil, LS.nil, LS.nil, LS.nil, LS.nil, by rfl⟩⟩
theorem bslPcQ (p : Pc) (w : World) : (Instr.buildSlice 24 1 #[(0, .agg (pcL p).toArray)]).run Try.prog w = .ok (.slice (some ⟨w.heap.size, 0, none⟩) 1 1) (w.alloc (.cells (pcL p).toArray 39)) := by kernel_rfl
set_option maxRecDepth 100000 in
set_option maxHeartbeats 4000000 in
theorem rafter_bad (cx : List Value) (y : Si) (w : World) (hx : rSi w cx y) (cs : List Value) (s : Stp) (hs : rStp w cs s) (B : Option Addr) (l d : Nat) (hk : (decide (s.kind < 1) || decide (4 < s.kind)) = true ∨ (decide (s.kind < 1) = false ∧ decide (4 < s.kind) = false ∧ (s.kind != 1) = true ∧ decide (0 < l) = true)) :
  Calls Try.prog 22 #[.agg cx.toArray, .agg cs.toArray, .slice B l d] w (AfterR siE 1 w) := by
 obtain ⟨a0, n0, c0, a1, n1, c1, a2, n2, c2, a3, n3, c3, a4, n4, c4, a5, n5, c5, rfl, hq⟩ := hx
 obtain ⟨B0, p0, d0, B1, p1, d1, rfl, _⟩ := hs
 clear hq
 cases f1 : decide (s.kind < 1) with
 | true =>
  clear hk
  go_enter Try.func22, Try.ntmps22
  go_wp2_with (first
   | ((with_reducible show OpW 3); refine wpList_box _ rfl 26 (.tmp 0) rfl (siC a0 n0 c0 a1 n1 c1 a2 n2 c2 a3 n3 c3 a4 n4 c4 a5 n5 c5 y.pct) rfl ?_; intro w1 y1 y2 y3; have HB1 := Lib.hid y2; have HS1 := Lib.hid y1; clear y1 y2 y3)
   | ((with_reducible show OpW 4); refine wpList_box _ rfl 42 (.tmp 1) rfl (stC s B0 p0 d0 B1 p1 d1) rfl ?_; intro w2 y1 y2 y3; have HT2 := Lib.hid y1; have HB2 := Lib.hid (below_then HB1.out y2); have HS2 := Lib.hid (HS1.out.kept y2); clear y1 y2 y3)
   | ((with_reducible show OpW 6); refine wpList_alloc _ rfl 26 rfl siZ siqZero ?_; intro w3 y1 y2 y3; have HR3 := Lib.hid y1; have HB3 := Lib.hid (below_then HB2.out y2); have HS3 := Lib.hid (HS2.out.kept y2); have HT3 := Lib.hid (HT2.out.kept y2); have HG := Lib.hid HB2.out.size; have HL1 := Lib.hid HS1.out.lt; have HL2 := Lib.hid HT2.out.lt; have t0 := (HT2.out.kept y2).get (j := 0) rfl; have t1 := (HT2.out.kept y2).get (j := 1) rfl; clear y1 y2 y3)
   | ((with_reducible show OpW 38); refine wpList_build _ rfl 26 #[] rfl #[] (by rfl) (.agg siZ.toArray) (bldSiq0 _) ?_)
   | ((with_reducible show OpN); refine wpList_storev _ rfl 26 (.tmp 6) (.tmp 38) rfl 7 (by kernel_rfl) w2.heap.size 0 _ siZ siZ rfl rfl HR3.out rfl one_siZ (by decide) ?_; intro w9 y1 y2 y3; have HT9 : Hid (BL w9 w2.heap.size 26 siZ) := Lib.hid y1; have HK9 := Lib.hid y2; clear y1 y2 y3)
   | fail)
  (try simp only [Exit.inBlock, Exit.then])
  exact bodyPost_ret (results_at2 w9 Try.results22 (n := 7) (by kernel_rfl) (g := w2.heap.size) (o := 0) rfl (ms := siZ) (BL.all HT9.out) rfl) rfl ⟨_, rfl, rSi_zero _, ((Kp.of_below (S := fun _ => False) HB3.out).after HK9.out (fun i hi e => by have := HG.out; omega)).below (Nat.le_refl _) (fun _ h => h.elim)⟩
 | false =>
  cases f2 : decide (4 < s.kind) with
  | true =>
   clear hk
   go_enter Try.func22, Try.ntmps22
   go_wp2_with (first
    | ((with_reducible show OpW 3); refine wpList_box _ rfl 26 (.tmp 0) rfl (siC a0 n0 c0 a1 n1 c1 a2 n2 c2 a3 n3 c3 a4 n4 c4 a5 n5 c5 y.pct) rfl ?_; intro w1 y1 y2 y3; have HB1 := Lib.hid y2; have HS1 := Lib.hid y1; clear y1 y2 y3)
    | ((with_reducible show OpW 4); refine wpList_box _ rfl 42 (.tmp 1) rfl (stC s B0 p0 d0 B1 p1 d1) rfl ?_; intro w2 y1 y2 y3; have HT2 := Lib.hid y1; have HB2 := Lib.hid (below_then HB1.out y2); have HS2 := Lib.hid (HS1.out.kept y2); clear y1 y2 y3)
    | ((with_reducible show OpW 6); refine wpList_alloc _ rfl 26 rfl siZ siqZero ?_; intro w3 y1 y2 y3; have HR3 := Lib.hid y1; have HB3 := Lib.hid (below_then HB2.out y2); have HS3 := Lib.hid (HS2.out.kept y2); have HT3 := Lib.hid (HT2.out.kept y2); have HG := Lib.hid HB2.out.size; have HL1 := Lib.hid HS1.out.lt; have HL2 := Lib.hid HT2.out.lt; have t0 := (HT2.out.kept y2).get (j := 0) rfl; have t1 := (HT2.out.kept y2).get (j := 1) rfl; clear y1 y2 y3)
    | ((with_reducible show OpW 38); refine wpList_build _ rfl 26 #[] rfl #[] (by rfl) (.agg siZ.toArray) (bldSiq0 _) ?_)
    | ((with_reducible show OpN); refine wpList_storev _ rfl 26 (.tmp 6) (.tmp 38) rfl 7 (by kernel_rfl) w2.heap.size 0 _ siZ siZ rfl rfl HR3.out rfl one_siZ (by decide) ?_; intro w9 y1 y2 y3; have HT9 : Hid (BL w9 w2.heap.size 26 siZ) := Lib.hid y1; have HK9 := Lib.hid y2; clear y1 y2 y3)
    | fail)
   (try simp only [Exit.inBlock, Exit.then])
   exact bodyPost_ret (results_at2 w9 Try.results22 (n := 7) (by kernel_rfl) (g := w2.heap.size) (o := 0) rfl (ms := siZ) (BL.all HT9.out) rfl) rfl ⟨_, rfl, rSi_zero _, ((Kp.of_below (S := fun _ => False) HB3.out).after HK9.out (fun i hi e => by have := HG.out; omega)).below (Nat.le_refl _) (fun _ h => h.elim)⟩
  | false =>
   have f3 : (s.kind != 1) = true := by
    rcases hk with h | h
    ·
     rw [f1, f2] at h; cases h
    ·
     exact h.2.2.1
   have f7 : decide (0 < l) = true := by
    rcases hk with h | h
    ·
     rw [f1, f2] at h; cases h
    ·
     exact h.2.2.2
   clear hk
   go_enter Try.func22, Try.ntmps22
   go_wp2_with (first
    | ((with_reducible show OpW 3); refine wpList_box _ rfl 26 (.tmp 0) rfl (siC a0 n0 c0 a1 n1 c1 a2 n2 c2 a3 n3 c3 a4 n4 c4 a5 n5 c5 y.pct) rfl ?_; intro w1 y1 y2 y3; have HB1 := Lib.hid y2; have HS1 := Lib.hid y1; clear y1 y2 y3)
    | ((with_reducible show OpW 4); refine wpList_box _ rfl 42 (.tmp 1) rfl (stC s B0 p0 d0 B1 p1 d1) rfl ?_; intro w2 y1 y2 y3; have HT2 := Lib.hid y1; have HB2 := Lib.hid (below_then HB1.out y2); have HS2 := Lib.hid (HS1.out.kept y2); clear y1 y2 y3)
    | ((with_reducible show OpW 6); refine wpList_alloc _ rfl 26 rfl siZ siqZero ?_; intro w3 y1 y2 y3; have HR3 := Lib.hid y1; have HB3 := Lib.hid (below_then HB2.out y2); have HS3 := Lib.hid (HS2.out.kept y2); have HT3 := Lib.hid (HT2.out.kept y2); have HG := Lib.hid HB2.out.size; have HL1 := Lib.hid HS1.out.lt; have HL2 := Lib.hid HT2.out.lt; have t0 := (HT2.out.kept y2).get (j := 0) rfl; have t1 := (HT2.out.kept y2).get (j := 1) rfl; clear y1 y2 y3)
    | ((with_reducible show OpW 38); refine wpList_build _ rfl 26 #[] rfl #[] (by rfl) (.agg siZ.toArray) (bldSiq0 _) ?_)
    | ((with_reducible show OpN); refine wpList_storev _ rfl 26 (.tmp 6) (.tmp 38) rfl 7 (by kernel_rfl) w2.heap.size 0 _ siZ siZ rfl rfl HR3.out rfl one_siZ (by decide) ?_; intro w9 y1 y2 y3; have HT9 : Hid (BL w9 w2.heap.size 26 siZ) := Lib.hid y1; have HK9 := Lib.hid y2; clear y1 y2 y3)
    | fail)
   (try simp only [Exit.inBlock, Exit.then])
   exact bodyPost_ret (results_at2 w9 Try.results22 (n := 7) (by kernel_rfl) (g := w2.heap.size) (o := 0) rfl (ms := siZ) (BL.all HT9.out) rfl) rfl ⟨_, rfl, rSi_zero _, ((Kp.of_below (S := fun _ => False) HB3.out).after HK9.out (fun i hi e => by have := HG.out; omega)).below (Nat.le_refl _) (fun _ h => h.elim)⟩
set_option maxRecDepth 100000 in
set_option maxHeartbeats 4000000 in
theorem rafter3_no (cx : List Value) (y : Si) (w : World) (hx : rSi w cx y) (cs : List Value) (s : Stp) (hs : rStp w cs s) (B : Option Addr) (l d : Nat) (hk : s.kind = 3) (hl : l = 0) (h1 : heldB y s.pc = false) :
  Calls Try.prog 22 #[.agg cx.toArray, .agg cs.toArray, .slice B l d] w (AfterR siE 4 w) := by
 obtain ⟨a0, n0, c0, a1, n1, c1, a2, n2, c2, a3, n3, c3, a4, n4, c4, a5, n5, c5, rfl, hq⟩ := hx
 obtain ⟨B0, p0, d0, B1, p1, d1, rfl, _⟩ := hs
 have HQ := Lib.hid hq
 have f1 : decide (s.kind < 1) = false := by rw [hk]; rfl
 have f2 : decide (4 < s.kind) = false := by rw [hk]; rfl
 have f3 : (s.kind != 1) = true := by rw [hk]; rfl
 have f4 : (s.kind == 3) = true := by rw [hk]; rfl
 subst hl
 clear hq hk
 go_enter Try.func22, Try.ntmps22
 go_wp2_with (first
  | ((with_reducible show OpW 3); refine wpList_box _ rfl 26 (.tmp 0) rfl (siC a0 n0 c0 a1 n1 c1 a2 n2 c2 a3 n3 c3 a4 n4 c4 a5 n5 c5 y.pct) rfl ?_; intro w1 y1 y2 y3; have HB1 := Lib.hid y2; have HS1 := Lib.hid y1; clear y1 y2 y3)
  | ((with_reducible show OpW 4); refine wpList_box _ rfl 42 (.tmp 1) rfl (stC s B0 p0 d0 B1 p1 d1) rfl ?_; intro w2 y1 y2 y3; have HT2 := Lib.hid y1; have HB2 := Lib.hid (below_then HB1.out y2); have HS2 := Lib.hid (HS1.out.kept y2); clear y1 y2 y3)
  | ((with_reducible show OpW 6); refine wpList_alloc _ rfl 26 rfl siZ siqZero ?_; intro w3 y1 y2 y3; have HR3 := Lib.hid y1; have HB3 := Lib.hid (below_then HB2.out y2); have HS3 := Lib.hid (HS2.out.kept y2); have HT3 := Lib.hid (HT2.out.kept y2); have HG := Lib.hid HB2.out.size; have HL1 := Lib.hid HS1.out.lt; have HL2 := Lib.hid HT2.out.lt; have t0 := (HT2.out.kept y2).get (j := 0) rfl; have t1 := (HT2.out.kept y2).get (j := 1) rfl; clear y1 y2 y3)
  | ((with_reducible show OpW 42); refine wpList_loadv _ rfl 26 (.tmp 3) rfl 7 (by kernel_rfl) w.heap.size 0 _ rfl (BL.all HS3.out) rfl ?_)
  | ((with_reducible show OpW 44); refine wpList_loadv _ rfl 39 (.tmp 43) rfl 2 (by kernel_rfl) w1.heap.size 2 (pcL s.pc) (by go_simp) (at_two (BL.all HT3.out)) rfl ?_)
  | (go_at_call 64; refine (isheld_any _ y s.pc _ (show rSi w3 _ _ from ⟨a0, n0, c0, a1, n1, c1, a2, n2, c2, a3, n3, c3, a4, n4, c4, a5, n5, c5, rfl, HQ.out.kept HB3.out⟩)).mono ?_; rintro e wh ⟨rfl, b4⟩; rw [h1]; have HBh := Lib.hid (below_thenB HB3.out HB3.out.size b4); have HRh := Lib.hid (HR3.out.kept b4); have HSh := Lib.hid (HS3.out.kept b4); have HTh := Lib.hid (HT3.out.kept b4); have s5 := (HS3.out.kept b4).get (j := 5) rfl; clear b4)
  | ((with_reducible show OpW 47); refine wpList_build _ rfl 26 #[] rfl #[] (by rfl) (.agg siZ.toArray) (bldSiq0 _) ?_)
  | ((with_reducible show OpN); refine wpList_storev _ rfl 26 (.tmp 6) (.tmp 47) rfl 7 (by kernel_rfl) w2.heap.size 0 _ siZ siZ rfl rfl HRh.out rfl one_siZ (by decide) ?_; intro w9 y1 y2 y3; have HT9 : Hid (BL w9 w2.heap.size 26 siZ) := Lib.hid y1; have HK9 := Lib.hid y2; clear y1 y2 y3)
  | fail)
 (try simp only [Exit.inBlock, Exit.then])
 exact bodyPost_ret (results_at2 w9 Try.results22 (n := 7) (by kernel_rfl) (g := w2.heap.size) (o := 0) rfl (ms := siZ) (BL.all HT9.out) rfl) rfl ⟨_, rfl, rSi_zero _, ((Kp.of_below (S := fun _ => False) HBh.out).after HK9.out (fun i hi e => by have := HG.out; omega)).below (Nat.le_refl _) (fun _ h => h.elim)⟩
set_option maxRecDepth 100000 in
set_option maxHeartbeats 8000000 in
theorem rafter3 (cx : List Value) (y : Si) (w : World) (hx : rSi w cx y) (cs : List Value) (s : Stp) (hs : rStp w cs s) (B : Option Addr) (l d : Nat) (hk : s.kind = 3) (hl : l = 0) (h1 : heldB y s.pc = true) :
  Calls Try.prog 22 #[.agg cx.toArray, .agg cs.toArray, .slice B l d] w (AfterR (dropHeld y s.pc) 0 w) := by
 obtain ⟨a0, n0, c0, a1, n1, c1, a2, n2, c2, a3, n3, c3, a4, n4, c4, a5, n5, c5, rfl, hq⟩ := hx
 obtain ⟨B0, p0, d0, B1, p1, d1, rfl, _⟩ := hs
 have hn := hq.held.len_le
 have HQ := Lib.hid hq
 have HL := Lib.hid hq.held.1
 have HLL := Lib.hid hq.held.2.2.1
 have f1 : decide (s.kind < 1) = false := by rw [hk]; rfl
 have f2 : decide (4 < s.kind) = false := by rw [hk]; rfl
 have f3 : (s.kind != 1) = true := by rw [hk]; rfl
 have f4 : (s.kind == 3) = true := by rw [hk]; rfl
 subst hl
 clear hq hk
 go_enter Try.func22, Try.ntmps22
 go_wp2_with (first
  | ((with_reducible show OpW 3); refine wpList_box _ rfl 26 (.tmp 0) rfl (siC a0 n0 c0 a1 n1 c1 a2 n2 c2 a3 n3 c3 a4 n4 c4 a5 n5 c5 y.pct) rfl ?_; intro w1 y1 y2 y3; have HB1 := Lib.hid y2; have HS1 := Lib.hid y1; clear y1 y2 y3)
  | ((with_reducible show OpW 4); refine wpList_box _ rfl 42 (.tmp 1) rfl (stC s B0 p0 d0 B1 p1 d1) rfl ?_; intro w2 y1 y2 y3; have HT2 := Lib.hid y1; have HB2 := Lib.hid (below_then HB1.out y2); have HS2 := Lib.hid (HS1.out.kept y2); clear y1 y2 y3)
  | ((with_reducible show OpW 6); refine wpList_alloc _ rfl 26 rfl siZ siqZero ?_; intro w3 y1 y2 y3; have HR3 := Lib.hid y1; have HB3 := Lib.hid (below_then HB2.out y2); have HS3 := Lib.hid (HS2.out.kept y2); have HT3 := Lib.hid (HT2.out.kept y2); have HG := Lib.hid HB2.out.size; have HL1 := Lib.hid HS1.out.lt; have HL2 := Lib.hid HT2.out.lt; have t0 := (HT2.out.kept y2).get (j := 0) rfl; have t1 := (HT2.out.kept y2).get (j := 1) rfl; clear y1 y2 y3)
  | ((with_reducible show OpW 42); refine wpList_loadv _ rfl 26 (.tmp 3) rfl 7 (by kernel_rfl) w.heap.size 0 _ rfl (BL.all HS3.out) rfl ?_)
  | ((with_reducible show OpW 44); refine wpList_loadv _ rfl 39 (.tmp 43) rfl 2 (by kernel_rfl) w1.heap.size 2 (pcL s.pc) (by go_simp) (at_two (BL.all HT3.out)) rfl ?_)
  | (go_at_call 64; refine (isheld_any _ y s.pc _ (show rSi w3 _ _ from ⟨a0, n0, c0, a1, n1, c1, a2, n2, c2, a3, n3, c3, a4, n4, c4, a5, n5, c5, rfl, HQ.out.kept HB3.out⟩)).mono ?_; rintro e wh ⟨rfl, b4⟩; rw [h1]; have HBh := Lib.hid (below_thenB HB3.out HB3.out.size b4); have HRh := Lib.hid (HR3.out.kept b4); have HSh := Lib.hid (HS3.out.kept b4); have HTh := Lib.hid (HT3.out.kept b4); have s5 := (HS3.out.kept b4).get (j := 5) rfl; clear b4)
  | fail)
 clear s5 t0 t1
 go_loopw [8, 51] (fun v iv wr => ∃ k : Nat, k ≤ n5 ∧ iv = .int .i64 (k : Int) ∧ Hid (OL rPc 2 39 wh wr v ((y.held.take k).filter fun q => !decide (q = s.pc))) ∧ Hid (Below wh.heap.size wh wr)) (fun _ iv _ => n5 - (intOf iv).toNat)
 case atStart => exact ⟨0, by omega, rfl, Lib.hid (OL.nil _ _ _ _ _), Lib.hid (Below.refl _ _)⟩
 case round =>
  obtain ⟨k, hk, rfl, ho, hb⟩ := hrel
  obtain ⟨wx, hwx⟩ : ∃ x, x = wr := ⟨_, rfl⟩
  rw [← hwx] at ho hb ⊢
  clear hwx
  have HBx := Lib.hid (below_thenB HBh.out HBh.out.size hb.out)
  by_cases hlt : k < n5
  ·
   obtain ⟨q, g, o, cq, hq, ea, hat, rfl, hok⟩ := HQ.out.held.at_ stay_pc (Below.refl _ _) hlt
   have HX := Lib.hid hq
   have HOK := Lib.hid hok
   have HA := Lib.hid (hat.kept HBx.out)
   have HFL : Hid (((y.held.take k).filter fun q => !decide (q = s.pc)).length ≤ k) := Lib.hid (Nat.le_trans (List.length_filter_le _ _) (by rw [List.length_take]; omega))
   subst ea
   clear hq hat hok
   by_cases he : q = s.pc
   ·
    have HF : Hid (((y.held.take (k + 1)).filter fun q => !decide (q = s.pc)) = (y.held.take k).filter fun q => !decide (q = s.pc)) := Lib.hid (by rw [filt_step HX.out]; simp [he])
    have er : ∀ w, (Op.equalIn 10000 39 (.agg (pcL q).toArray) (.agg (pcL s.pc).toArray)).run Try.prog w = .ok true w := fun w => by rw [eqIn_pc, decide_eq_true he]
    clear he
    have HTx := Lib.hid (HTh.out.kept hb.out)
    go_wp2_with (first
     | ((with_reducible show OpW 54); refine wpList_loadv _ rfl 39 (.tmp 53) rfl 2 (by kernel_rfl) g (o + k * 2) (pcL q) (by go_simp) HA.out rfl ?_)
     | ((with_reducible show OpW 10); refine wpList_alloc _ rfl 39 rfl pcZ pcZero ?_; intro w3 a1 a2 a3; have HV3 := Lib.hid a1; have HX3 := Lib.hid a2; clear a1 a2 a3)
     | ((with_reducible show OpN); refine wpList_storev _ rfl 39 (.tmp 10) (.tmp 54) rfl 2 (by kernel_rfl) wx.heap.size 0 _ pcZ (pcL q) rfl rfl HV3.out rfl (one_pc q) (by decide) ?_; intro w4 a1 a2 a3; have HV4 : Hid (BL w4 wx.heap.size 39 (pcL q)) := Lib.hid a1; have HX4 : Hid (Below wx.heap.size wx w4) := Lib.hid (((Kp.of_below (S := fun _ => False) HX3.out).after a2 (fun i hi e => by omega)).below (Nat.le_refl _) (fun _ h => h.elim)); clear a1 a2 a3)
     | ((with_reducible show OpW 55); refine wpList_loadv _ rfl 39 (.tmp 10) rfl 2 (by kernel_rfl) wx.heap.size 0 (pcL q) rfl (BL.all HV4.out) rfl ?_)
     | ((with_reducible show OpW 57); refine wpList_loadv _ rfl 39 (.tmp 56) rfl 2 (by kernel_rfl) w1.heap.size 2 (pcL s.pc) (by go_simp) (at_two (BL.all (HTx.out.kept HX4.out))) rfl ?_)
     )
    go_roundw
    case rel => exact ⟨k + 1, by omega, by go_num, Lib.hid (by rw [HF.out]; exact ho.out.kept HX4.out), Lib.hid (below_thenB hb.out hb.out.size HX4.out)⟩
    case measure => simp [intOf]; omega
   ·
    have HF : Hid (((y.held.take (k + 1)).filter fun q => !decide (q = s.pc)) = ((y.held.take k).filter fun q => !decide (q = s.pc)) ++ [q]) := Lib.hid (by rw [filt_step HX.out]; simp [he])
    have er : ∀ w, (Op.equalIn 10000 39 (.agg (pcL q).toArray) (.agg (pcL s.pc).toArray)).run Try.prog w = .ok false w := fun w => by rw [eqIn_pc, decide_eq_false he]
    clear he
    obtain ⟨nf, hnf⟩ : ∃ nf, ((y.held.take k).filter fun q => !decide (q = s.pc)).length = nf := ⟨_, rfl⟩
    obtain ⟨css, hc1, hc2, hc3, hc4, hc5⟩ := ho.out
    rw [hnf] at hc4
    have HNF : Hid (nf ≤ k) := Lib.hid (by rw [← hnf]; exact HFL.out)
    have HN := Lib.hid hnf
    have HC1 := Lib.hid hc1
    have HC2 := Lib.hid hc2
    have HC3 := Lib.hid hc3
    have HC4 := Lib.hid hc4
    have HC5 := Lib.hid hc5
    clear hnf hc1 hc2 hc3 hc4 hc5
    have HTx := Lib.hid (HTh.out.kept hb.out)
    go_wp2_with (first
     | ((with_reducible show OpW 54); refine wpList_loadv _ rfl 39 (.tmp 53) rfl 2 (by kernel_rfl) g (o + k * 2) (pcL q) (by go_simp) HA.out rfl ?_)
     | ((with_reducible show OpW 10); refine wpList_alloc _ rfl 39 rfl pcZ pcZero ?_; intro w3 a1 a2 a3; have HV3 := Lib.hid a1; have HX3 := Lib.hid a2; clear a1 a2 a3)
     | ((with_reducible show OpN); refine wpList_storev _ rfl 39 (.tmp 10) (.tmp 54) rfl 2 (by kernel_rfl) wx.heap.size 0 _ pcZ (pcL q) rfl rfl HV3.out rfl (one_pc q) (by decide) ?_; intro w4 a1 a2 a3; have HV4 : Hid (BL w4 wx.heap.size 39 (pcL q)) := Lib.hid a1; have HX4 : Hid (Below wx.heap.size wx w4) := Lib.hid (((Kp.of_below (S := fun _ => False) HX3.out).after a2 (fun i hi e => by omega)).below (Nat.le_refl _) (fun _ h => h.elim)); clear a1 a2 a3)
     | ((with_reducible show OpW 55); refine wpList_loadv _ rfl 39 (.tmp 10) rfl 2 (by kernel_rfl) wx.heap.size 0 (pcL q) rfl (BL.all HV4.out) rfl ?_)
     | ((with_reducible show OpW 57); refine wpList_loadv _ rfl 39 (.tmp 56) rfl 2 (by kernel_rfl) w1.heap.size 2 (pcL s.pc) (by go_simp) (at_two (BL.all (HTx.out.kept HX4.out))) rfl ?_)
     | ((with_reducible show OpW 60); refine wpList_loadv _ rfl 39 (.tmp 10) rfl 2 (by kernel_rfl) wx.heap.size 0 (pcL q) rfl (BL.all HV4.out) rfl ?_) | ((with_reducible show OpW 61); refine wpList_bslice _ rfl 24 39 1 _ rfl #[(0, .agg (pcL q).toArray)] (by rw [List.map_toArray]; rfl) (pcL q) (bslPcQ q _) ?_; intro w5 a1 a2 a3; have HG5 := Lib.hid a1; have HX5 := Lib.hid (below_thenB HX4.out HX4.out.size a2); clear a1 a2 a3) | ((with_reducible show OpW 62); obtain ⟨iS, i1, i2, i3, i4⟩ := info_some infoPc; refine wpList_appRW _ rfl (.tmp 59) (.tmp 61) 24 39 2 iS _ rfl Try.underlying24 i1 i2 i3 rfl _ nf _ rfl (HC4.out.kept HX5.out) w4.heap.size _ rfl HG5.out rfl (one_pc q) (by rw [i4]; have := HNF.out; omega) (by have := HNF.out; omega) ?_; intro v' w6 a1; have HR6 := Lib.hid a1; clear a1 i1 i2 i3 i4))
    have HY5 : Hid (Below wh.heap.size wh w5) := Lib.hid (below_thenB hb.out hb.out.size HX5.out)
    have HY6 : Hid (Below wh.heap.size wh w6) := Lib.hid (((Kp.of_below (S := fun _ => False) HY5.out).after HR6.out.kp (fun i hi e => by have := HC5.out i e; omega)).below (Nat.le_refl _) (fun _ h => h.elim))
    have HO6 : Hid (OL rPc 2 39 wh w6 v' ((y.held.take (k + 1)).filter fun q => !decide (q = s.pc))) := Lib.hid (by
     rw [HF.out]
     exact OL.push HC1.out HC2.out HC3.out HC5.out HN.out rfl ⟨rfl, HOK.out⟩ HY5.out.size HR6.out)
    go_roundw
    case rel => exact ⟨k + 1, by omega, by go_num, HO6, HY6⟩
    case measure => simp [intOf]; omega
  ·
   obtain rfl : k = n5 := by omega
   have h9 := ho.out
   rw [take_end HL.out] at h9
   have HFL : Hid ((dropHeld y s.pc).held.length * 24 ≤ lim) := Lib.hid (Nat.le_trans (Nat.mul_le_mul_right _ (Nat.le_trans (List.length_filter_le _ _) (by rw [HL.out]; exact Nat.le_refl _))) HLL.out)
   obtain ⟨A9, c9, e9, l9⟩ := OL.ls (b := 24) (L := (dropHeld y s.pc).held) h9 stay_pc hb.out HFL.out
   have HL9 := Lib.hid l9
   subst e9
   obtain ⟨n9, hn9⟩ : ∃ n9, n9 = (dropHeld y s.pc).held.length := ⟨_, rfl⟩
   rw [← hn9] at HL9 ⊢
   clear hn9 h9 l9 ho HFL
   have HSx := Lib.hid (HSh.out.kept hb.out)
   have HRx := Lib.hid (HRh.out.kept hb.out)
   have HQx := Lib.hid (HQ.out.kept HBx.out)
   have HLT : Hid (w.heap.size < w2.heap.size) := Lib.hid (by have := HL1.out; have := HL2.out; omega)
   go_wp2_with (first
    | ((with_reducible show OpN); refine wpList_store1 _ rfl 24 (.tmp 65) (.tmp 64) rfl (slSz _ (by kernel_rfl) _) w.heap.size 5 _ _ (.slice A9 n9 c9) rfl rfl HSx.out rfl rfl (by simp) ?_; intro w7 y1 y2 y3; have HS7 : Hid (BL w7 w.heap.size 26 (siC a0 n0 c0 a1 n1 c1 a2 n2 c2 a3 n3 c3 a4 n4 c4 A9 n9 c9 y.pct)) := Lib.hid y1; have HK7 := Lib.hid y2; clear y1 y2 y3)
    | ((with_reducible show OpW 66); have HR7 := Lib.hid (HK7.out.bl HRx.out (fun e => by have := HLT.out; omega)); refine wpList_loadv _ rfl 26 (.tmp 3) rfl 7 (by kernel_rfl) w.heap.size 0 _ rfl (BL.all HS7.out) rfl ?_)
    | ((with_reducible show OpN); refine wpList_storev _ rfl 26 (.tmp 6) (.tmp 66) rfl 7 (by kernel_rfl) w2.heap.size 0 _ siZ (siC a0 n0 c0 a1 n1 c1 a2 n2 c2 a3 n3 c3 a4 n4 c4 A9 n9 c9 y.pct) rfl rfl HR7.out rfl (one_si _ _ _ _ _ _ _ _ _ _ _ _ _ _ _ _ _ _ _) (by decide) ?_; intro w8 y1 y2 y3; have HT8 : Hid (BL w8 w2.heap.size 26 (siC a0 n0 c0 a1 n1 c1 a2 n2 c2 a3 n3 c3 a4 n4 c4 A9 n9 c9 y.pct)) := Lib.hid y1; have HK8 := Lib.hid y2; clear y1 y2 y3))
   (try simp only [Exit.inBlock, Exit.then])
   have h5 : SiOk wx a0 n0 c0 a1 n1 c1 a2 n2 c2 a3 n3 c3 a4 n4 c4 A9 n9 c9 (dropHeld y s.pc) := ⟨HQx.out.sp, HQx.out.need, HQx.out.cond, HQx.out.drop, HQx.out.carr, HL9.out, HQx.out.pct⟩
   have h7 := (h5.put HK7.out HSx.out).put HK8.out HR7.out
   exact bodyPost_ret (results_at2 w8 Try.results22 (n := 7) (by kernel_rfl) (g := w2.heap.size) (o := 0) rfl (ms := siC a0 n0 c0 a1 n1 c1 a2 n2 c2 a3 n3 c3 a4 n4 c4 A9 n9 c9 y.pct) (BL.all HT8.out) rfl) rfl ⟨_, rfl, ⟨_, _, _, _, _, _, _, _, _, _, _, _, _, _, _, _, _, _, rfl, h7⟩, (((Kp.of_below (S := fun _ => False) HBx.out).after HK7.out (fun i hi e => by omega)).after HK8.out (fun i hi e => by have := HG.out; omega)).below (Nat.le_refl _) (fun _ h => h.elim)⟩
end Go.Proofs.Ytboglaokdgnpaaa
