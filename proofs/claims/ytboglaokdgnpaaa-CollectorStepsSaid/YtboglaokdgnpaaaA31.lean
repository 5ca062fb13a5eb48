/- Several texts in one: We, Wf, Wd. -/
import Derived.Test.YtboglaokdgnpaaaA15
import Derived.Test.YtboglaokdgnpaaaA26
import Derived.Test.YtboglaokdgnpaaaA8
import Derived.Test.YtboglaokdgnpaaaA5
/- law49: same; two lists are equal. -/
namespace Go.Proofs.Ytboglaokdgnpaaa
open Go Go.RowKit Gf Sha

end Go.Proofs.Ytboglaokdgnpaaa
/- law49: large, to, from, step, back. -/
namespace Go.Proofs.Ytboglaokdgnpaaa
open Go Go.RowKit Gf Sha

/-- Is a situation larger than the statements consider? -/
def largeB (x : Si) : Bool := x.sp.any (fun s => decide (10 < s.refs.length)) || (decide (20 < x.sp.length) || (decide (40 < x.need.length) || (decide (40 < x.cond.length) || (decide (40 < x.drop.length) || (decide (40 < x.carr.length) || decide (40 < x.held.length))))))
theorem large_no {x : Si} (h : largeB x = false) : x.sp.length ≤ 20 ∧ x.need.length ≤ 40 ∧ x.cond.length ≤ 40 ∧ x.drop.length ≤ 40 ∧ x.carr.length ≤ 40 ∧ x.held.length ≤ 40 := by
 simp only [largeB, Bool.or_eq_false_iff, decide_eq_false_iff_not] at h
 omega
set_option maxRecDepth 100000 in
set_option maxHeartbeats 4000000 in
theorem large_any (cx : List Value) (x : Si) (w : World) (hx : rSi w cx x) :
  Calls Try.prog 10 #[.agg cx.toArray] w fun e w' => e = .returned (.bool (largeB x)) ∧ Below w.heap.size w w' := by
 obtain ⟨a0, n0, c0, a1, n1, c1, a2, n2, c2, a3, n3, c3, a4, n4, c4, a5, n5, c5, rfl, hq⟩ := hx
 have hn := hq.sp.len_le
 have H := Lib.hid hq
 have L0 := Lib.hid hq.sp.1
 have L1 := Lib.hid hq.need.1
 have L2 := Lib.hid hq.cond.1
 have L3 := Lib.hid hq.drop.1
 have L4 := Lib.hid hq.carr.1
 have L5 := Lib.hid hq.held.1
 clear hq
 go_enter Try.func10, Try.ntmps10
 go_wp2_with (first
  | ((with_reducible show OpW 1); refine wpList_box _ rfl 26 (.tmp 0) rfl (siC a0 n0 c0 a1 n1 c1 a2 n2 c2 a3 n3 c3 a4 n4 c4 a5 n5 c5 x.pct) rfl ?_; intro w1 a1 a2 a3; have HB1 := Lib.hid a2; have HS1 := Lib.hid a1; have q0 := a1.get (j := 0) rfl; clear a1 a2 a3))
 clear q0
 go_loopw [8] (fun iv wr => ∃ k : Nat, k ≤ n0 ∧ iv = .int .i64 (k : Int) ∧ Hid ((x.sp.take k).any (fun s => decide (10 < s.refs.length)) = false) ∧ Hid (Below w1.heap.size w1 wr)) (fun iv _ => n0 - (intOf iv).toNat)
 case atStart => exact ⟨0, by omega, rfl, Lib.hid rfl, Lib.hid (Below.refl _ _)⟩
 case round =>
  obtain ⟨k, hk, rfl, hall, hb⟩ := hrel
  obtain ⟨wx, hwx⟩ : ∃ x, x = wr := ⟨_, rfl⟩
  rw [← hwx] at hb ⊢
  clear hwx
  have HBx := Lib.hid (below_thenB HB1.out HB1.out.size hb.out)
  by_cases hlt : k < n0
  ·
   obtain ⟨s, g, o, cs, hs, rfl, hat, hsp⟩ := H.out.sp.at_ stay_sp (Below.refl _ _) hlt
   obtain ⟨A, m, c, rfl, hlr, _⟩ := hsp
   have HA := Lib.hid (hat.kept HBx.out)
   have HX := Lib.hid hs
   have HM := Lib.hid hlr.1
   clear hs hat hlr
   by_cases h1 : 10 < m
   ·
    have e1 : decide (10 < m) = true := decide_eq_true h1
    have e2 : decide ((10 : Int) < (m : Int)) = true := decide_eq_true (by omega)
    have HR : Hid (largeB x = true) := Lib.hid (by rw [largeB, any_hit HX.out (by rw [HM.out]; exact e1)]; rfl)
    clear h1
    go_wp2_with (first
     | ((with_reducible show OpW 11); refine wpList_loadv _ rfl 61 (.tmp 10) rfl 6 (by kernel_rfl) g (o + k * 6) (spC s A m c) (by go_simp) HA.out rfl ?_)
     | ((with_reducible show OpW 4); refine wpList_alloc _ rfl 61 rfl spZ spZero ?_; intro w3 a1 a2 a3; have HV3 := Lib.hid a1; have HX3 := Lib.hid a2; clear a1 a2 a3)
     | ((with_reducible show OpN); refine wpList_storev _ rfl 61 (.tmp 4) (.tmp 11) rfl 6 (by kernel_rfl) wx.heap.size 0 _ spZ (spC s A m c) rfl rfl HV3.out rfl (one_sp s A m c) (by decide) ?_; intro w4 a1 a2 a3; have HV4 : Hid (BL w4 wx.heap.size 61 (spC s A m c)) := Lib.hid a1; have HX4 : Hid (Below wx.heap.size wx w4) := Lib.hid (((Kp.of_below (S := fun _ => False) HX3.out).after a2 (fun i hi e => by omega)).below (Nat.le_refl _) (fun _ h => h.elim)); clear a1 a2 a3; have r5 := HV4.out.get (j := 5) rfl)
     | fail)
    go_ret
    exact ⟨ret_bool HR.out.symm, below_thenB HBx.out HBx.out.size HX4.out⟩
   ·
    have e1 : decide (10 < m) = false := decide_eq_false h1
    have e2 : decide ((10 : Int) < (m : Int)) = false := decide_eq_false (by omega)
    have HR : Hid ((x.sp.take (k + 1)).any (fun s => decide (10 < s.refs.length)) = false) := Lib.hid (any_step HX.out hall.out (by rw [HM.out]; exact e1))
    clear h1
    go_wp2_with (first
     | ((with_reducible show OpW 11); refine wpList_loadv _ rfl 61 (.tmp 10) rfl 6 (by kernel_rfl) g (o + k * 6) (spC s A m c) (by go_simp) HA.out rfl ?_)
     | ((with_reducible show OpW 4); refine wpList_alloc _ rfl 61 rfl spZ spZero ?_; intro w3 a1 a2 a3; have HV3 := Lib.hid a1; have HX3 := Lib.hid a2; clear a1 a2 a3)
     | ((with_reducible show OpN); refine wpList_storev _ rfl 61 (.tmp 4) (.tmp 11) rfl 6 (by kernel_rfl) wx.heap.size 0 _ spZ (spC s A m c) rfl rfl HV3.out rfl (one_sp s A m c) (by decide) ?_; intro w4 a1 a2 a3; have HV4 : Hid (BL w4 wx.heap.size 61 (spC s A m c)) := Lib.hid a1; have HX4 : Hid (Below wx.heap.size wx w4) := Lib.hid (((Kp.of_below (S := fun _ => False) HX3.out).after a2 (fun i hi e => by omega)).below (Nat.le_refl _) (fun _ h => h.elim)); clear a1 a2 a3; have r5 := HV4.out.get (j := 5) rfl)
     | fail)
    go_roundw
    case rel => exact ⟨k + 1, by omega, by go_num, HR, Lib.hid (below_thenB hb.out hb.out.size HX4.out)⟩
    case measure => simp [intOf]; omega
  ·
   obtain rfl : k = n0 := by omega
   have HALL : Hid (x.sp.any (fun s => decide (10 < s.refs.length)) = false) := Lib.hid (by have := hall.out; rw [take_end L0.out] at this; exact this)
   have q0 := (HS1.out.kept hb.out).get (j := 0) rfl
   have q1 := (HS1.out.kept hb.out).get (j := 1) rfl
   have q2 := (HS1.out.kept hb.out).get (j := 2) rfl
   have q3 := (HS1.out.kept hb.out).get (j := 3) rfl
   have q4 := (HS1.out.kept hb.out).get (j := 4) rfl
   have q5 := (HS1.out.kept hb.out).get (j := 5) rfl
   clear hk hlt
   by_cases hc : 20 < k
   ·
    have f1 : decide (20 < k) = true := decide_eq_true hc
    have f2 : decide ((20 : Int) < (k : Int)) = true := decide_eq_true (by omega)
    have HR : Hid (largeB x = true) := Lib.hid (by simp [largeB, L0.out, hc])
    clear hc
    go_wp2_with fail
    go_ret
    exact ⟨ret_bool HR.out.symm, below_thenB HB1.out HB1.out.size hb.out⟩
   have f01 : decide (20 < k) = false := decide_eq_false hc
   have f02 : decide ((20 : Int) < (k : Int)) = false := decide_eq_false (by omega)
   replace hc := Lib.hid hc
   have H0 := hc
   clear hc
   by_cases hc : 40 < n1
   ·
    have f1 : decide (40 < n1) = true := decide_eq_true hc
    have f2 : decide ((40 : Int) < (n1 : Int)) = true := decide_eq_true (by omega)
    have HR : Hid (largeB x = true) := Lib.hid (by simp [largeB, L1.out, hc])
    clear hc
    go_wp2_with fail
    go_ret
    exact ⟨ret_bool HR.out.symm, below_thenB HB1.out HB1.out.size hb.out⟩
   have f11 : decide (40 < n1) = false := decide_eq_false hc
   have f12 : decide ((40 : Int) < (n1 : Int)) = false := decide_eq_false (by omega)
   replace hc := Lib.hid hc
   have H1 := hc
   clear hc
   by_cases hc : 40 < n2
   ·
    have f1 : decide (40 < n2) = true := decide_eq_true hc
    have f2 : decide ((40 : Int) < (n2 : Int)) = true := decide_eq_true (by omega)
    have HR : Hid (largeB x = true) := Lib.hid (by simp [largeB, L2.out, hc])
    clear hc
    go_wp2_with fail
    go_ret
    exact ⟨ret_bool HR.out.symm, below_thenB HB1.out HB1.out.size hb.out⟩
   have f21 : decide (40 < n2) = false := decide_eq_false hc
   have f22 : decide ((40 : Int) < (n2 : Int)) = false := decide_eq_false (by omega)
   replace hc := Lib.hid hc
   have H2 := hc
   clear hc
   by_cases hc : 40 < n3
   ·
    have f1 : decide (40 < n3) = true := decide_eq_true hc
    have f2 : decide ((40 : Int) < (n3 : Int)) = true := decide_eq_true (by omega)
    have HR : Hid (largeB x = true) := Lib.hid (by simp [largeB, L3.out, hc])
    clear hc
    go_wp2_with fail
    go_ret
    exact ⟨ret_bool HR.out.symm, below_thenB HB1.out HB1.out.size hb.out⟩
   have f31 : decide (40 < n3) = false := decide_eq_false hc
   have f32 : decide ((40 : Int) < (n3 : Int)) = false := decide_eq_false (by omega)
   replace hc := Lib.hid hc
   have H3 := hc
   clear hc
   by_cases hc : 40 < n4
   ·
    have f1 : decide (40 < n4) = true := decide_eq_true hc
    have f2 : decide ((40 : Int) < (n4 : Int)) = true := decide_eq_true (by omega)
    have HR : Hid (largeB x = true) := Lib.hid (by simp [largeB, L4.out, hc])
    clear hc
    go_wp2_with fail
    go_ret
    exact ⟨ret_bool HR.out.symm, below_thenB HB1.out HB1.out.size hb.out⟩
   have f41 : decide (40 < n4) = false := decide_eq_false hc
   have f42 : decide ((40 : Int) < (n4 : Int)) = false := decide_eq_false (by omega)
   replace hc := Lib.hid hc
   have H4 := hc
   clear hc
   by_cases hc : 40 < n5
   ·
    have f1 : decide (40 < n5) = true := decide_eq_true hc
    have f2 : decide ((40 : Int) < (n5 : Int)) = true := decide_eq_true (by omega)
    have HR : Hid (largeB x = true) := Lib.hid (by simp [largeB, L5.out, hc])
    clear hc
    go_wp2_with fail
    go_ret
    exact ⟨ret_bool HR.out.symm, below_thenB HB1.out HB1.out.size hb.out⟩
   have f51 : decide (40 < n5) = false := decide_eq_false hc
   have f52 : decide ((40 : Int) < (n5 : Int)) = false := decide_eq_false (by omega)
   replace hc := Lib.hid hc
   have H5 := hc
   clear hc
   have HR : Hid (largeB x = false) := Lib.hid (by rw [largeB, HALL.out, L0.out, L1.out, L2.out, L3.out, L4.out, L5.out, f01, f11, f21, f31, f41, f51]; rfl)
   go_wp2_with fail
   go_ret
   exact ⟨ret_bool HR.out.symm, HBx.out⟩
theorem toZero : (Try.prog.info? 33).map (·.zero) = some (some (.agg siZ.toArray)) := by kernel_rfl
theorem bldTo (b0 : Option Addr) (k0 d0 : Nat) (b1 : Option Addr) (k1 d1 : Nat) (b2 : Option Addr) (k2 d2 : Nat) (b3 : Option Addr) (k3 d3 : Nat) (b4 : Option Addr) (k4 d4 : Nat) (b5 : Option Addr) (k5 d5 : Nat) (p : Int) (w : World) :
  (Instr.build 33 #[(0, .slice b0 k0 d0), (1, .slice b1 k1 d1), (2, .slice b2 k2 d2), (3, .slice b3 k3 d3), (4, .slice b4 k4 d4), (5, .slice b5 k5 d5), (6, .int .i64 p)]).run Try.prog w = .ok (.agg (siC b0 k0 d0 b1 k1 d1 b2 k2 d2 b3 k3 d3 b4 k4 d4 b5 k5 d5 p).toArray) w := by kernel_rfl
set_option maxRecDepth 100000 in
set_option maxHeartbeats 1000000 in
theorem to_any (a0 : Option Addr) (n0 c0 : Nat) (a1 : Option Addr) (n1 c1 : Nat) (a2 : Option Addr) (n2 c2 : Nat) (a3 : Option Addr) (n3 c3 : Nat) (a4 : Option Addr) (n4 c4 : Nat) (a5 : Option Addr) (n5 c5 : Nat) (p : Int) (w : World) :
  Calls Try.prog 12 #[.agg (siC a0 n0 c0 a1 n1 c1 a2 n2 c2 a3 n3 c3 a4 n4 c4 a5 n5 c5 p).toArray] w fun e w' => e = .returned (.agg (siC a0 n0 c0 a1 n1 c1 a2 n2 c2 a3 n3 c3 a4 n4 c4 a5 n5 c5 p).toArray) ∧ Below w.heap.size w w' := by
 go_enter Try.func12, Try.ntmps12
 go_wp2_with (first
  | ((with_reducible show OpW 1); refine wpList_box _ rfl 26 (.tmp 0) rfl (siC a0 n0 c0 a1 n1 c1 a2 n2 c2 a3 n3 c3 a4 n4 c4 a5 n5 c5 p) rfl ?_; intro w1 a1 a2 a3; have HB1 := Lib.hid a2; have HS1 := Lib.hid a1; clear a1 a2 a3)
  | ((with_reducible show OpW 2); refine wpList_alloc _ rfl 33 rfl siZ toZero ?_; intro w2 a1 a2 a3; have HR2 := Lib.hid a1; have HB2 := Lib.hid (below_then HB1.out a2); have hs := HS1.out.kept a2; have q0 := hs.get (j := 0) rfl; have q1 := hs.get (j := 1) rfl; have q2 := hs.get (j := 2) rfl; have q3 := hs.get (j := 3) rfl; have q4 := hs.get (j := 4) rfl; have q5 := hs.get (j := 5) rfl; have q6 := hs.get (j := 6) rfl; have HG := Lib.hid HB1.out.size; clear a1 a2 a3 hs)
  | ((with_reducible show OpW 17); refine wpList_build _ rfl 33 #[(0, .tmp 4), (1, .tmp 6), (2, .tmp 8), (3, .tmp 10), (4, .tmp 12), (5, .tmp 14), (6, .tmp 16)] rfl #[(0, .slice a0 n0 c0), (1, .slice a1 n1 c1), (2, .slice a2 n2 c2), (3, .slice a3 n3 c3), (4, .slice a4 n4 c4), (5, .slice a5 n5 c5), (6, .int .i64 p)] (by rw [List.map_toArray]; rfl) (.agg (siC a0 n0 c0 a1 n1 c1 a2 n2 c2 a3 n3 c3 a4 n4 c4 a5 n5 c5 p).toArray) (bldTo _ _ _ _ _ _ _ _ _ _ _ _ _ _ _ _ _ _ _ _) ?_)
  | ((with_reducible show OpN); refine wpList_storev _ rfl 33 (.tmp 2) (.tmp 17) rfl 7 (by kernel_rfl) w1.heap.size 0 _ siZ (siC a0 n0 c0 a1 n1 c1 a2 n2 c2 a3 n3 c3 a4 n4 c4 a5 n5 c5 p) rfl rfl HR2.out rfl (one_si _ _ _ _ _ _ _ _ _ _ _ _ _ _ _ _ _ _ _) (by decide) ?_; intro w3 y1 y2 y3; have HT3 : Hid (BL w3 w1.heap.size 33 (siC a0 n0 c0 a1 n1 c1 a2 n2 c2 a3 n3 c3 a4 n4 c4 a5 n5 c5 p)) := Lib.hid y1; have HK3 := Lib.hid y2; clear y1 y2 y3))
 (try simp only [Exit.inBlock, Exit.then])
 exact bodyPost_ret (results_at w3 Try.results12 (n := 7) (by kernel_rfl) (g := w1.heap.size) (o := 0) rfl (ms := siC a0 n0 c0 a1 n1 c1 a2 n2 c2 a3 n3 c3 a4 n4 c4 a5 n5 c5 p) (BL.all HT3.out) rfl) rfl ⟨rfl, ((Kp.of_below (S := fun _ => False) HB2.out).after HK3.out (fun i hi e => by have := HG.out; omega)).below (Nat.le_refl _) (fun _ h => h.elim)⟩
end Go.Proofs.Ytboglaokdgnpaaa
/- Arguments of the types of chapter 49 opened. -/
namespace Go.Proofs.Ytboglaokdgnpaaa
open Go Go.ChangeShapes Go.WideShapes Go.ChangeAt Go.RowKit Gf Sha

theorem cc_str : Try.prog.cellsOf 9 = 1 := by kernel_rfl
theorem cc_int : Try.prog.cellsOf 3 = 1 := by kernel_rfl
theorem cc_strs : Try.prog.cellsOf 23 = 1 := by kernel_rfl
theorem cc_refs : Try.prog.cellsOf 40 = 1 := by kernel_rfl
theorem cc_sps : Try.prog.cellsOf 22 = 1 := by kernel_rfl
theorem cc_pcs : Try.prog.cellsOf 24 = 1 := by kernel_rfl
theorem cc_pc : Try.prog.cellsOf 39 = 2 := by kernel_rfl
theorem fields_rf : ∃ f0 f1 f2 : Field, Try.prog.underlying 73 = some (.struct #[f0, f1, f2]) ∧ (f0.type = 9 ∧ f0.offset = 0) ∧ (f1.type = 3 ∧ f1.offset = 1) ∧ (f2.type = 3 ∧ f2.offset = 2) := ⟨_, _, _, Try.underlying73, ⟨rfl, rfl⟩, ⟨rfl, rfl⟩, ⟨rfl, rfl⟩⟩
theorem cells_rf : Try.prog.cellsOf 73 = 3 := by kernel_rfl
set_option maxRecDepth 100000 in
theorem opens_rf {H : Type} {enc : TypeId × Value → H} {W : World} : Opens enc Try.prog W 73 rRf := fun cs d ps n h hw hl => by
 obtain ⟨f0, f1, f2, hu, ⟨t0, o0⟩, ⟨t1, o1⟩, ⟨t2, o2⟩⟩ := fields_rf
 rw [cells_rf] at hl
 match cs, hl with
 | [u0, u1, u2], _ =>
  have h0 := struct_each hu h hw 0 f0 rfl (R := rStr) (by rw [t0]; exact opens_str Try.underlying9) (by rw [o0, t0, cc_str]; simp)
  have h1 := struct_each hu h hw 1 f1 rfl (R := rInt) (by rw [t1]; exact opens_int Try.underlying3) (by rw [o1, t1, cc_int]; simp)
  have h2 := struct_each hu h hw 2 f2 rfl (R := rInt) (by rw [t2]; exact opens_int Try.underlying3) (by rw [o2, t2, cc_int]; simp)
  rw [t0, o0, cc_str] at h0
  rw [t1, o1, cc_int] at h1
  rw [t2, o2, cc_int] at h2
  obtain ⟨x0, e0, g0⟩ := h0
  obtain ⟨x1, e1, g1⟩ := h1
  obtain ⟨x2, e2, g2⟩ := h2
  simp only [List.drop_zero, List.take_succ_cons, List.take_zero, List.cons.injEq, and_true, List.drop_succ_cons] at e0 e1 e2
  exact ⟨(x0, x1, x2), by rw [e0, e1, e2]; rfl, g0, g1, g2⟩
theorem fields_pc : ∃ f0 f1 : Field, Try.prog.underlying 39 = some (.struct #[f0, f1]) ∧ (f0.type = 9 ∧ f0.offset = 0) ∧ (f1.type = 3 ∧ f1.offset = 1) := ⟨_, _, Try.underlying39, ⟨rfl, rfl⟩, ⟨rfl, rfl⟩⟩
theorem cells_pc : Try.prog.cellsOf 39 = 2 := by kernel_rfl
set_option maxRecDepth 100000 in
theorem opens_pc {H : Type} {enc : TypeId × Value → H} {W : World} : Opens enc Try.prog W 39 rPc := fun cs d ps n h hw hl => by
 obtain ⟨f0, f1, hu, ⟨t0, o0⟩, ⟨t1, o1⟩⟩ := fields_pc
 rw [cells_pc] at hl
 match cs, hl with
 | [u0, u1], _ =>
  have h0 := struct_each hu h hw 0 f0 rfl (R := rStr) (by rw [t0]; exact opens_str Try.underlying9) (by rw [o0, t0, cc_str]; simp)
  have h1 := struct_each hu h hw 1 f1 rfl (R := rInt) (by rw [t1]; exact opens_int Try.underlying3) (by rw [o1, t1, cc_int]; simp)
  rw [t0, o0, cc_str] at h0
  rw [t1, o1, cc_int] at h1
  obtain ⟨x0, e0, g0⟩ := h0
  obtain ⟨x1, e1, g1⟩ := h1
  simp only [List.drop_zero, List.take_succ_cons, List.take_zero, List.cons.injEq, and_true, List.drop_succ_cons] at e0 e1
  exact ⟨(x0, x1), by rw [e0, e1]; rfl, g0, g1⟩
theorem fields_sp : ∃ f0 f1 f2 f3 f4 f5 : Field, Try.prog.underlying 61 = some (.struct #[f0, f1, f2, f3, f4, f5]) ∧ (f0.type = 9 ∧ f0.offset = 0) ∧ (f1.type = 3 ∧ f1.offset = 1) ∧ (f2.type = 3 ∧ f2.offset = 2) ∧ (f3.type = 3 ∧ f3.offset = 3) ∧ (f4.type = 3 ∧ f4.offset = 4) ∧ (f5.type = 40 ∧ f5.offset = 5) := ⟨_, _, _, _, _, _, Try.underlying61, ⟨rfl, rfl⟩, ⟨rfl, rfl⟩, ⟨rfl, rfl⟩, ⟨rfl, rfl⟩, ⟨rfl, rfl⟩, ⟨rfl, rfl⟩⟩
theorem cells_sp : Try.prog.cellsOf 61 = 6 := by kernel_rfl
set_option maxRecDepth 100000 in
theorem opens_sp {H : Type} {enc : TypeId × Value → H} {W : World} : Opens enc Try.prog W 61 rSp := fun cs d ps n h hw hl => by
 obtain ⟨f0, f1, f2, f3, f4, f5, hu, ⟨t0, o0⟩, ⟨t1, o1⟩, ⟨t2, o2⟩, ⟨t3, o3⟩, ⟨t4, o4⟩, ⟨t5, o5⟩⟩ := fields_sp
 rw [cells_sp] at hl
 match cs, hl with
 | [u0, u1, u2, u3, u4, u5], _ =>
  have h0 := struct_each hu h hw 0 f0 rfl (R := rStr) (by rw [t0]; exact opens_str Try.underlying9) (by rw [o0, t0, cc_str]; simp)
  have h1 := struct_each hu h hw 1 f1 rfl (R := rInt) (by rw [t1]; exact opens_int Try.underlying3) (by rw [o1, t1, cc_int]; simp)
  have h2 := struct_each hu h hw 2 f2 rfl (R := rInt) (by rw [t2]; exact opens_int Try.underlying3) (by rw [o2, t2, cc_int]; simp)
  have h3 := struct_each hu h hw 3 f3 rfl (R := rInt) (by rw [t3]; exact opens_int Try.underlying3) (by rw [o3, t3, cc_int]; simp)
  have h4 := struct_each hu h hw 4 f4 rfl (R := rInt) (by rw [t4]; exact opens_int Try.underlying3) (by rw [o4, t4, cc_int]; simp)
  have h5 := struct_each hu h hw 5 f5 rfl (R := (rList rRf 3 32)) (by rw [t5]; exact opens_list Try.underlying40 (by decide) (by kernel_rfl) (by kernel_rfl) opens_rf) (by rw [o5, t5, cc_refs]; simp)
  rw [t0, o0, cc_str] at h0
  rw [t1, o1, cc_int] at h1
  rw [t2, o2, cc_int] at h2
  rw [t3, o3, cc_int] at h3
  rw [t4, o4, cc_int] at h4
  rw [t5, o5, cc_refs] at h5
  obtain ⟨x0, e0, g0⟩ := h0
  obtain ⟨x1, e1, g1⟩ := h1
  obtain ⟨x2, e2, g2⟩ := h2
  obtain ⟨x3, e3, g3⟩ := h3
  obtain ⟨x4, e4, g4⟩ := h4
  obtain ⟨x5, A5, n5, c5, e5, g5⟩ := h5
  simp only [List.drop_zero, List.take_succ_cons, List.take_zero, List.cons.injEq, and_true, List.drop_succ_cons] at e0 e1 e2 e3 e4 e5
  exact ⟨⟨x0, x1, x2, x3, x4, x5⟩, A5, n5, c5, by rw [e0, e1, e2, e3, e4, e5], g5, g0, g1, g2, g3, g4⟩
theorem fields_si : ∃ f0 f1 f2 f3 f4 f5 f6 : Field, Try.prog.underlying 26 = some (.struct #[f0, f1, f2, f3, f4, f5, f6]) ∧ (f0.type = 22 ∧ f0.offset = 0) ∧ (f1.type = 23 ∧ f1.offset = 1) ∧ (f2.type = 23 ∧ f2.offset = 2) ∧ (f3.type = 23 ∧ f3.offset = 3) ∧ (f4.type = 23 ∧ f4.offset = 4) ∧ (f5.type = 24 ∧ f5.offset = 5) ∧ (f6.type = 3 ∧ f6.offset = 6) := ⟨_, _, _, _, _, _, _, Try.underlying26, ⟨rfl, rfl⟩, ⟨rfl, rfl⟩, ⟨rfl, rfl⟩, ⟨rfl, rfl⟩, ⟨rfl, rfl⟩, ⟨rfl, rfl⟩, ⟨rfl, rfl⟩⟩
theorem cells_si : Try.prog.cellsOf 26 = 7 := by kernel_rfl
set_option maxRecDepth 100000 in
theorem opens_si {H : Type} {enc : TypeId × Value → H} {W : World} : Opens enc Try.prog W 26 rSi := fun cs d ps n h hw hl => by
 obtain ⟨f0, f1, f2, f3, f4, f5, f6, hu, ⟨t0, o0⟩, ⟨t1, o1⟩, ⟨t2, o2⟩, ⟨t3, o3⟩, ⟨t4, o4⟩, ⟨t5, o5⟩, ⟨t6, o6⟩⟩ := fields_si
 rw [cells_si] at hl
 match cs, hl with
 | [u0, u1, u2, u3, u4, u5, u6], _ =>
  have h0 := struct_each hu h hw 0 f0 rfl (R := (rList rSp 6 72)) (by rw [t0]; exact opens_list Try.underlying22 (by decide) (by kernel_rfl) (by kernel_rfl) opens_sp) (by rw [o0, t0, cc_sps]; simp)
  have h1 := struct_each hu h hw 1 f1 rfl (R := (rList rStr 1 16)) (by rw [t1]; exact opens_list Try.underlying23 (by decide) (by kernel_rfl) (by kernel_rfl) (opens_str Try.underlying9)) (by rw [o1, t1, cc_strs]; simp)
  have h2 := struct_each hu h hw 2 f2 rfl (R := (rList rStr 1 16)) (by rw [t2]; exact opens_list Try.underlying23 (by decide) (by kernel_rfl) (by kernel_rfl) (opens_str Try.underlying9)) (by rw [o2, t2, cc_strs]; simp)
  have h3 := struct_each hu h hw 3 f3 rfl (R := (rList rStr 1 16)) (by rw [t3]; exact opens_list Try.underlying23 (by decide) (by kernel_rfl) (by kernel_rfl) (opens_str Try.underlying9)) (by rw [o3, t3, cc_strs]; simp)
  have h4 := struct_each hu h hw 4 f4 rfl (R := (rList rStr 1 16)) (by rw [t4]; exact opens_list Try.underlying23 (by decide) (by kernel_rfl) (by kernel_rfl) (opens_str Try.underlying9)) (by rw [o4, t4, cc_strs]; simp)
  have h5 := struct_each hu h hw 5 f5 rfl (R := (rList rPc 2 24)) (by rw [t5]; exact opens_list Try.underlying24 (by decide) (by kernel_rfl) (by kernel_rfl) opens_pc) (by rw [o5, t5, cc_pcs]; simp)
  have h6 := struct_each hu h hw 6 f6 rfl (R := rInt) (by rw [t6]; exact opens_int Try.underlying3) (by rw [o6, t6, cc_int]; simp)
  rw [t0, o0, cc_sps] at h0
  rw [t1, o1, cc_strs] at h1
  rw [t2, o2, cc_strs] at h2
  rw [t3, o3, cc_strs] at h3
  rw [t4, o4, cc_strs] at h4
  rw [t5, o5, cc_pcs] at h5
  rw [t6, o6, cc_int] at h6
  obtain ⟨x0, A0, n0, c0, e0, g0⟩ := h0
  obtain ⟨x1, A1, n1, c1, e1, g1⟩ := h1
  obtain ⟨x2, A2, n2, c2, e2, g2⟩ := h2
  obtain ⟨x3, A3, n3, c3, e3, g3⟩ := h3
  obtain ⟨x4, A4, n4, c4, e4, g4⟩ := h4
  obtain ⟨x5, A5, n5, c5, e5, g5⟩ := h5
  obtain ⟨x6, e6, g6⟩ := h6
  simp only [List.drop_zero, List.take_succ_cons, List.take_zero, List.cons.injEq, and_true, List.drop_succ_cons] at e0 e1 e2 e3 e4 e5 e6
  exact ⟨⟨x0, x1, x2, x3, x4, x5, x6⟩, A0, n0, c0, A1, n1, c1, A2, n2, c2, A3, n3, c3, A4, n4, c4, A5, n5, c5, by rw [e0, e1, e2, e3, e4, e5, e6], g0, g1, g2, g3, g4, g5, g6⟩
theorem fields_stp : ∃ f0 f1 f2 f3 : Field, Try.prog.underlying 42 = some (.struct #[f0, f1, f2, f3]) ∧ (f0.type = 3 ∧ f0.offset = 0) ∧ (f1.type = 23 ∧ f1.offset = 1) ∧ (f2.type = 39 ∧ f2.offset = 2) ∧ (f3.type = 40 ∧ f3.offset = 4) := ⟨_, _, _, _, Try.underlying42, ⟨rfl, rfl⟩, ⟨rfl, rfl⟩, ⟨rfl, rfl⟩, ⟨rfl, rfl⟩⟩
theorem cells_stp : Try.prog.cellsOf 42 = 5 := by kernel_rfl
set_option maxRecDepth 100000 in
theorem opens_stp {H : Type} {enc : TypeId × Value → H} {W : World} : Opens enc Try.prog W 42 rStp := fun cs d ps n h hw hl => by
 obtain ⟨f0, f1, f2, f3, hu, ⟨t0, o0⟩, ⟨t1, o1⟩, ⟨t2, o2⟩, ⟨t3, o3⟩⟩ := fields_stp
 rw [cells_stp] at hl
 match cs, hl with
 | [u0, u1, u2, u3, u4], _ =>
  have h0 := struct_each hu h hw 0 f0 rfl (R := rInt) (by rw [t0]; exact opens_int Try.underlying3) (by rw [o0, t0, cc_int]; simp)
  have h1 := struct_each hu h hw 1 f1 rfl (R := (rList rStr 1 16)) (by rw [t1]; exact opens_list Try.underlying23 (by decide) (by kernel_rfl) (by kernel_rfl) (opens_str Try.underlying9)) (by rw [o1, t1, cc_strs]; simp)
  have h2 := struct_each hu h hw 2 f2 rfl (R := rPc) (by rw [t2]; exact opens_pc) (by rw [o2, t2, cc_pc]; simp)
  have h3 := struct_each hu h hw 3 f3 rfl (R := (rList rRf 3 32)) (by rw [t3]; exact opens_list Try.underlying40 (by decide) (by kernel_rfl) (by kernel_rfl) opens_rf) (by rw [o3, t3, cc_refs]; simp)
  rw [t0, o0, cc_int] at h0
  rw [t1, o1, cc_strs] at h1
  rw [t2, o2, cc_pc] at h2
  rw [t3, o3, cc_refs] at h3
  obtain ⟨x0, e0, g0⟩ := h0
  obtain ⟨x1, A1, n1, c1, e1, g1⟩ := h1
  obtain ⟨x2, e2, g2⟩ := h2
  obtain ⟨x3, A3, n3, c3, e3, g3⟩ := h3
  simp only [pcC, List.drop_zero, List.take_succ_cons, List.take_zero, List.cons.injEq, and_true, List.drop_succ_cons] at e0 e1 e2 e3
  exact ⟨⟨x0, x1, x2, x3⟩, A1, n1, c1, A3, n3, c3, by rw [e0, e1, e2.1, e2.2, e3], g1, g3, g0, g2⟩
set_option maxRecDepth 100000 in
/-- A struct that is an argument, opened. -/
theorem open_rec {H : Type} {enc : TypeId × Value → H} {W : World} {α : Type} {R : Rdg α} {t : TypeId} {fs : Array Field} {r : Reach} {b0 : Nat} {v : Value} {d : DataW H} {ps : List MemPlace} (hu : Try.prog.underlying t = some (.struct fs)) (hR : Opens enc Try.prog W t R) (hval : Value.okWide Try.prog W r b0 t v) (hd : DataW.Trod enc Try.prog W 0 (fun _ => true) true t v d ps) (hw : ∀ m ∈ d.weights Try.prog t, m ≤ reachBytes) :
  ∃ (cs : List Value) (x : α), v = .agg cs.toArray ∧ R W cs x := by
 obtain ⟨cs, rfl, hsz⟩ := okWide_struct hu hval
 obtain ⟨fuel, hf⟩ := hd
 obtain ⟨l⟩ := cs
 obtain ⟨x, hx⟩ := hR l d ps fuel hf hw (by simpa using hsz)
 exact ⟨l, x, rfl, hx⟩
theorem si_struct : ∃ fs, Try.prog.underlying 26 = some (.struct fs) := ⟨_, Try.underlying26⟩
theorem stp_struct : ∃ fs, Try.prog.underlying 42 = some (.struct fs) := ⟨_, Try.underlying42⟩
end Go.Proofs.Ytboglaokdgnpaaa
