/- Several texts in one: Je, Jf. -/
import Derived.Test.YtheijpjfpaghfaaGreatDoorC48
import Derived.Test.YtheijpjfpaghfaaGreatDoorC39
import Derived.Test.YtheijpjfpaghfaaGreatDoorC44
/- The calls of ChallengePurse: their reading, opened; calls. -/
namespace Go.Proofs.YtheijpjfpaghfaaGreatDoor
open Go Go.ChangeShapes Go.WideShapes Go.ChangeAt Go.RowKit Gf Sha

/-- A call: its kind, tokens, piece, limit. -/
structure Oc where
 kd : Int
 xs : List PT
 s : List UInt8
 i : Int
 lim : Int
def opC (o : Oc) (A : Option Addr) (n c : Nat) : List Value := [.int .i64 o.kd, .slice A n c, .string (strB o.s), .int .i64 o.i, .int .i64 o.lim]
def rOp : Rdg Oc := fun w cs o => ∃ A n c, cs = opC o A n c ∧ LS rTk 4 56 w A n c o.xs ∧ o.s.length ≤ reachBytes ∧ (Lit.int .i64 o.i).wf = true
theorem stay_op : Stay rOp := fun _ _ _ _ ⟨A, n, c, e, h, h2⟩ hb => ⟨A, n, c, e, h.kept stay_tk hb, h2⟩
def rPid : Rdg Pid := fun _ cs p => cs = [.string (strB p.1), .int .i64 p.2] ∧ p.1.length ≤ reachBytes ∧ (Lit.int .i64 p.2).wf = true
theorem c_tk : Tryz.prog.cellsOf 45 = 4 := by kernel_rfl
theorem c_op : Tryz.prog.cellsOf 41 = 5 := by kernel_rfl
theorem c_tks : Tryz.prog.cellsOf 37 = 1 := by kernel_rfl
set_option maxRecDepth 100000 in
theorem opens_pidR {H : Type} {enc : TypeId × Value → H} {W : World} : Opens enc Tryz.prog W 39 rPid := fun cs d ps n h hw hl => by
 obtain ⟨f0, f1, hu, ⟨t0, o0⟩, ⟨t1, o1⟩⟩ := pidFields
 rw [c_pid] at hl
 match cs, hl with
 | [u0, u1], _ =>
  have h0 := struct_each hu h hw 0 f0 rfl (R := rStr) (by rw [t0]; exact opens_str Tryz.underlying9) (by rw [o0, t0, c_str]; simp)
  have h1 := struct_each hu h hw 1 f1 rfl (R := rInt) (by rw [t1]; exact opens_int Tryz.underlying3) (by rw [o1, t1, c_int]; simp)
  rw [t0, o0, c_str] at h0
  rw [t1, o1, c_int] at h1
  obtain ⟨x0, e0, g0⟩ := h0
  obtain ⟨x1, e1, g1⟩ := h1
  simp only [List.drop_zero, List.take_succ_cons, List.take_zero, List.cons.injEq, and_true, List.drop_succ_cons] at e0 e1
  exact ⟨(x0, x1), by rw [e0, e1], g0, g1⟩
theorem fields_tk : ∃ f0 f1 f2 : Field, Tryz.prog.underlying 45 = some (.struct #[f0, f1, f2]) ∧ (f0.type = 39 ∧ f0.offset = 0) ∧ (f1.type = 9 ∧ f1.offset = 2) ∧ (f2.type = 9 ∧ f2.offset = 3) := ⟨_, _, _, Tryz.underlying45, ⟨rfl, rfl⟩, ⟨rfl, rfl⟩, ⟨rfl, rfl⟩⟩
set_option maxRecDepth 100000 in
theorem opens_tk {H : Type} {enc : TypeId × Value → H} {W : World} : Opens enc Tryz.prog W 45 rTk := fun cs d ps n h hw hl => by
 obtain ⟨f0, f1, f2, hu, ⟨t0, o0⟩, ⟨t1, o1⟩, ⟨t2, o2⟩⟩ := fields_tk
 rw [c_tk] at hl
 match cs, hl with
 | [u0, u1, u2, u3], _ =>
  have h0 := struct_each hu h hw 0 f0 rfl (R := rPid) (by rw [t0]; exact opens_pidR) (by rw [o0, t0, c_pid]; simp)
  have h1 := struct_each hu h hw 1 f1 rfl (R := rStr) (by rw [t1]; exact opens_str Tryz.underlying9) (by rw [o1, t1, c_str]; simp)
  have h2 := struct_each hu h hw 2 f2 rfl (R := rStr) (by rw [t2]; exact opens_str Tryz.underlying9) (by rw [o2, t2, c_str]; simp)
  rw [t0, o0, c_pid] at h0
  rw [t1, o1, c_str] at h1
  rw [t2, o2, c_str] at h2
  obtain ⟨x0, e0, g0, g0'⟩ := h0
  obtain ⟨x1, e1, g1⟩ := h1
  obtain ⟨x2, e2, g2⟩ := h2
  simp only [List.drop_zero, List.take_succ_cons, List.take_zero, List.cons.injEq, and_true, List.drop_succ_cons] at e0 e1 e2
  exact ⟨(x0, (x1, x2)), by rw [e0.1, e0.2, e1, e2]; rfl, g0, g0', g1, g2⟩
theorem fields_op : ∃ f0 f1 f2 f3 : Field, Tryz.prog.underlying 41 = some (.struct #[f0, f1, f2, f3]) ∧ (f0.type = 3 ∧ f0.offset = 0) ∧ (f1.type = 37 ∧ f1.offset = 1) ∧ (f2.type = 39 ∧ f2.offset = 2) ∧ (f3.type = 3 ∧ f3.offset = 4) := ⟨_, _, _, _, Tryz.underlying41, ⟨rfl, rfl⟩, ⟨rfl, rfl⟩, ⟨rfl, rfl⟩, ⟨rfl, rfl⟩⟩
set_option maxRecDepth 100000 in
theorem opens_op {H : Type} {enc : TypeId × Value → H} {W : World} : Opens enc Tryz.prog W 41 rOp := fun cs d ps n h hw hl => by
 obtain ⟨f0, f1, f2, f3, hu, ⟨t0, o0⟩, ⟨t1, o1⟩, ⟨t2, o2⟩, ⟨t3, o3⟩⟩ := fields_op
 rw [c_op] at hl
 match cs, hl with
 | [u0, u1, u2, u3, u4], _ =>
  have h0 := struct_each hu h hw 0 f0 rfl (R := rInt) (by rw [t0]; exact opens_int Tryz.underlying3) (by rw [o0, t0, c_int]; simp)
  have h1 := struct_each hu h hw 1 f1 rfl (R := rList rTk 4 56) (by rw [t1]; exact opens_list Tryz.underlying37 (by decide) (by kernel_rfl) (by kernel_rfl) opens_tk) (by rw [o1, t1, c_tks]; simp)
  have h2 := struct_each hu h hw 2 f2 rfl (R := rPid) (by rw [t2]; exact opens_pidR) (by rw [o2, t2, c_pid]; simp)
  have h3 := struct_each hu h hw 3 f3 rfl (R := rInt) (by rw [t3]; exact opens_int Tryz.underlying3) (by rw [o3, t3, c_int]; simp)
  rw [t0, o0, c_int] at h0
  rw [t1, o1, c_tks] at h1
  rw [t2, o2, c_pid] at h2
  rw [t3, o3, c_int] at h3
  obtain ⟨x0, e0, g0⟩ := h0
  obtain ⟨x1, A1, n1, c1, e1, g1⟩ := h1
  obtain ⟨x2, e2, g2, g2'⟩ := h2
  obtain ⟨x3, e3, g3⟩ := h3
  simp only [List.drop_zero, List.take_succ_cons, List.take_zero, List.cons.injEq, and_true, List.drop_succ_cons] at e0 e1 e2 e3
  exact ⟨⟨x0, x1, x2.1, x2.2, x3⟩, A1, n1, c1, by rw [e0, e1, e2.1, e2.2, e3]; rfl, g1, g2, g2'⟩
theorem opens_ops {H : Type} {enc : TypeId × Value → H} {W : World} : Opens enc Tryz.prog W 34 (rList rOp 5 64) := opens_list Tryz.underlying34 (by decide) (by kernel_rfl) (by kernel_rfl) opens_op

def opZ : List Value := [.int .i64 0, nilV, .string (strB []), .int .i64 0, .int .i64 0]
theorem opZero : (Tryz.prog.info? 41).map (·.zero) = some (some (.agg opZ.toArray)) := by kernel_rfl
theorem opC_one (o : Oc) (A : Option Addr) (n c : Nat) : ∀ v ∈ opC o A n c, v.oneCell' = true := one_val _ rfl
/-- How many tokens the calls hold. -/
def sumO (l : List Oc) : Nat := (l.map fun o => o.xs.length).sum
theorem sumO_mem {l : List Oc} {o : Oc} (h : o ∈ l) : o.xs.length ≤ sumO l := by
 induction l with
 | nil => cases h
 | cons a l ih =>
  simp only [sumO, List.map_cons, List.sum_cons] at ih ⊢
  rcases List.mem_cons.1 h with rfl | h
  ·
   omega
  ·
   have := ih h
   omega
theorem sumO_le {l : List Oc} {M : Nat} (h : ∀ o ∈ l, o.xs.length ≤ M) : sumO l ≤ M * l.length := by
 induction l with
 | nil => simp [sumO]
 | cons a l ih =>
  have h1 := ih (fun o ho => h o (List.mem_cons_of_mem _ ho))
  have h2 := h a (List.mem_cons_self ..)
  simp only [sumO, List.map_cons, List.sum_cons, List.length_cons, Nat.mul_succ] at h1 ⊢
  omega
def CallsR (n : Nat) (l : List Oc) (w : World) (e : Ending) (w' : World) : Prop := ∃ b, e = .returned (.bool b) ∧ (b = true → n ≤ 25 ∧ ∀ o ∈ l, o.xs.length ≤ 60) ∧ Below w.heap.size w w'
set_option maxRecDepth 100000 in
set_option maxHeartbeats 4000000 in
theorem calls_any (A : Option Addr) (n c : Nat) (l : List Oc) (w : World) (h : LS rOp 5 64 w A n c l) :
  Calls Tryz.prog 9 #[.slice A n c] w (CallsR n l w) := by
 have H := Lib.hid h
 have HL := Lib.hid h.1
 have hn : (n : Int) ≤ 9223372036854775000 := by have := h.2.2.1; unfold lim at this; omega
 clear h
 go_enter Tryz.func9, Tryz.ntmps9
 go_wp2_with fail
 go_loopw [3, 10] (fun nv iv wr => ∃ (k : Nat) (z : Int), k ≤ n ∧ iv = .int .i64 (k : Int) ∧ nv = .int .i64 z ∧ Hid (k ≤ 25 → z = (sumO (l.take k) : Int)) ∧ Hid (Below w.heap.size w wr)) (fun _ iv _ => n - (intOf iv).toNat)
 case atStart => exact ⟨0, 0, by omega, rfl, rfl, Lib.hid (fun _ => rfl), Lib.hid (Below.refl _ _)⟩
 case round =>
  obtain ⟨k, z, hk, rfl, rfl, hz, hb⟩ := hrel
  obtain ⟨wx, hwx⟩ : ∃ x, x = wr := ⟨_, rfl⟩
  rw [← hwx] at hb ⊢
  clear hwx
  by_cases hlt : k < n
  ·
   obtain ⟨oc, g, o, cs, ht, rfl, hat, hr⟩ := H.out.at_ stay_op hb.out hlt
   obtain ⟨A1, m, c1, rfl, hls, _, _⟩ := hr
   have HA := Lib.hid hat
   have HLS := Lib.hid hls
   have HML := Lib.hid hls.1
   have hmb : (m : Int) ≤ 140737488355328 := by have := hls.2.2.1; unfold lim at this; omega
   have HTK : Hid (k + 1 ≤ 25 → IntKind.i64.wrap (z + (m : Int)) = (sumO (l.take (k + 1)) : Int)) := Lib.hid (fun h25 => by
    have hkl : k < l.length := by rw [HL.out]; exact hlt
    have h1 := hz.out (by omega)
    have h2 : sumO (l.take k) ≤ 140737488355328 * (l.take k).length := sumO_le (fun o ho => by
     obtain ⟨q, hq, rfl⟩ := List.getElem_of_mem (List.mem_of_mem_take ho)
     obtain ⟨g9, o9, cs9, _, _, hr9⟩ := H.out.2.2.2 q hq
     obtain ⟨A9, n9, c9, _, h9, _⟩ := hr9
     have := h9.1
     have := h9.2.2.1
     unfold lim at this
     omega)
    rw [List.length_take] at h2
    have h3 : sumO (l.take (k + 1)) = sumO (l.take k) + m := by
     rw [List.take_succ_eq_append_getElem hkl]
     have e : l[k] = oc := by rw [List.getElem?_eq_getElem hkl] at ht; injection ht
     simp only [sumO, List.map_append, List.sum_append, List.map_cons, List.map_nil, List.sum_cons, List.sum_nil, Nat.add_zero, e, HML.out]
    rw [h1, h3, IntWalk.i64_in _ (by omega)]
    omega)
   clear hat hls ht
   cases c8 : decide (((strB oc.s).size : Int) > 64) with
   | true =>
    go_wp2_with (first
     | ((with_reducible show OpW 13); refine wpList_loadv _ rfl 41 (.tmp 12) rfl 5 (by kernel_rfl) g (o + k * 5) (opC oc A1 m c1) (by go_simp) HA.out rfl ?_)
     | ((with_reducible show OpW 5); refine wpList_alloc _ rfl 41 rfl opZ opZero ?_; intro y1 a1 a2 a3; have HV1 := Lib.hid a1; have HX1 := Lib.hid a2; clear a1 a2 a3)
     | ((with_reducible show OpN); refine wpList_storev _ rfl 41 (.tmp 5) (.tmp 13) rfl 5 (by kernel_rfl) wx.heap.size 0 _ opZ (opC oc A1 m c1) rfl rfl HV1.out rfl (opC_one _ _ _ _) (by decide) ?_; intro y2 a1 a2 a3; have q1 : y2.cell? ⟨wx.heap.size, 1, none⟩ = some (.slice A1 m c1) := BL.get (l := opC oc A1 m c1) a1 (j := 1) rfl; have q2 : y2.cell? ⟨wx.heap.size, 2, none⟩ = some (.string (strB oc.s)) := BL.get (l := opC oc A1 m c1) a1 (j := 2) rfl; have HX2 : Hid (Below wx.heap.size wx y2) := Lib.hid (low_own HX1.out a2 (fun i hi e => by omega)); clear a1 a2 a3)
     | fail)
    go_ret
    exact ⟨false, rfl, fun h => (by cases h), below_thenB hb.out hb.out.size HX2.out⟩
   | false =>
    go_wp2_with (first
     | ((with_reducible show OpW 13); refine wpList_loadv _ rfl 41 (.tmp 12) rfl 5 (by kernel_rfl) g (o + k * 5) (opC oc A1 m c1) (by go_simp) HA.out rfl ?_)
     | ((with_reducible show OpW 5); refine wpList_alloc _ rfl 41 rfl opZ opZero ?_; intro y1 a1 a2 a3; have HV1 := Lib.hid a1; have HX1 := Lib.hid a2; clear a1 a2 a3)
     | ((with_reducible show OpN); refine wpList_storev _ rfl 41 (.tmp 5) (.tmp 13) rfl 5 (by kernel_rfl) wx.heap.size 0 _ opZ (opC oc A1 m c1) rfl rfl HV1.out rfl (opC_one _ _ _ _) (by decide) ?_; intro y2 a1 a2 a3; have q1 : y2.cell? ⟨wx.heap.size, 1, none⟩ = some (.slice A1 m c1) := BL.get (l := opC oc A1 m c1) a1 (j := 1) rfl; have q2 : y2.cell? ⟨wx.heap.size, 2, none⟩ = some (.string (strB oc.s)) := BL.get (l := opC oc A1 m c1) a1 (j := 2) rfl; have HX2 : Hid (Below wx.heap.size wx y2) := Lib.hid (low_own HX1.out a2 (fun i hi e => by omega)); clear a1 a2 a3)
     | fail)
    have HB2 := Lib.hid (below_thenB hb.out hb.out.size HX2.out)
    have HLS2 := Lib.hid (HLS.out.kept stay_tk HX2.out)
    clear q1 q2
    go_loopw [27] (fun iv wr => ∃ j : Nat, j ≤ m ∧ iv = .int .i64 (j : Int) ∧ Hid (Below y2.heap.size y2 wr)) (fun iv _ => m - (intOf iv).toNat)
    case atStart => exact ⟨0, by omega, rfl, Lib.hid (Below.refl _ _)⟩
    case round =>
     obtain ⟨j, hj, rfl, hb2⟩ := hrel
     obtain ⟨wy, hwy⟩ : ∃ x, x = wr := ⟨_, rfl⟩
     rw [← hwy] at hb2 ⊢
     clear hwy
     by_cases hl2 : j < m
     ·
      obtain ⟨t, g2, o2, cs2, _, rfl, hat2, hr2⟩ := HLS2.out.at_ stay_tk hb2.out hl2
      obtain ⟨rfl, b1, _, b2, b3⟩ := hr2
      obtain ⟨⟨s, i⟩, ⟨ya, yb⟩⟩ := t
      have HTA : Hid (At wy g2 (o2 + j * 4) (tokC s i (ya, yb))) := Lib.hid hat2
      have s1 : (strB s).size ≤ 140737488355328 := by rw [strB_size]; have h9 : s.length ≤ reachBytes := b1; unfold reachBytes at h9; omega
      have s2 : (strB ya).size ≤ 140737488355328 := by rw [strB_size]; have h9 : ya.length ≤ reachBytes := b2; unfold reachBytes at h9; omega
      have s3 : (strB yb).size ≤ 140737488355328 := by rw [strB_size]; have h9 : yb.length ≤ reachBytes := b3; unfold reachBytes at h9; omega
      have f1 : IntKind.i64.wrap (((strB s).size : Int) + ((strB ya).size : Int)) = ((strB s).size : Int) + ((strB ya).size : Int) := IntWalk.i64_in _ (by omega)
      have f2 : IntKind.i64.wrap (((strB s).size : Int) + ((strB ya).size : Int) + ((strB yb).size : Int)) = ((strB s).size : Int) + ((strB ya).size : Int) + ((strB yb).size : Int) := IntWalk.i64_in _ (by omega)
      clear hat2 b1 b2 b3 s1 s2 s3
      cases c9 : decide (((strB s).size : Int) + ((strB ya).size : Int) + ((strB yb).size : Int) > 200) with
      | true =>
       go_wp2_with (first
        | ((with_reducible show OpW 30); refine wpList_loadv _ rfl 45 (.tmp 29) rfl 4 (by kernel_rfl) g2 (o2 + j * 4) (tokC s i (ya, yb)) (by go_simp) HTA.out rfl ?_)
        | ((with_reducible show OpW 7); refine wpList_alloc _ rfl 45 rfl tokZ tokZero ?_; intro z1 a1 a2 a3; have HZ1 := Lib.hid a1; have HZX1 := Lib.hid a2; clear a1 a2 a3)
        | ((with_reducible show OpN); refine wpList_storev _ rfl 45 (.tmp 7) (.tmp 30) rfl 4 (by kernel_rfl) wy.heap.size 0 _ tokZ (tokC s i (ya, yb)) rfl rfl HZ1.out rfl (tokC_one _ _ _) (by decide) ?_; intro z2 a1 a2 a3; have r0 : z2.cell? ⟨wy.heap.size, 0, none⟩ = some (.string (strB s)) := BL.get (l := tokC s i (ya, yb)) a1 (j := 0) rfl; have r2 : z2.cell? ⟨wy.heap.size, 2, none⟩ = some (.string (strB ya)) := BL.get (l := tokC s i (ya, yb)) a1 (j := 2) rfl; have r3 : z2.cell? ⟨wy.heap.size, 3, none⟩ = some (.string (strB yb)) := BL.get (l := tokC s i (ya, yb)) a1 (j := 3) rfl; have HZX2 : Hid (Below wy.heap.size wy z2) := Lib.hid (low_own HZX1.out a2 (fun i hi e => by omega)); clear a1 a2 a3)
        | fail)
       go_ret
       exact ⟨false, rfl, fun h => (by cases h), below_thenB HB2.out HB2.out.size (below_thenB hb2.out hb2.out.size HZX2.out)⟩
      | false =>
       go_wp2_with (first
        | ((with_reducible show OpW 30); refine wpList_loadv _ rfl 45 (.tmp 29) rfl 4 (by kernel_rfl) g2 (o2 + j * 4) (tokC s i (ya, yb)) (by go_simp) HTA.out rfl ?_)
        | ((with_reducible show OpW 7); refine wpList_alloc _ rfl 45 rfl tokZ tokZero ?_; intro z1 a1 a2 a3; have HZ1 := Lib.hid a1; have HZX1 := Lib.hid a2; clear a1 a2 a3)
        | ((with_reducible show OpN); refine wpList_storev _ rfl 45 (.tmp 7) (.tmp 30) rfl 4 (by kernel_rfl) wy.heap.size 0 _ tokZ (tokC s i (ya, yb)) rfl rfl HZ1.out rfl (tokC_one _ _ _) (by decide) ?_; intro z2 a1 a2 a3; have r0 : z2.cell? ⟨wy.heap.size, 0, none⟩ = some (.string (strB s)) := BL.get (l := tokC s i (ya, yb)) a1 (j := 0) rfl; have r2 : z2.cell? ⟨wy.heap.size, 2, none⟩ = some (.string (strB ya)) := BL.get (l := tokC s i (ya, yb)) a1 (j := 2) rfl; have r3 : z2.cell? ⟨wy.heap.size, 3, none⟩ = some (.string (strB yb)) := BL.get (l := tokC s i (ya, yb)) a1 (j := 3) rfl; have HZX2 : Hid (Below wy.heap.size wy z2) := Lib.hid (low_own HZX1.out a2 (fun i hi e => by omega)); clear a1 a2 a3)
        | fail)
       go_roundw
       case rel => exact ⟨j + 1, by omega, by go_num, Lib.hid (below_thenB hb2.out hb2.out.size HZX2.out)⟩
       case measure => simp [intOf]; omega
     ·
      obtain rfl : j = m := by omega
      go_wp2_with fail
      go_roundw
      case rel => exact ⟨k + 1, _, by omega, by go_num, rfl, Lib.hid (fun h9 => by rw [← IntWalk.i64_left]; exact HTK.out h9), Lib.hid (below_thenB HB2.out HB2.out.size hb2.out)⟩
      case measure => simp [intOf]; omega
  ·
   obtain rfl : k = n := by omega
   by_cases h25 : k ≤ 25
   ·
    have g1 : decide ((k : Int) ≤ 25) = true := decide_eq_true (by omega)
    have g1' : decide (k ≤ 25) = true := decide_eq_true h25
    have HZ := Lib.hid (hz.out h25)
    cases c2 : decide (z ≤ 60) with
    | true =>
     have HR : Hid (k ≤ 25 ∧ ∀ o ∈ l, o.xs.length ≤ 60) := Lib.hid ⟨h25, fun o ho => by
      have h1 := sumO_mem ho
      have h2 := HZ.out
      rw [← HL.out, List.take_length] at h2
      have h3 := of_decide_eq_true c2
      omega⟩
     clear h25
     go_wp2_with fail
     go_ret
     exact ⟨true, rfl, fun _ => HR.out, hb.out⟩
    | false =>
     clear h25
     go_wp2_with fail
     go_ret
     exact ⟨false, rfl, fun h => (by cases h), hb.out⟩
   ·
    have g1 : decide ((k : Int) ≤ 25) = false := decide_eq_false (by omega)
    have g1' : decide (k ≤ 25) = false := decide_eq_false h25
    clear h25
    go_wp2_with fail
    go_ret
    exact ⟨false, rfl, fun h => (by cases h), hb.out⟩
end Go.Proofs.YtheijpjfpaghfaaGreatDoor
/- ChallengePurse: the two purses side by side. -/
namespace Go.Proofs.YtheijpjfpaghfaaGreatDoor
open Go Go.RowKit Go.ChangeMaps Go.MapKept Gf Sha

/-- The program's purse and the reference's hold the same. -/
structure LJ (w0 w : World) (gp gm : Nat) (L : List Se) (mv : Value) (rs : List Se) : Prop where
 pg : PG w gp gm L
 rl : RLp w mv rs
 pm : (L.map (·.e)).Perm (rs.map (·.e))
 iv : PInv (rs.map (·.e))
 dj : ∀ b, RB mv rs b → ¬ PgB gp gm L b
 lo : ∀ b, PgB gp gm L b → w0.heap.size ≤ b
 be : Below w0.heap.size w0 w
section
variable {w0 w w1 w2 : World} {gp gm : Nat} {L L' : List Se} {mv mv' : Value} {rs rs' : List Se}
theorem LJ.kept (h : LJ w0 w gp gm L mv rs) (hb : Below w.heap.size w w1) : LJ w0 w1 gp gm L mv rs :=
 ⟨h.pg.kept hb, h.rl.kept hb, h.pm, h.iv, h.dj, h.lo, below_thenB h.be h.be.size hb⟩
/-- The reference's step, then the program's. -/
theorem LJ.step (h : LJ w0 w gp gm L mv rs) (r1 : RLp w1 mv' rs') (r3 : ∀ b, RB mv' rs' b → RB mv rs b ∨ w.heap.size ≤ b) (r4 : Below w.heap.size w w1) (p1 : PG w2 gp gm L') (p2 : Kp (PgB gp gm L) w1 w2) (p3 : ∀ b, PgB gp gm L' b → PgB gp gm L b ∨ w1.heap.size ≤ b)
  (pm : (L'.map (·.e)).Perm (rs'.map (·.e))) (iv : PInv (rs'.map (·.e))) : LJ w0 w2 gp gm L' mv' rs' := by
 have hdj : ∀ b, RB mv' rs' b → ¬ PgB gp gm L b := fun b hb hp => (r3 b hb).elim (fun h9 => h.dj b h9 hp) (fun h9 => by have := h.pg.lt hp; omega)
 refine ⟨p1, ⟨r1.row.kp p2 (fun b hb => hdj b (.inl hb)), fun x hx => (r1.ok x hx).kp p2 (fun b hb => hdj b (.inr ⟨x, hx, hb⟩))⟩, pm, iv, fun b hb hp => ?_, fun b hp => ?_, ?_⟩
 ·
  rcases p3 b hp with h9 | h9
  ·
   exact hdj b hb h9
  ·
   have := r1.lt hb; omega
 ·
  rcases p3 b hp with h9 | h9
  ·
   exact h.lo b h9
  ·
   have := h.be.size; have := r4.size; omega
 ·
  exact low_own (below_thenB h.be h.be.size r4) p2 (fun b hb hp => by have := h.lo b hp; omega)
/-- The program's step, then the reference's. -/
theorem LJ.step2 (h : LJ w0 w gp gm L mv rs) (p1 : PG w1 gp gm L') (p2 : Kp (PgB gp gm L) w w1) (p3 : ∀ b, PgB gp gm L' b → PgB gp gm L b ∨ w.heap.size ≤ b) (r1 : RLp w2 mv' rs') (r3 : ∀ b, RB mv' rs' b → RB mv rs b ∨ w1.heap.size ≤ b) (r4 : Below w1.heap.size w1 w2)
  (pm : (L'.map (·.e)).Perm (rs'.map (·.e))) (iv : PInv (rs'.map (·.e))) : LJ w0 w2 gp gm L' mv' rs' := by
 refine ⟨p1.kept r4, r1, pm, iv, fun b hb hp => ?_, fun b hp => ?_, ?_⟩
 ·
  rcases r3 b hb with h9 | h9
  ·
   rcases p3 b hp with h8 | h8
   ·
    exact h.dj b h9 h8
   ·
    have := h.rl.lt h9; omega
  ·
   have := p1.lt hp; omega
 ·
  rcases p3 b hp with h9 | h9
  ·
   exact h.lo b h9
  ·
   have := h.be.size; omega
 ·
  exact below_thenB (low_own h.be p2 (fun b hb hp => by have := h.lo b hp; omega)) (Nat.le_trans h.be.size p2.size) r4
theorem LJ.rl2 (h : LJ w0 w gp gm L mv rs) (p2 : Kp (PgB gp gm L) w w1) : RLp w1 mv rs := ⟨h.rl.row.kp p2 (fun b hb => h.dj b (.inl hb)), fun x hx => (h.rl.ok x hx).kp p2 (fun b hb => h.dj b (.inr ⟨x, hx, hb⟩))⟩
theorem LJ.ids (h : LJ w0 w gp gm L mv rs) : ((L.map (·.e)).map idE).Nodup := h.pg.ids
theorem LJ.len (h : LJ w0 w gp gm L mv rs) : rs.length ≤ 4096 ∧ L.length ≤ 4096 := by
 have h1 := h.iv.len
 have h2 := h.pm.length_eq
 rw [List.length_map] at h1 h2
 rw [List.length_map] at h2
 exact ⟨h1, by omega⟩
theorem LJ.size (h : LJ w0 w gp gm L mv rs) : sizeE (L.map (·.e)) ≤ 4096 := by rw [sizeE_perm h.pm]; exact h.iv.sz
theorem LJ.good (h : LJ w0 w gp gm L mv rs) : ∀ x ∈ L, GoodE x.e := fun x hx => h.iv.gd _ (h.pm.subset (List.mem_map.2 ⟨x, hx, rfl⟩))
theorem LJ.goodR (h : LJ w0 w gp gm L mv rs) : ∀ x ∈ rs, GoodE x.e := fun x hx => h.iv.gd _ (List.mem_map.2 ⟨x, hx, rfl⟩)
theorem LJ.non (h : LJ w0 w gp gm L mv rs) : ∀ x ∈ L, ∀ y ∈ nonE x.e, y.length ≤ 9223372036854775807 := fun x hx y hy => by
 have hg := h.good x hx
 rcases List.mem_append.1 hy with h9 | h9
 ·
  have := hg.u y h9; omega
 ·
  obtain ⟨z, hz, rfl⟩ := List.mem_map.1 h9
  have := (hg.t z hz).1; omega
theorem LJ.encs (h : LJ w0 w gp gm L mv rs) : ∀ l : List En, l.Perm (L.map (·.e)) → (encE l).length ≤ 1000000 := fun l hl => by
 rw [encE_perm (hl.trans h.pm)]
 exact h.iv.enc
/-- One sorted list. -/
theorem asc_eq : ∀ {l m : List En}, l.Perm m → AscE l → AscE m → l = m
 | [], m, hp, _, _ => (List.Perm.nil_eq hp)
 | a :: l, m, hp, h1, h2 => by
  cases m with
  | nil => exact absurd hp.length_eq (by simp)
  | cons b m =>
   have h1' := h1
   have h2' := h2
   unfold AscE at h1' h2'
   rw [List.map_cons, List.pairwise_cons] at h1' h2'
   have hab : a = b := by
    rcases List.mem_cons.1 (hp.subset (List.mem_cons_self ..)) with e | hm
    ·
     exact e
    ·
     rcases List.mem_cons.1 (hp.symm.subset (List.mem_cons_self ..)) with e | hl
     ·
      exact e.symm
     ·
      have h3 := h2'.1 _ (List.mem_map.2 ⟨a, hm, rfl⟩)
      have h4 := h1'.1 _ (List.mem_map.2 ⟨b, hl, rfl⟩)
      have h5 := ltI_tr h3 h4
      rw [ltI_irr] at h5
      cases h5
   subst hab
   rw [asc_eq (List.Perm.cons_inv hp) h1'.2 h2'.2]
theorem LJ.sorted (h : LJ w0 w gp gm L mv rs) {LS : List Se} (hp : LS.Perm L) (ha : (LS.map fun x => idE x.e).Pairwise (fun a b => ltI a b = true)) : LS.map (·.e) = rs.map (·.e) :=
 asc_eq ((hp.map _).trans h.pm) (by unfold AscE; rw [List.map_map]; exact ha) h.iv.asc
theorem LJ.of (h : LJ w0 w gp gm L mv rs) (p : Pid) : ofE (L.map (·.e)) p = ofE (rs.map (·.e)) p := ofE_perm h.pm h.ids p
/-- Add, both. -/
theorem LJ.add (h : LJ w0 w gp gm L mv rs) {xs : List PT} (r1 : RLp w1 mv' rs') (r2 : rs'.map (·.e) = (if adX (rs.map (·.e)) xs = 0 then addE (rs.map (·.e)) xs else rs.map (·.e))) (r3 : ∀ b, RB mv' rs' b → RB mv rs b ∨ w.heap.size ≤ b) (r4 : Below w.heap.size w w1)
  (p : if adX (L.map (·.e)) xs = 0 then ∃ L', PG w2 gp gm L' ∧ (L'.map (·.e)).Perm (addE (L.map (·.e)) xs) ∧ Kp (PgB gp gm L) w1 w2 ∧ ∀ b, PgB gp gm L' b → PgB gp gm L b ∨ w1.heap.size ≤ b else Below w1.heap.size w1 w2) : ∃ L', LJ w0 w2 gp gm L' mv' rs' := by
 have e := adX_cong xs h.pm h.ids
 rw [e] at p
 by_cases h0 : adX (rs.map (·.e)) xs = 0
 ·
  rw [if_pos h0] at p r2
  obtain ⟨L', p1, p2, p3, p4⟩ := p
  refine ⟨L', h.step r1 r3 r4 p1 p3 p4 ?_ ?_⟩
  ·
   rw [r2]
   exact p2.trans (addE_cong xs h.pm h.ids)
  ·
   rw [r2]
   exact h.iv.adX h0
 ·
  rw [if_neg h0] at p r2
  refine ⟨L, h.step r1 r3 r4 ((h.pg.kept r4).kept p) (Kp.of_below p) (fun b hb => .inl hb) ?_ ?_⟩
  ·
   rw [r2]; exact h.pm
  ·
   rw [r2]; exact h.iv
/-- The entry that a tokens' list stands in. -/
theorem ofE_mem {l : List En} {p : Pid} {e : En} (h : ofE l p = e) (ht : e.tk ≠ []) : e ∈ l := by
 by_cases hx : ∃ a ∈ l, idE a = p
 ·
  unfold ofE at h
  cases hf : l.find? (fun a => idE a == p) with
  | none =>
   obtain ⟨a, ha, hap⟩ := hx
   exact absurd (List.find?_eq_none.1 hf a ha) (by simpa using hap)
  | some a =>
   rw [hf] at h
   have h9 : a = e := h
   rw [← h9]
   exact List.mem_of_find?_eq_some hf
 ·
  rw [ofE_out (fun a ha e9 => hx ⟨a, ha, e9⟩)] at h
  rw [← h] at ht
  exact absurd rfl ht
theorem LJ.use (h : LJ w0 w gp gm L mv rs) {s : List UInt8} {i : Int} {y : Sc} {tk : List Sc} {us : List (List UInt8)} (hof : ofE (rs.map (·.e)) (s, i) = ⟨s, i, y :: tk, us⟩) :
  ∃ (j : Nat) (tv uv : Value), L[j]? = some ⟨⟨s, i, y :: tk, us⟩, tv, uv⟩ ∧ us.length < 100000 := by
 have h1 := ofE_mem ((h.of (s, i)).trans hof) (by simp)
 obtain ⟨x, hx, he⟩ := List.mem_map.1 h1
 obtain ⟨j, hj, rfl⟩ := List.getElem_of_mem hx
 have h2 := ofE_size h.iv.nodup (s, i)
 rw [hof] at h2
 have h3 := h.iv.sz
 refine ⟨j, L[j].tv, L[j].uv, ?_, by simp only [List.length_cons] at h2; omega⟩
 rw [List.getElem?_eq_getElem hj]
 congr 1
 have e : L[j] = ⟨L[j].e, L[j].tv, L[j].uv⟩ := rfl
 rw [e, he]
theorem LJ.used (h : LJ w0 w gp gm L mv rs) {s : List UInt8} {i : Int} {y : Sc} {tk : List Sc} {us : List (List UInt8)} (hof : ofE (rs.map (·.e)) (s, i) = ⟨s, i, y :: tk, us⟩) {j : Nat} {tv uv : Value} (hj : L[j]? = some ⟨⟨s, i, y :: tk, us⟩, tv, uv⟩) {x x' : Se} (hx : x.e = ⟨s, i, tk, us ++ [y.1]⟩) (hx' : x'.e = ⟨s, i, tk, us ++ [y.1]⟩)
  (r1 : RLp w1 mv' (putL rs x)) (r3 : ∀ b, RB mv' (putL rs x) b → RB mv rs b ∨ w.heap.size ≤ b) (r4 : Below w.heap.size w w1) (p1 : PG w2 gp gm (L.set j x')) (p2 : Kp (PgB gp gm L) w1 w2) (p3 : ∀ b, PgB gp gm (L.set j x') b → PgB gp gm L b ∨ w1.heap.size ≤ b) : LJ w0 w2 gp gm (L.set j x') mv' (putL rs x) := by
 refine h.step r1 r3 r4 p1 p2 p3 ?_ ?_
 ·
  rw [putL_map, hx, List.map_set, hx']
  have h8 := set_perm (l := L.map (·.e)) (e' := ⟨s, i, tk, us ++ [y.1]⟩) h.ids (j := j) (e := ⟨s, i, y :: tk, us⟩) (by rw [List.getElem?_map, hj]; rfl)
  have h9 := putE_perm (l := rs.map (·.e)) (e := ⟨s, i, tk, us ++ [y.1]⟩) (by simp)
  exact (h8.trans ((noId_perm h.pm _).cons _)).trans h9.symm
 ·
  rw [putL_map, hx]
  exact h.iv.use hof
theorem LJ.drop (h : LJ w0 w gp gm L mv rs) {s : List UInt8} {i : Int} (p1 : PG w1 gp gm (L.filter fun x => idE x.e != (s, i))) (p2 : Kp (· = gm) w w1) {x : Se} (hx : x = ⟨⟨s, i, [], []⟩, nilV, nilV⟩) (r1 : RLp w2 mv' (putL rs x)) (r3 : ∀ q, mv'.ownBlock = some q → w1.heap.size ≤ q) (r4 : Below w1.heap.size w1 w2) :
  LJ w0 w2 gp gm (L.filter fun x => idE x.e != (s, i)) mv' (putL rs x) := by
 have hp2 : Kp (PgB gp gm L) w w1 := p2.mono (fun b _ e => .inr (.inl e))
 have e1 : (putL rs x).map (·.e) = noId (s, i) (rs.map (·.e)) := by rw [putL_map, hx]; exact putE_empty rfl
 refine h.step2 p1 hp2 (fun b hb => .inl ?_) r1 (fun b hb => ?_) r4 ?_ ?_
 ·
  rcases hb with rfl | rfl | ⟨z, hz, hb⟩
  ·
   exact .inl rfl
  ·
   exact .inr (.inl rfl)
  ·
   exact .inr (.inr ⟨z, (List.mem_filter.1 hz).1, hb⟩)
 ·
  rcases hb with h9 | ⟨z, hz, h9⟩
  ·
   exact .inr (r3 b h9)
  ·
   rcases putGo_mem hz with rfl | hz
   ·
    rw [hx] at h9
    rcases h9 with h9 | h9 <;> cases h9
   ·
    exact .inl (.inr ⟨z, hz, h9⟩)
 ·
  rw [e1]
  have h8 := noId_perm h.pm (s, i)
  unfold noId at h8 ⊢
  rw [List.filter_map] at h8
  exact h8
 ·
  rw [e1]; exact h.iv.drop _
theorem LJ.dec (h : LJ w0 w gp gm L mv rs) (hb1 : Below w.heap.size w w1) {gp' gm' : Nat} (p1 : PG w2 gp' gm' L') (p3 : ∀ b, PgB gp' gm' L' b → w1.heap.size ≤ b) (hb2 : Below w1.heap.size w1 w2) (he : L'.map (·.e) = rs.map (·.e)) : LJ w0 w2 gp' gm' L' mv rs :=
 ⟨p1, (h.rl.kept hb1).kept hb2, by rw [he], h.iv, fun b hb hp => by have := h.rl.lt hb; have := p3 b hp; have := hb1.size; omega, fun b hp => by have := p3 b hp; have := h.be.size; have := hb1.size; omega, below_thenB (below_thenB h.be h.be.size hb1) (Nat.le_trans h.be.size hb1.size) hb2⟩
theorem LJ.new {w0 w w1 w2 : World} {gp gm : Nat} {mv : Value} (hb0 : Below w0.heap.size w0 w) (p1 : PG w1 gp gm []) (hb1 : Below w.heap.size w w1) (hg : w.heap.size ≤ gp ∧ w.heap.size ≤ gm) (r1 : RLp w2 mv []) (ho : ∀ b, mv.ownBlock = some b → w1.heap.size ≤ b) (hb2 : Below w1.heap.size w1 w2) : LJ w0 w2 gp gm [] mv [] := by
 have hs := hb0.size
 have hs1 := hb1.size
 have hlt : ∀ b, PgB gp gm [] b → b < w1.heap.size := fun b hb => p1.lt hb
 refine ⟨p1.kept hb2, r1, List.Perm.refl _, PInv.nil, fun b hb hp => ?_, fun b hp => ?_, below_thenB (below_thenB hb0 hs hb1) (Nat.le_trans hs hs1) hb2⟩
 ·
  rcases hb with h9 | ⟨z, hz, _⟩
  ·
   have := ho b h9; have := hlt b hp; omega
  ·
   cases hz
 ·
  rcases hp with rfl | rfl | ⟨z, hz, _⟩
  ·
   omega
  ·
   omega
  ·
   cases hz
end
/-- Decode of Encode gives the purse again. -/
theorem dec_again {l : List En} (h : PInv l) : (rdAll (encE l)).1 = l ∧ decP (encE l) = 0 := dec_enc h.valid h.sz h.gd h.len
theorem wp_execP {P : Program} {o : Oper} {a : Act} {w w' : World} {v : Value} {K : Act → World → Prop} {Q : Exit → Act → World → Prop} (hr : (execOp a.eval o).run P w = .ok (.value v) w') (hK : K (a.put o.dst v) w') : o.wp P a w K Q := by
 unfold Oper.wp
 rw [hr]
 exact hK
theorem exec_convP {o : Oper} {a : Act} {w : World} {x : Operand} {A : Option Addr} {n c : Nat} {l : List UInt8} (hop : o.op = .convert 22 9 x) (hx : a.eval x = .slice A n c) (h : BS w A n c l) : (execOp a.eval o).run Tryz.prog w = .ok (.value (.string (strB l))) w := by
 unfold execOp
 simp only [hop, hx]
 simp [conv_str h, Result.andThen]
theorem op_pid {w : World} {g : Nat} {o : Oc} {A : Option Addr} {n c : Nat} (h : BL w g 41 (opC o A n c)) : At w g 2 [.string (strB o.s), .int .i64 o.i] :=
 At.left (xs := [.int .i64 o.lim]) (at_skip (o := 0) (BL.all h))
theorem tk_blk {w : World} {A : Option Addr} {n c : Nat} {xs : List PT} (h : LS rTk 4 56 w A n c xs) {a : Addr} (ha : A = some a) (hn : 0 < n) : a.block < w.heap.size := by
 obtain ⟨g, o, cs, e, hat, hr⟩ := h.2.2.2 0 (by rw [h.1]; exact hn)
 rw [ha] at e
 injection e with e
 subst e
 obtain rfl := hr.1
 have h9 := hat 0 _ rfl
 exact cell_lt h9
theorem fldEn (s : List UInt8) (i : Int) (tv uv : Value) (w : World) : (Instr.field 54 (.agg #[.string (strB s), .int .i64 i, tv, uv]) 1).run Tryz.prog w = .ok tv w := by kernel_rfl
namespace TextL
open Text
variable {P : Program} {ops : Array Oper} {Q : Exit → Act → World → Prop} {S : World → Prop} {a : Act} {w : World} {t : BT} {i : Nat}
theorem beffw {o : Oper} (ho : ops[i]? = some o) (hw : Region.wanted o (yielded ops a.tmps) = true) (h : ∀ K : Act → World → Prop, (∀ a w, S w → wpBT P ops Q S t a w → K a w) → o.wp P a w K NoQ) : wpBT P ops Q S (.eff i t) a w := by
 have key : wpOp P ops Q i (fun a' w' => S w' ∧ wpBT P ops Q S t a' w') a w := by
  unfold wpOp
  simp only [ho]
  rw [if_pos hw]
  exact .inl (wp_of_noQ (h _ fun _ _ h1 h2 => ⟨h1, h2⟩))
 with_unfolding_all exact key
end TextL
end Go.Proofs.YtheijpjfpaghfaaGreatDoor
