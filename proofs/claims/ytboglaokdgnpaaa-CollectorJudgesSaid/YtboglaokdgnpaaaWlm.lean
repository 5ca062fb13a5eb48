/- The law's step, steps, wide. -/
import Derived.Test.YtboglaokdgnpaaaWjm
namespace Go.Proofs.Ytboglaokdgnpaaa
open Go Go.RowKit Gf Sha

theorem bldStep (a : Int) (A0 : Option Addr) (n0 c0 : Nat) (s : ByteArray) (i : Int) (A1 : Option Addr) (n1 c1 : Nat) (w : World) : (Instr.build 44 #[(0, .int .i64 a), (1, .slice A0 n0 c0), (2, .agg [.string s, .int .i64 i].toArray), (3, .slice A1 n1 c1)]).run Try.prog w = .ok (.agg [.int .i64 a, .slice A0 n0 c0, .string s, .int .i64 i, .slice A1 n1 c1].toArray) w := by kernel_rfl
set_option maxRecDepth 100000 in
set_option maxHeartbeats 1000000 in
theorem step_any (cs : List Value) (y : Stp) (w : World) (h : rStp w cs y) :
  Calls Try.prog 19 #[.agg cs.toArray] w fun e w' => e = .returned (.agg cs.toArray) ∧ Below w.heap.size w w' := by
 obtain ⟨A0, n0, c0, A1, n1, c1, rfl, _⟩ := h
 go_enter Try.func19, Try.ntmps19
 go_wp2_with (first
  | ((with_reducible show OpW 1); refine wpList_box _ rfl 42 (.tmp 0) rfl (stC y A0 n0 c0 A1 n1 c1) rfl ?_; intro w1 y1 y2 y3; have HB1 := Lib.hid y2; have HS1 := Lib.hid y1; clear y1 y2 y3)
  | ((with_reducible show OpW 2); refine wpList_alloc _ rfl 44 rfl stpZ stpZero ?_; intro w2 y1 y2 y3; have HR2 := Lib.hid y1; have HB2 := Lib.hid (below_then HB1.out y2); have HS2 := Lib.hid (HS1.out.kept y2); have hs := HS1.out.kept y2; have q0 := hs.get (j := 0) rfl; have q1 := hs.get (j := 1) rfl; have q4 := hs.get (j := 4) rfl; have HG := Lib.hid HB1.out.size; clear y1 y2 y3 hs)
  | ((with_reducible show OpW 8); refine wpList_loadv _ rfl 39 (.tmp 7) rfl 2 (by kernel_rfl) w.heap.size 2 (pcL y.pc) rfl (at_two (BL.all HS2.out)) rfl ?_)
  | ((with_reducible show OpW 11); refine wpList_build _ rfl 44 #[(0, .tmp 4), (1, .tmp 6), (2, .tmp 8), (3, .tmp 10)] rfl #[(0, .int .i64 y.kind), (1, .slice A0 n0 c0), (2, .agg (pcL y.pc).toArray), (3, .slice A1 n1 c1)] (by rw [List.map_toArray]; rfl) (.agg (stC y A0 n0 c0 A1 n1 c1).toArray) (bldStep _ _ _ _ _ _ _ _ _ _) ?_)
  | ((with_reducible show OpN); refine wpList_storev _ rfl 44 (.tmp 2) (.tmp 11) rfl 5 (by kernel_rfl) w1.heap.size 0 _ stpZ (stC y A0 n0 c0 A1 n1 c1) rfl rfl HR2.out rfl (one_val _ rfl) (by decide) ?_; intro w3 y1 y2 y3; have HT3 : Hid (BL w3 w1.heap.size 44 (stC y A0 n0 c0 A1 n1 c1)) := Lib.hid y1; have HK3 := Lib.hid y2; clear y1 y2 y3))
 (try simp only [Exit.inBlock, Exit.then])
 exact bodyPost_ret (results_at w3 Try.results19 (n := 5) (by kernel_rfl) (g := w1.heap.size) (o := 0) rfl (ms := stC y A0 n0 c0 A1 n1 c1) (BL.all HT3.out) rfl) rfl ⟨rfl, ((Kp.of_below (S := fun _ => False) HB2.out).after HK3.out (fun i hi e => by have := HG.out; omega)).below (Nat.le_refl _) (fun _ h => h.elim)⟩
set_option maxRecDepth 100000 in
set_option maxHeartbeats 2000000 in
theorem steps_any (A : Option Addr) (n c : Nat) (l : List Stp) (w : World) (h : LS rStp 5 80 w A n c l) (hn1 : n ≤ 1000) :
  Calls Try.prog 27 #[.slice A n c] w fun e w' => ∃ A' c', e = .returned (.slice A' n c') ∧ LS rStp 5 80 w' A' n c' l ∧ Below w.heap.size w w' := by
 have hn := h.len_le
 have H := Lib.hid h
 have HL := Lib.hid h.1
 have HN1 := Lib.hid hn1
 clear h hn1
 go_enter Try.func27, Try.ntmps27
 go_wp2_with fail
 go_loopw [3, 8] (fun v iv wr => ∃ k : Nat, k ≤ n ∧ iv = .int .i64 (k : Int) ∧ Hid (OL rStp 5 44 w wr v (l.take k)) ∧ Hid (Below w.heap.size w wr)) (fun _ iv _ => n - (intOf iv).toNat)
 case atStart => exact ⟨0, by omega, rfl, Lib.hid (OL.nil _ _ _ _ _), Lib.hid (Below.refl _ _)⟩
 case round =>
  obtain ⟨k, hk, rfl, ho, hb⟩ := hrel
  obtain ⟨wx, hwx⟩ : ∃ x, x = wr := ⟨_, rfl⟩
  rw [← hwx] at ho hb ⊢
  clear hwx
  by_cases hlt : k < n
  ·
   obtain ⟨t, g, o, cs, hs, ea, hat, hrt⟩ := H.out.at_ stay_stp (Below.refl _ _) hlt
   have HR := Lib.hid hrt
   obtain ⟨B0, p0, e0, B1, p1, e1, rfl, _⟩ := hrt
   have HX := Lib.hid hs
   have HA := Lib.hid (hat.kept hb.out)
   subst ea
   clear hs hat
   obtain ⟨nf, hnf⟩ : ∃ nf, (l.take k).length = nf := ⟨_, rfl⟩
   obtain ⟨css, hc1, hc2, hc3, hc4, hc5⟩ := ho.out
   rw [hnf] at hc4
   have HNF : Hid (nf ≤ 1000) := Lib.hid (by rw [← hnf, List.length_take]; have := HN1.out; omega)
   have HN := Lib.hid hnf
   have HC1 := Lib.hid hc1
   have HC2 := Lib.hid hc2
   have HC3 := Lib.hid hc3
   have HC4 := Lib.hid hc4
   have HC5 := Lib.hid hc5
   clear hnf hc1 hc2 hc3 hc4 hc5
   go_wp2_with (first
    | ((with_reducible show OpW 11); refine wpList_loadv _ rfl 42 (.tmp 10) rfl 5 (by kernel_rfl) g (o + k * 5) (stC t B0 p0 e0 B1 p1 e1) (by go_simp) HA.out rfl ?_)
    | ((with_reducible show OpW 5); refine wpList_alloc _ rfl 42 rfl stpZ stqZero ?_; intro w3 a1 a2 a3; have HV3 := Lib.hid a1; have HX3 := Lib.hid a2; clear a1 a2 a3)
    | ((with_reducible show OpN); refine wpList_storev _ rfl 42 (.tmp 5) (.tmp 11) rfl 5 (by kernel_rfl) wx.heap.size 0 _ stpZ (stC t B0 p0 e0 B1 p1 e1) rfl rfl HV3.out rfl (one_val _ rfl) (by decide) ?_; intro w4 a1 a2 a3; have HV4 : Hid (BL w4 wx.heap.size 42 (stC t B0 p0 e0 B1 p1 e1)) := Lib.hid a1; have HX4 : Hid (Below wx.heap.size wx w4) := Lib.hid (((Kp.of_below (S := fun _ => False) HX3.out).after a2 (fun i hi e => by omega)).below (Nat.le_refl _) (fun _ h => h.elim)); clear a1 a2 a3)
    | ((with_reducible show OpW 13); refine wpList_loadv _ rfl 42 (.tmp 5) rfl 5 (by kernel_rfl) wx.heap.size 0 (stC t B0 p0 e0 B1 p1 e1) rfl (BL.all HV4.out) rfl ?_)
    | (go_at_call 19; refine (step_any _ t _ (stay_stp _ _ _ _ HR.out (below_thenB hb.out hb.out.size HX4.out))).mono ?_; rintro e w5 ⟨rfl, b5⟩; have HX5 := Lib.hid (below_thenB HX4.out HX4.out.size b5); clear b5)
    | ((with_reducible show OpW 15); refine wpList_bslice _ rfl 29 44 1 _ rfl #[(0, .agg (stC t B0 p0 e0 B1 p1 e1).toArray)] (by rw [List.map_toArray]; rfl) (stC t B0 p0 e0 B1 p1 e1) (bslStp _ _ _ _ _ _ _ _ _ _) ?_; intro w8 y1 y2 y3; have HG8 := Lib.hid y1; have HX8 := Lib.hid (below_thenB HX5.out HX5.out.size y2); clear y1 y2 y3)
    | ((with_reducible show OpW 16); obtain ⟨iS, i1, i2, i3, i4⟩ := info_some infoStp; refine wpList_appRW _ rfl (.tmp 12) (.tmp 15) 29 44 5 iS _ rfl Try.underlying29 i1 i2 i3 rfl _ nf _ rfl (HC4.out.kept HX8.out) w5.heap.size _ rfl HG8.out rfl (one_val _ rfl) (by rw [i4]; have := HNF.out; omega) (by have := HNF.out; omega) ?_; intro v' w9 y1; have HR9 := Lib.hid y1; clear y1 i1 i2 i3 i4))
   have HY8 : Hid (Below w.heap.size w w8) := Lib.hid (below_thenB hb.out hb.out.size HX8.out)
   have HY9 : Hid (Below w.heap.size w w9) := Lib.hid (((Kp.of_below (S := fun _ => False) HY8.out).after HR9.out.kp (fun i hi e => by have := HC5.out i e; omega)).below (Nat.le_refl _) (fun _ h => h.elim))
   have HO9 : Hid (OL rStp 5 44 w w9 v' (l.take (k + 1))) := Lib.hid (by
    rw [take_next HX.out]
    exact OL.push HC1.out HC2.out HC3.out HC5.out HN.out rfl HR.out HY8.out.size HR9.out)
   go_roundw
   case rel => exact ⟨k + 1, by omega, by go_num, HO9, HY9⟩
   case measure => simp [intOf]; omega
  ·
   obtain rfl : k = n := by omega
   go_wp2_with fail
   go_ret
   have h9 := ho.out
   rw [take_end HL.out] at h9
   obtain ⟨A9, c9, e9, l9⟩ := OL.ls (b := 80) h9 stay_stp hb.out (by have := HN1.out; rw [HL.out]; unfold lim; omega)
   rw [HL.out] at e9 l9
   exact ⟨A9, c9, by rw [e9]; rfl, l9, hb.out⟩
def wideS (y : Stp) : Bool := decide (40 < y.sts.length) || decide (40 < y.refs.length)
def wideB (l : List Stp) : Bool := l.any wideS || decide (40 < l.length)
theorem wide_no {l : List Stp} (h : wideB l = false) : l.length ≤ 40 ∧ ∀ y ∈ l, y.sts.length ≤ 40 ∧ y.refs.length ≤ 40 := by
 simp only [wideB, Bool.or_eq_false_iff, decide_eq_false_iff_not] at h
 refine ⟨by omega, fun y hy => ?_⟩
 have := List.any_eq_false.1 h.1 y hy
 simp only [wideS, Bool.or_eq_true, decide_eq_true_eq, not_or] at this
 omega
set_option maxRecDepth 100000 in
set_option maxHeartbeats 2000000 in
theorem wide_any (A : Option Addr) (n c : Nat) (l : List Stp) (w : World) (h : LS rStp 5 80 w A n c l) :
  Calls Try.prog 17 #[.slice A n c] w fun e w' => e = .returned (.bool (wideB l)) ∧ Below w.heap.size w w' := by
 have hn := h.len_le
 have H := Lib.hid h
 have HL := Lib.hid h.1
 clear h
 go_enter Try.func17, Try.ntmps17
 go_wp2_with fail
 go_loopw [7] (fun iv wr => ∃ k : Nat, k ≤ n ∧ iv = .int .i64 (k : Int) ∧ Hid ((l.take k).any wideS = false) ∧ Hid (Below w.heap.size w wr)) (fun iv _ => n - (intOf iv).toNat)
 case atStart => exact ⟨0, by omega, rfl, Lib.hid rfl, Lib.hid (Below.refl _ _)⟩
 case round =>
  obtain ⟨k, hk, rfl, hall, hb⟩ := hrel
  obtain ⟨wx, hwx⟩ : ∃ x, x = wr := ⟨_, rfl⟩
  rw [← hwx] at hb ⊢
  clear hwx
  by_cases hlt : k < n
  ·
   obtain ⟨t, g, o, cs, hs, ea, hat, hrt⟩ := H.out.at_ stay_stp (Below.refl _ _) hlt
   obtain ⟨B0, p0, e0, B1, p1, e1, rfl, hl0, hl1, _⟩ := hrt
   have HP0 := Lib.hid hl0.1
   have HP1 := Lib.hid hl1.1
   have HX := Lib.hid hs
   have HA := Lib.hid (hat.kept hb.out)
   subst ea
   clear hs hat hl0 hl1
   by_cases h0 : 40 < p0
   ·
    have d1 : decide ((40 : Int) < (p0 : Int)) = true := decide_eq_true (by omega)
    have d2 : decide (40 < p0) = true := decide_eq_true h0
    have HR : Hid (wideB l = true) := Lib.hid (by rw [wideB, any_hit HX.out (by rw [wideS, HP0.out, d2]; rfl)]; rfl)
    clear h0
    go_wp2_with (first
     | ((with_reducible show OpW 10); refine wpList_loadv _ rfl 42 (.tmp 9) rfl 5 (by kernel_rfl) g (o + k * 5) (stC t B0 p0 e0 B1 p1 e1) (by go_simp) HA.out rfl ?_)
     | ((with_reducible show OpW 4); refine wpList_alloc _ rfl 42 rfl stpZ stqZero ?_; intro w3 a1 a2 a3; have HV3 := Lib.hid a1; have HX3 := Lib.hid a2; clear a1 a2 a3)
     | ((with_reducible show OpN); refine wpList_storev _ rfl 42 (.tmp 4) (.tmp 10) rfl 5 (by kernel_rfl) wx.heap.size 0 _ stpZ (stC t B0 p0 e0 B1 p1 e1) rfl rfl HV3.out rfl (one_val _ rfl) (by decide) ?_; intro w4 a1 a2 a3; have HV4 : Hid (BL w4 wx.heap.size 42 (stC t B0 p0 e0 B1 p1 e1)) := Lib.hid a1; have HX4 : Hid (Below wx.heap.size wx w4) := Lib.hid (((Kp.of_below (S := fun _ => False) HX3.out).after a2 (fun i hi e => by omega)).below (Nat.le_refl _) (fun _ h => h.elim)); clear a1 a2 a3; have r1 := HV4.out.get (j := 1) rfl; have r4 := HV4.out.get (j := 4) rfl)
     | fail)
    go_ret
    exact ⟨ret_bool HR.out.symm, below_thenB hb.out hb.out.size HX4.out⟩
   have d1 : decide ((40 : Int) < (p0 : Int)) = false := decide_eq_false (by omega)
   have d2 : decide (40 < p0) = false := decide_eq_false h0
   by_cases h1 : 40 < p1
   ·
    have d3 : decide ((40 : Int) < (p1 : Int)) = true := decide_eq_true (by omega)
    have d4 : decide (40 < p1) = true := decide_eq_true h1
    have HR : Hid (wideB l = true) := Lib.hid (by rw [wideB, any_hit HX.out (by rw [wideS, HP0.out, HP1.out, d2, d4]; rfl)]; rfl)
    clear h0 h1
    go_wp2_with (first
     | ((with_reducible show OpW 10); refine wpList_loadv _ rfl 42 (.tmp 9) rfl 5 (by kernel_rfl) g (o + k * 5) (stC t B0 p0 e0 B1 p1 e1) (by go_simp) HA.out rfl ?_)
     | ((with_reducible show OpW 4); refine wpList_alloc _ rfl 42 rfl stpZ stqZero ?_; intro w3 a1 a2 a3; have HV3 := Lib.hid a1; have HX3 := Lib.hid a2; clear a1 a2 a3)
     | ((with_reducible show OpN); refine wpList_storev _ rfl 42 (.tmp 4) (.tmp 10) rfl 5 (by kernel_rfl) wx.heap.size 0 _ stpZ (stC t B0 p0 e0 B1 p1 e1) rfl rfl HV3.out rfl (one_val _ rfl) (by decide) ?_; intro w4 a1 a2 a3; have HV4 : Hid (BL w4 wx.heap.size 42 (stC t B0 p0 e0 B1 p1 e1)) := Lib.hid a1; have HX4 : Hid (Below wx.heap.size wx w4) := Lib.hid (((Kp.of_below (S := fun _ => False) HX3.out).after a2 (fun i hi e => by omega)).below (Nat.le_refl _) (fun _ h => h.elim)); clear a1 a2 a3; have r1 := HV4.out.get (j := 1) rfl; have r4 := HV4.out.get (j := 4) rfl)
     | fail)
    go_ret
    exact ⟨ret_bool HR.out.symm, below_thenB hb.out hb.out.size HX4.out⟩
   ·
    have d3 : decide ((40 : Int) < (p1 : Int)) = false := decide_eq_false (by omega)
    have d4 : decide (40 < p1) = false := decide_eq_false h1
    have HR : Hid ((l.take (k + 1)).any wideS = false) := Lib.hid (any_step HX.out hall.out (by rw [wideS, HP0.out, HP1.out, d2, d4]; rfl))
    clear h0 h1
    go_wp2_with (first
     | ((with_reducible show OpW 10); refine wpList_loadv _ rfl 42 (.tmp 9) rfl 5 (by kernel_rfl) g (o + k * 5) (stC t B0 p0 e0 B1 p1 e1) (by go_simp) HA.out rfl ?_)
     | ((with_reducible show OpW 4); refine wpList_alloc _ rfl 42 rfl stpZ stqZero ?_; intro w3 a1 a2 a3; have HV3 := Lib.hid a1; have HX3 := Lib.hid a2; clear a1 a2 a3)
     | ((with_reducible show OpN); refine wpList_storev _ rfl 42 (.tmp 4) (.tmp 10) rfl 5 (by kernel_rfl) wx.heap.size 0 _ stpZ (stC t B0 p0 e0 B1 p1 e1) rfl rfl HV3.out rfl (one_val _ rfl) (by decide) ?_; intro w4 a1 a2 a3; have HV4 : Hid (BL w4 wx.heap.size 42 (stC t B0 p0 e0 B1 p1 e1)) := Lib.hid a1; have HX4 : Hid (Below wx.heap.size wx w4) := Lib.hid (((Kp.of_below (S := fun _ => False) HX3.out).after a2 (fun i hi e => by omega)).below (Nat.le_refl _) (fun _ h => h.elim)); clear a1 a2 a3; have r1 := HV4.out.get (j := 1) rfl; have r4 := HV4.out.get (j := 4) rfl)
     | fail)
    go_roundw
    case rel => exact ⟨k + 1, by omega, by go_num, HR, Lib.hid (below_thenB hb.out hb.out.size HX4.out)⟩
    case measure => simp [intOf]; omega
  ·
   obtain rfl : k = n := by omega
   have HR : Hid (wideB l = decide (40 < k)) := Lib.hid (by have h9 := hall.out; rw [take_end HL.out] at h9; rw [wideB, h9, HL.out]; rfl)
   by_cases h0 : 40 < k
   ·
    have d1 : decide ((40 : Int) < (k : Int)) = true := decide_eq_true (by omega)
    have d2 : decide (40 < k) = true := decide_eq_true h0
    go_wp2_with fail
    go_ret
    exact ⟨ret_bool (by rw [HR.out, d2]), hb.out⟩
   ·
    have d1 : decide ((40 : Int) < (k : Int)) = false := decide_eq_false (by omega)
    have d2 : decide (40 < k) = false := decide_eq_false h0
    go_wp2_with fail
    go_ret
    exact ⟨ret_bool (by rw [HR.out, d2]), hb.out⟩
end Go.Proofs.Ytboglaokdgnpaaa
