/- Several texts in one: Ce, Cf, Cg. -/
import Derived.Test.YtboglaokdgnpaaaA9
/- The reference's bytes, IsUnneeded, IsSparse, Uncovered. -/
namespace Go.Proofs.Ytboglaokdgnpaaa
open Go Go.RowKit Gf Sha

/-- The sizes of refs are those of chunks. -/
def szOk (l : List Rf) : Prop := l.length ≤ 1000 ∧ ∀ r ∈ l, 0 ≤ r.2.2 ∧ r.2.2 ≤ 32768
theorem sizes_snoc (l : List Rf) (r : Rf) : sizes (l ++ [r]) = sizes l + r.2.2 := by simp [sizes, List.foldl_append]
theorem sizes_bound : ∀ (k : Nat) (l : List Rf), l.length = k → (∀ r ∈ l, 0 ≤ r.2.2 ∧ r.2.2 ≤ 32768) → 0 ≤ sizes l ∧ sizes l ≤ 32768 * k := by
 intro k
 induction k with
 | zero =>
  intro l hl _
  rw [List.eq_nil_of_length_eq_zero hl]; simp [sizes]
 | succ k ih =>
  intro l hl h
  have hne : l ≠ [] := by intro e; rw [e] at hl; cases hl
  have e := List.dropLast_concat_getLast hne
  have h1 := ih l.dropLast (by rw [List.length_dropLast, hl]; rfl) (fun r hr => h r ((List.dropLast_prefix l).subset hr))
  have h2 := h _ (List.getLast_mem hne)
  rw [← e, sizes_snoc]
  omega
theorem szOk.bound {l : List Rf} (h : szOk l) : 0 ≤ sizes l ∧ sizes l ≤ 32768000 := by
 have := sizes_bound l.length l rfl h.2
 have := h.1
 omega
theorem szOk.filter {l : List Rf} (h : szOk l) (p : Rf → Bool) : szOk (l.filter p) := ⟨Nat.le_trans (List.length_filter_le _ _) h.1, fun r hr => h.2 r (List.mem_filter.1 hr).1⟩

set_option maxHeartbeats 1000000 in
theorem bytes_any (A : Option Addr) (m c : Nat) (l : List Rf) (w : World) (h : LS rRf 3 32 w A m c l) (hz : szOk l) :
  Calls Try.prog 76 #[.slice A m c] w fun e w' => e = .returned (.int .i64 (sizes l)) ∧ Below w.heap.size w w' := by
 have hn := h.len_le
 have HR := Lib.hid h
 have HL := Lib.hid h.1
 have HZ := Lib.hid hz
 clear h hz
 go_enter Try.func76, Try.ntmps76
 go_wp2_with fail
 go_loopw [3, 8] (fun v iv wr => ∃ k : Nat, k ≤ m ∧ iv = .int .i64 (k : Int) ∧ Hid (v = .int .i64 (sizes (l.take k))) ∧ Hid (Below w.heap.size w wr)) (fun _ iv _ => m - (intOf iv).toNat)
 case atStart => exact ⟨0, by omega, rfl, Lib.hid rfl, Lib.hid (Below.refl _ _)⟩
 case round =>
  obtain ⟨k, hk, rfl, hv, hb⟩ := hrel
  obtain rfl := hv.out
  clear hv
  obtain ⟨wx, hwx⟩ : ∃ x, x = wr := ⟨_, rfl⟩
  rw [← hwx] at hb ⊢
  clear hwx
  by_cases hlt : k < m
  ·
   obtain ⟨r, g, o, cs, hs, rfl, hat, rfl, hok⟩ := HR.out.at_ stay_rf (Below.refl _ _) hlt
   have HA := Lib.hid (hat.kept hb.out)
   have HS : Hid (sizes (l.take (k + 1)) = sizes (l.take k) + r.2.2) := Lib.hid (by rw [take_next hs, sizes_snoc])
   have h1 : szOk (l.take k) := ⟨Nat.le_trans (List.length_take_le _ _) (by have := HZ.out.1; have := HL.out; omega), fun r hr => HZ.out.2 r (List.mem_of_mem_take hr)⟩
   have b1 := h1.bound
   have b2 := HZ.out.2 r (List.mem_of_getElem? hs)
   obtain ⟨S, hS⟩ : ∃ S, S = sizes (l.take k) := ⟨_, rfl⟩
   rw [← hS] at HS b1 ⊢
   have ew : IntKind.i64.wrap (S + r.2.2) = S + r.2.2 := by rw [IntKind.wrap_i64]; omega
   clear hs hat hok h1 hS
   go_wp2_with (first
    | ((with_reducible show OpW 11); refine wpList_loadv _ rfl 73 (.tmp 10) rfl 3 (by kernel_rfl) g (o + k * 3) (rfL r) (by go_simp) HA.out rfl ?_)
    | ((with_reducible show OpW 5); refine wpList_alloc _ rfl 73 rfl rfZ rfZero ?_; intro w3 a1 a2 a3; have HV3 := Lib.hid a1; have HX3 := Lib.hid a2; clear a1 a2 a3)
    | ((with_reducible show OpN); refine wpList_storev _ rfl 73 (.tmp 5) (.tmp 11) rfl 3 (by kernel_rfl) wx.heap.size 0 _ rfZ (rfL r) rfl rfl HV3.out rfl (one_rf r) (by decide) ?_; intro w4 a1 a2 a3; have HV4 : Hid (BL w4 wx.heap.size 73 (rfL r)) := Lib.hid a1; have HX4 : Hid (Below wx.heap.size wx w4) := Lib.hid (((Kp.of_below (S := fun _ => False) HX3.out).after a2 (fun i hi e => by omega)).below (Nat.le_refl _) (fun _ h => h.elim)); clear a1 a2 a3; have r2 := HV4.out.get (j := 2) rfl)
    | fail)
   go_roundw
   case rel => exact ⟨k + 1, by omega, by go_num, Lib.hid (by rw [HS.out]), Lib.hid (below_thenB hb.out hb.out.size HX4.out)⟩
   case measure => simp [intOf]; omega
  ·
   obtain rfl : k = m := by omega
   have HE : Hid (l.take k = l) := Lib.hid (take_end HL.out)
   go_wp2_with fail
   go_ret
   exact ⟨by rw [HE.out]; rfl, hb.out⟩

set_option maxRecDepth 100000 in
set_option maxHeartbeats 2000000 in
theorem isun_any (cx cs : List Value) (x : Si) (s : Sp) (w : World) (hx : rSi w cx x) (h : rSp w cs s) :
  Calls Try.prog 33 #[.agg cx.toArray, .agg cs.toArray] w fun e w' => e = .returned (.bool (unneedB x s)) ∧ Below w.heap.size w w' := by
 have HX := Lib.hid hx
 have HP := Lib.hid h
 obtain ⟨a0, n0, c0, a1, n1, c1, a2, n2, c2, a3, n3, c3, a4, n4, c4, a5, n5, c5, rfl, _⟩ := hx
 obtain ⟨A, m, c, rfl, _⟩ := h
 obtain ⟨N, hN⟩ : ∃ N, N = (wanted x s).length := ⟨_, rfl⟩
 cases h1 : liveB x s.id with
 | false =>
  have HR : Hid (unneedB x s = false) := Lib.hid (by rw [unneedB, h1]; rfl)
  clear hN
  go_enter Try.func33, Try.ntmps33
  go_wp2_with (first
   | ((with_reducible show OpW 2); refine wpList_box _ rfl 26 (.tmp 0) rfl (siC a0 n0 c0 a1 n1 c1 a2 n2 c2 a3 n3 c3 a4 n4 c4 a5 n5 c5 x.pct) rfl ?_; intro w1 a1 a2 a3; have HB1 := Lib.hid a2; have HS1 := Lib.hid a1; clear a1 a2 a3)
   | ((with_reducible show OpW 3); refine wpList_box _ rfl 61 (.tmp 1) rfl (spC s A m c) rfl ?_; intro w2 a1 a2 a3; have HB2 := Lib.hid (below_then HB1.out a2); have HS2 := Lib.hid (HS1.out.kept a2); have HP2 := Lib.hid a1; clear a1 a2 a3)
   | ((with_reducible show OpW 5); refine wpList_loadv _ rfl 26 (.tmp 2) rfl 7 (by kernel_rfl) w.heap.size 0 _ rfl (BL.all HS2.out) rfl ?_)
   | ((with_reducible show OpW 6); refine wpList_loadv _ rfl 61 (.tmp 3) rfl 6 (by kernel_rfl) w1.heap.size 0 (spC s A m c) rfl (BL.all HP2.out) rfl ?_)
   | (go_at_call 45; refine (live_any _ _ x s _ (stay_si _ _ _ _ HX.out HB2.out) (stay_sp _ _ _ _ HP.out HB2.out)).mono ?_; rintro e w5 ⟨rfl, b5⟩; rw [h1]; have HB5 := Lib.hid (below_then HB2.out b5); have HS5 := Lib.hid (HS2.out.kept b5); have HP5 := Lib.hid (HP2.out.kept b5); clear b5)
   | ((with_reducible show OpW 9); refine wpList_loadvg _ rfl 26 (.tmp 2) rfl 7 (by kernel_rfl) w.heap.size 0 _ rfl (BL.all HS5.out) rfl ?_)
   | ((with_reducible show OpW 10); refine wpList_loadvg _ rfl 61 (.tmp 3) rfl 6 (by kernel_rfl) w1.heap.size 0 (spC s A m c) rfl (BL.all HP5.out) rfl ?_)
   | (go_at_call 44; refine (wanted_any _ _ x s _ (stay_si _ _ _ _ HX.out HB5.out) (stay_sp _ _ _ _ HP.out HB5.out)).mono ?_; rintro e w6 ⟨A6, c6, rfl, _, b6⟩; have HB6 := Lib.hid (below_then HB5.out b6); clear b6))
  go_ret
  exact ⟨ret_bool HR.out.symm, HB5.out⟩
 | true =>
  have HR : Hid (unneedB x s = ((N : Int) == 0)) := Lib.hid (by
   rw [unneedB, h1, Bool.true_and, hN]
   cases wanted x s with
   | nil => rfl
   | cons a l => simp; omega)
  have hN' := Lib.hid hN
  go_enter Try.func33, Try.ntmps33
  go_wp2_with (first
   | ((with_reducible show OpW 2); refine wpList_box _ rfl 26 (.tmp 0) rfl (siC a0 n0 c0 a1 n1 c1 a2 n2 c2 a3 n3 c3 a4 n4 c4 a5 n5 c5 x.pct) rfl ?_; intro w1 a1 a2 a3; have HB1 := Lib.hid a2; have HS1 := Lib.hid a1; clear a1 a2 a3)
   | ((with_reducible show OpW 3); refine wpList_box _ rfl 61 (.tmp 1) rfl (spC s A m c) rfl ?_; intro w2 a1 a2 a3; have HB2 := Lib.hid (below_then HB1.out a2); have HS2 := Lib.hid (HS1.out.kept a2); have HP2 := Lib.hid a1; clear a1 a2 a3)
   | ((with_reducible show OpW 5); refine wpList_loadv _ rfl 26 (.tmp 2) rfl 7 (by kernel_rfl) w.heap.size 0 _ rfl (BL.all HS2.out) rfl ?_)
   | ((with_reducible show OpW 6); refine wpList_loadv _ rfl 61 (.tmp 3) rfl 6 (by kernel_rfl) w1.heap.size 0 (spC s A m c) rfl (BL.all HP2.out) rfl ?_)
   | (go_at_call 45; refine (live_any _ _ x s _ (stay_si _ _ _ _ HX.out HB2.out) (stay_sp _ _ _ _ HP.out HB2.out)).mono ?_; rintro e w5 ⟨rfl, b5⟩; rw [h1]; have HB5 := Lib.hid (below_then HB2.out b5); have HS5 := Lib.hid (HS2.out.kept b5); have HP5 := Lib.hid (HP2.out.kept b5); clear b5)
   | ((with_reducible show OpW 9); refine wpList_loadvg _ rfl 26 (.tmp 2) rfl 7 (by kernel_rfl) w.heap.size 0 _ rfl (BL.all HS5.out) rfl ?_)
   | ((with_reducible show OpW 10); refine wpList_loadvg _ rfl 61 (.tmp 3) rfl 6 (by kernel_rfl) w1.heap.size 0 (spC s A m c) rfl (BL.all HP5.out) rfl ?_)
   | (go_at_call 44; refine (wanted_any _ _ x s _ (stay_si _ _ _ _ HX.out HB5.out) (stay_sp _ _ _ _ HP.out HB5.out)).mono ?_; rintro e w6 ⟨A6, c6, rfl, _, b6⟩; have HB6 := Lib.hid (below_then HB5.out b6); clear b6))
  go_ret
  exact ⟨ret_bool (by rw [HR.out, hN'.out]), HB6.out⟩

set_option maxRecDepth 100000 in
set_option maxHeartbeats 4000000 in
theorem issp_any (cx cs : List Value) (x : Si) (s : Sp) (w : World) (hx : rSi w cx x) (h : rSp w cs s) (hz : szOk s.refs) (hp : 0 ≤ x.pct ∧ x.pct ≤ 100) :
  Calls Try.prog 34 #[.agg cx.toArray, .agg cs.toArray] w fun e w' => e = .returned (.bool (sparseB x s)) ∧ Below w.heap.size w w' := by
 have HX := Lib.hid hx
 have HP := Lib.hid h
 obtain ⟨a0, n0, c0, a1, n1, c1, a2, n2, c2, a3, n3, c3, a4, n4, c4, a5, n5, c5, rfl, _⟩ := hx
 obtain ⟨A, m, c, rfl, hl, _⟩ := h
 have HLR := Lib.hid hl
 clear hl
 obtain ⟨N, hN⟩ : ∃ N, N = (wanted x s).length := ⟨_, rfl⟩
 have HN := Lib.hid hN.symm
 cases h1 : liveB x s.id with
 | false =>
  have HR : Hid (sparseB x s = false) := Lib.hid (by rw [sparseB, h1]; rfl)
  go_enter Try.func34, Try.ntmps34
  go_wp2_with (first
   | ((with_reducible show OpW 2); refine wpList_box _ rfl 26 (.tmp 0) rfl (siC a0 n0 c0 a1 n1 c1 a2 n2 c2 a3 n3 c3 a4 n4 c4 a5 n5 c5 x.pct) rfl ?_; intro w1 a1 a2 a3; have HB1 := Lib.hid a2; have HS1 := Lib.hid a1; clear a1 a2 a3)
   | ((with_reducible show OpW 3); refine wpList_box _ rfl 61 (.tmp 1) rfl (spC s A m c) rfl ?_; intro w2 a1 a2 a3; have HB2 := Lib.hid (below_then HB1.out a2); have HS2 := Lib.hid (HS1.out.kept a2); have HP2 := Lib.hid a1; clear a1 a2 a3)
   | ((with_reducible show OpW 6); refine wpList_loadv _ rfl 26 (.tmp 2) rfl 7 (by kernel_rfl) w.heap.size 0 _ rfl (BL.all HS2.out) rfl ?_)
   | ((with_reducible show OpW 7); refine wpList_loadv _ rfl 61 (.tmp 3) rfl 6 (by kernel_rfl) w1.heap.size 0 (spC s A m c) rfl (BL.all HP2.out) rfl ?_)
   | (go_at_call 44; refine (wanted_any _ _ x s _ (stay_si _ _ _ _ HX.out HB2.out) (stay_sp _ _ _ _ HP.out HB2.out)).mono ?_; rintro e w3 ⟨A3, c3', rfl, l3, b3⟩; rw [HN.out] at l3; rw [HN.out]; have HB3 := Lib.hid (below_then HB2.out b3); have HS3 := Lib.hid (HS2.out.kept b3); have HP3 := Lib.hid (HP2.out.kept b3); have HL3 := Lib.hid l3; clear l3 b3))
  refine Text.wp_region_text (fun w' => Below w3.heap.size w3 w') [(0, 0), (1, 0), (2, 2), (3, 4), (4, 4), (5, 4), (6, 4), (7, 4), (8, 4), (9, 4), (10, 4), (11, 4), (12, 4), (13, 4), (14, 4), (15, 4), (16, 4), (17, 4), (18, 4), (19, 4), (20, 4)] (by kernel_rfl) (by kernel_rfl) (fun _ _ _ _ _ h => h) ((Below.refl _ _).drew) ?_
  refine Text.heldk rfl rfl (fun K hK => ?_)
  refine ⟨_, fun w' hw' => exec_loadv 26 (.tmp 2) rfl 7 (by kernel_rfl) w.heap.size 0 _ rfl (BL.all (HS3.out.kept hw')) rfl, ?_⟩
  go_simp
  refine hK _ ?_
  clear hK K
  refine Text.heldk rfl rfl (fun K hK => ?_)
  refine ⟨_, fun w' hw' => exec_loadv 61 (.tmp 3) rfl 6 (by kernel_rfl) w1.heap.size 0 (spC s A m c) rfl (BL.all (HP3.out.kept hw')) rfl, ?_⟩
  go_simp
  refine hK _ ?_
  clear hK K
  refine Text.eff rfl rfl (fun K hK => ?_)
  go_simp
  refine (live_any _ _ x s _ (stay_si _ _ _ _ HX.out HB3.out.drew) (stay_sp _ _ _ _ HP.out HB3.out.drew)).mono ?_
  rintro e w5 ⟨rfl, b5⟩
  rw [h1]
  have HY5 : Hid (Below w3.heap.size w3 w5) := Lib.hid (below_ofDrew b5)
  refine hK _ _ HY5.out ?_
  clear hK K b5
  (refine Text.purek rfl rfl (fun K hK => ⟨_, fun w' => by go_simp <;> rfl, ?_⟩); go_simp; refine hK _ ?_; clear hK K)
  iterate 3 (refine Text.skipk (.inr (.inr rfl)) rfl rfl (fun K hK => ?_); go_simp; refine hK _ ?_; clear hK K)
  iterate 2 (refine Text.purek rfl rfl (fun K hK => ⟨_, fun w' => by go_simp <;> rfl, ?_⟩); go_simp; refine hK _ ?_; clear hK K)
  iterate 10 (refine Text.skipk (.inr (.inr rfl)) rfl rfl (fun K hK => ?_); go_simp; refine hK _ ?_; clear hK K)
  iterate 2 (refine Text.purek rfl rfl (fun K hK => ⟨_, fun w' => by go_simp <;> rfl, ?_⟩); go_simp; refine hK _ ?_; clear hK K)
  refine Text.done ?_
  go_wp2_with fail
  go_ret
  exact ⟨ret_bool HR.out.symm, below_thenB HB3.out HB3.out.size HY5.out⟩
 | true =>
  by_cases h0 : N = 0
  ·
   have HR : Hid (sparseB x s = false) := Lib.hid (by
    rw [sparseB, h1, List.eq_nil_of_length_eq_zero (l := wanted x s) (by rw [← hN]; exact h0)]; rfl)
   have d0 : decide (0 < N) = false := decide_eq_false (by omega)
   have d1 : decide ((0 : Int) < (N : Int)) = false := decide_eq_false (by omega)
   clear hN h0
   go_enter Try.func34, Try.ntmps34
   go_wp2_with (first
    | ((with_reducible show OpW 2); refine wpList_box _ rfl 26 (.tmp 0) rfl (siC a0 n0 c0 a1 n1 c1 a2 n2 c2 a3 n3 c3 a4 n4 c4 a5 n5 c5 x.pct) rfl ?_; intro w1 a1 a2 a3; have HB1 := Lib.hid a2; have HS1 := Lib.hid a1; clear a1 a2 a3)
    | ((with_reducible show OpW 3); refine wpList_box _ rfl 61 (.tmp 1) rfl (spC s A m c) rfl ?_; intro w2 a1 a2 a3; have HB2 := Lib.hid (below_then HB1.out a2); have HS2 := Lib.hid (HS1.out.kept a2); have HP2 := Lib.hid a1; clear a1 a2 a3)
    | ((with_reducible show OpW 6); refine wpList_loadv _ rfl 26 (.tmp 2) rfl 7 (by kernel_rfl) w.heap.size 0 _ rfl (BL.all HS2.out) rfl ?_)
    | ((with_reducible show OpW 7); refine wpList_loadv _ rfl 61 (.tmp 3) rfl 6 (by kernel_rfl) w1.heap.size 0 (spC s A m c) rfl (BL.all HP2.out) rfl ?_)
    | (go_at_call 44; refine (wanted_any _ _ x s _ (stay_si _ _ _ _ HX.out HB2.out) (stay_sp _ _ _ _ HP.out HB2.out)).mono ?_; rintro e w3 ⟨A3, c3', rfl, l3, b3⟩; rw [HN.out] at l3; rw [HN.out]; have HB3 := Lib.hid (below_then HB2.out b3); have HS3 := Lib.hid (HS2.out.kept b3); have HP3 := Lib.hid (HP2.out.kept b3); have HL3 := Lib.hid l3; clear l3 b3))
   refine Text.wp_region_text (fun w' => Below w3.heap.size w3 w') [(0, 0), (1, 0), (2, 2), (3, 4), (4, 4), (5, 4), (6, 4), (7, 4), (8, 4), (9, 4), (10, 4), (11, 4), (12, 4), (13, 4), (14, 4), (15, 4), (16, 4), (17, 4), (18, 4), (19, 4), (20, 4)] (by kernel_rfl) (by kernel_rfl) (fun _ _ _ _ _ h => h) ((Below.refl _ _).drew) ?_
   refine Text.heldk rfl rfl (fun K hK => ?_)
   refine ⟨_, fun w' hw' => exec_loadv 26 (.tmp 2) rfl 7 (by kernel_rfl) w.heap.size 0 _ rfl (BL.all (HS3.out.kept hw')) rfl, ?_⟩
   go_simp
   refine hK _ ?_
   clear hK K
   refine Text.heldk rfl rfl (fun K hK => ?_)
   refine ⟨_, fun w' hw' => exec_loadv 61 (.tmp 3) rfl 6 (by kernel_rfl) w1.heap.size 0 (spC s A m c) rfl (BL.all (HP3.out.kept hw')) rfl, ?_⟩
   go_simp
   refine hK _ ?_
   clear hK K
   refine Text.eff rfl rfl (fun K hK => ?_)
   go_simp
   refine (live_any _ _ x s _ (stay_si _ _ _ _ HX.out HB3.out.drew) (stay_sp _ _ _ _ HP.out HB3.out.drew)).mono ?_
   rintro e w5 ⟨rfl, b5⟩
   rw [h1]
   have HY5 : Hid (Below w3.heap.size w3 w5) := Lib.hid (below_ofDrew b5)
   refine hK _ _ HY5.out ?_
   clear hK K b5
   iterate 6 (refine Text.purek rfl rfl (fun K hK => ⟨_, fun w' => by go_simp <;> rfl, ?_⟩); go_simp; refine hK _ ?_; clear hK K)
   iterate 10 (refine Text.skipk (.inr (.inr rfl)) rfl rfl (fun K hK => ?_); go_simp; refine hK _ ?_; clear hK K)
   iterate 2 (refine Text.purek rfl rfl (fun K hK => ⟨_, fun w' => by go_simp <;> rfl, ?_⟩); go_simp; refine hK _ ?_; clear hK K)
   refine Text.done ?_
   go_wp2_with fail
   go_ret
   exact ⟨ret_bool HR.out.symm, below_thenB HB3.out HB3.out.size HY5.out⟩
  ·
   have HZW : Hid (szOk (wanted x s)) := Lib.hid (hz.filter _)
   have HZR := Lib.hid hz
   have b1 := HZW.out.bound
   have b2 := HZR.out.bound
   obtain ⟨S1, hS1⟩ : ∃ S, S = sizes (wanted x s) := ⟨_, rfl⟩
   obtain ⟨S2, hS2⟩ : ∃ S, S = sizes s.refs := ⟨_, rfl⟩
   obtain ⟨P2, hP2⟩ : ∃ P, P = x.pct * S2 := ⟨_, rfl⟩
   have HR : Hid (sparseB x s = decide (100 * S1 < P2)) := Lib.hid (by
    have : (wanted x s).isEmpty = false := by
     cases hw : wanted x s with
     | nil => rw [hw] at hN; exact absurd hN h0
     | cons a l => rfl
    rw [sparseB, h1, this, hP2, hS1, hS2]; rfl)
   rw [← hS1] at b1
   rw [← hS2] at b2
   have b3 : 0 ≤ P2 ∧ P2 ≤ 3276800000 := by
    rw [hP2]
    have h3 : x.pct * S2 ≤ 100 * 32768000 := Int.mul_le_mul hp.2 b2.2 b2.1 (by omega)
    exact ⟨Int.mul_nonneg hp.1 b2.1, by omega⟩
   have ew1 : IntKind.i64.wrap (100 * S1) = 100 * S1 := by rw [IntKind.wrap_i64]; omega
   have ew2 : IntKind.i64.wrap (x.pct * S2) = P2 := by rw [← hP2, IntKind.wrap_i64]; omega
   have HS1' := Lib.hid hS1.symm
   have HS2' := Lib.hid hS2.symm
   have d0 : decide (0 < N) = true := decide_eq_true (by omega)
   have d1 : decide ((0 : Int) < (N : Int)) = true := decide_eq_true (by omega)
   clear hN h0 hS1 hS2 hP2 b1 b2 b3 hz
   go_enter Try.func34, Try.ntmps34
   go_wp2_with (first
    | ((with_reducible show OpW 2); refine wpList_box _ rfl 26 (.tmp 0) rfl (siC a0 n0 c0 a1 n1 c1 a2 n2 c2 a3 n3 c3 a4 n4 c4 a5 n5 c5 x.pct) rfl ?_; intro w1 a1 a2 a3; have HB1 := Lib.hid a2; have HS1 := Lib.hid a1; clear a1 a2 a3)
    | ((with_reducible show OpW 3); refine wpList_box _ rfl 61 (.tmp 1) rfl (spC s A m c) rfl ?_; intro w2 a1 a2 a3; have HB2 := Lib.hid (below_then HB1.out a2); have HS2 := Lib.hid (HS1.out.kept a2); have HP2 := Lib.hid a1; clear a1 a2 a3)
    | ((with_reducible show OpW 6); refine wpList_loadv _ rfl 26 (.tmp 2) rfl 7 (by kernel_rfl) w.heap.size 0 _ rfl (BL.all HS2.out) rfl ?_)
    | ((with_reducible show OpW 7); refine wpList_loadv _ rfl 61 (.tmp 3) rfl 6 (by kernel_rfl) w1.heap.size 0 (spC s A m c) rfl (BL.all HP2.out) rfl ?_)
    | (go_at_call 44; refine (wanted_any _ _ x s _ (stay_si _ _ _ _ HX.out HB2.out) (stay_sp _ _ _ _ HP.out HB2.out)).mono ?_; rintro e w3 ⟨A3, c3', rfl, l3, b3⟩; rw [HN.out] at l3; rw [HN.out]; have HB3 := Lib.hid (below_then HB2.out b3); have HS3 := Lib.hid (HS2.out.kept b3); have HP3 := Lib.hid (HP2.out.kept b3); have HL3 := Lib.hid l3; clear l3 b3))
   refine Text.wp_region_text (fun w' => Below w3.heap.size w3 w') [(0, 0), (1, 0), (2, 2), (3, 4), (4, 4), (5, 4), (6, 4), (7, 4), (8, 4), (9, 4), (12, 4), (14, 4), (13, 0), (15, 0), (10, 2), (11, 4), (16, 2), (17, 4), (18, 4), (19, 4), (20, 4)] (by kernel_rfl) (by kernel_rfl) (fun _ _ _ _ _ h => h) ((Below.refl _ _).drew) ?_
   refine Text.heldk rfl rfl (fun K hK => ?_)
   refine ⟨_, fun w' hw' => exec_loadv 26 (.tmp 2) rfl 7 (by kernel_rfl) w.heap.size 0 _ rfl (BL.all (HS3.out.kept hw')) rfl, ?_⟩
   go_simp
   refine hK _ ?_
   clear hK K
   refine Text.heldk rfl rfl (fun K hK => ?_)
   refine ⟨_, fun w' hw' => exec_loadv 61 (.tmp 3) rfl 6 (by kernel_rfl) w1.heap.size 0 (spC s A m c) rfl (BL.all (HP3.out.kept hw')) rfl, ?_⟩
   go_simp
   refine hK _ ?_
   clear hK K
   refine Text.eff rfl rfl (fun K hK => ?_)
   go_simp
   refine (live_any _ _ x s _ (stay_si _ _ _ _ HX.out HB3.out.drew) (stay_sp _ _ _ _ HP.out HB3.out.drew)).mono ?_
   rintro e w5 ⟨rfl, b5⟩
   rw [h1]
   have HY5 : Hid (Below w3.heap.size w3 w5) := Lib.hid (below_ofDrew b5)
   refine hK _ _ HY5.out ?_
   clear hK K b5
   iterate 9 (refine Text.purek rfl rfl (fun K hK => ⟨_, fun w' => by go_simp <;> rfl, ?_⟩); go_simp; refine hK _ ?_; clear hK K)
   refine Text.heldk rfl rfl (fun K hK => ?_)
   refine ⟨_, fun w' hw' => by have q6 := (HS3.out.kept hw').get (j := 6) rfl; go_simp <;> rfl, ?_⟩
   go_simp
   refine hK _ ?_
   clear hK K
   refine Text.heldk rfl rfl (fun K hK => ?_)
   refine ⟨_, fun w' hw' => by have q5 := (HP3.out.kept hw').get (j := 5) rfl; go_simp <;> rfl, ?_⟩
   go_simp
   refine hK _ ?_
   clear hK K
   refine Text.effw rfl rfl (fun K hK => ?_)
   go_simp
   refine (bytes_any A3 N c3' (wanted x s) w5 (HL3.out.kept stay_rf HY5.out) HZW.out).mono ?_
   rintro e w6 ⟨rfl, b6⟩
   rw [HS1'.out]
   have HY6 : Hid (Below w3.heap.size w3 w6) := Lib.hid (below_thenB HY5.out HY5.out.size b6)
   refine hK _ _ HY6.out ?_
   clear hK K b6
   (refine Text.purek rfl rfl (fun K hK => ⟨_, fun w' => by go_simp <;> rfl, ?_⟩); go_simp; refine hK _ ?_; clear hK K)
   refine Text.effw rfl rfl (fun K hK => ?_)
   go_simp
   refine (bytes_any A m c s.refs w6 (HLR.out.kept stay_rf (below_thenB HB3.out HB3.out.size HY6.out)) HZR.out).mono ?_
   rintro e w7 ⟨rfl, b7⟩
   rw [HS2'.out]
   have HY7 : Hid (Below w3.heap.size w3 w7) := Lib.hid (below_thenB HY6.out HY6.out.size b7)
   refine hK _ _ HY7.out ?_
   clear hK K b7
   iterate 4 (refine Text.purek rfl rfl (fun K hK => ⟨_, fun w' => by go_simp <;> rfl, ?_⟩); go_simp; refine hK _ ?_; clear hK K)
   refine Text.done ?_
   go_wp2_with fail
   go_ret
   exact ⟨ret_bool HR.out.symm, below_thenB HB3.out HB3.out.size HY7.out⟩
end Go.Proofs.Ytboglaokdgnpaaa
/- Ascending sums, of the program and of the reference; the reference's Uncovered. -/
namespace Go.Proofs.Ytboglaokdgnpaaa
open Go Go.RowKit Gf Sha

def ascAt (m : List (List UInt8)) (k : Nat) : Bool := decide ((gR m k).length = 32) && (decide (k = 0) || Op.bytesLess (gR m (k - 1)) (gR m k))
/-- Strictly ascending sums. -/
def ascB (m : List (List UInt8)) : Bool := (List.range m.length).all (ascAt m)
theorem asc_false {m : List (List UInt8)} {k : Nat} (hk : k < m.length) (h : ascAt m k = false) : ascB m = false := List.all_eq_false.2 ⟨k, List.mem_range.2 hk, by simp [h]⟩
theorem asc_true {m : List (List UInt8)} (h : ∀ k, k < m.length → ascAt m k = true) : ascB m = true := List.all_eq_true.2 fun k hk => h k (List.mem_range.1 hk)
theorem gR_some {m : List (List UInt8)} {k : Nat} {x : List UInt8} (h : m[k]? = some x) : gR m k = x := by rw [gR, List.getD_eq_getElem?_getD, h]; rfl

theorem geq_text {P : Program} {x y : List UInt8} {b : Bool} (h : Op.bytesLess (strB y).toList (strB x).toList = b) {w : World} : Sem.run P (binOp BinOp.geq 9 (Value.string (strB y)) (Value.string (strB x))) w = .ok (.bool (!b)) w := by subst h; rfl

set_option maxHeartbeats 1000000 in
theorem rsums_any (A : Option Addr) (n c : Nat) (m : List (List UInt8)) (w : World) (h : LS rStr 1 16 w A n c m) :
  Calls Try.prog 42 #[.slice A n c] w fun e w' => e = .returned (.bool (ascB m)) ∧ w' = w := by
 have hn := h.len_le
 have H := Lib.hid h
 have HL := Lib.hid h.1
 clear h
 go_enter Try.func42, Try.ntmps42
 go_wp2_with fail
 go_loopw [7] (fun iv wr => wr = w ∧ ∃ k : Nat, k ≤ n ∧ iv = .int .i64 (k : Int) ∧ Hid (∀ j, j < k → ascAt m j = true)) (fun iv _ => n - (intOf iv).toNat)
 case atStart => exact ⟨rfl, 0, by omega, rfl, Lib.hid (fun j hj => absurd hj (by omega))⟩
 case round =>
  obtain ⟨rfl, k, hk, rfl, hall⟩ := hrel
  by_cases hlt : k < n
  ·
   obtain ⟨x, g, o, hx, rfl, q1⟩ := H.out.str_at (Below.refl _ _) hlt
   have HX := Lib.hid (gR_some hx)
   have HKL : Hid (k < m.length) := Lib.hid (by rw [HL.out]; exact hlt)
   clear hx
   by_cases hs : x.length = 32
   ·
    have es : (((strB x).size : Int) != 32) = false := by rw [strB_size, hs]; rfl
    rcases Nat.eq_zero_or_pos k with rfl | hp
    ·
     have HR : Hid (ascAt m 0 = true) := Lib.hid (by rw [ascAt, HX.out, decide_eq_true hs]; rfl)
     clear hs
     simp only [Nat.add_zero] at q1
     go_wp2_with fail
     go_roundw
     case rel => exact ⟨trivial, 1, by omega, rfl, Lib.hid (fun j hj => by
      obtain rfl : j = 0 := by omega
      exact HR.out)⟩
     case measure => simp [intOf]; omega
    ·
     obtain ⟨j, hj⟩ : ∃ j, j = k - 1 := ⟨_, rfl⟩
     obtain ⟨y, g', o', hy, e', q2⟩ := H.out.str_at (Below.refl _ _) (show j < n by omega)
     cases e'
     have HY : Hid (gR m (k - 1) = y) := Lib.hid (by rw [← hj]; exact gR_some hy)
     have hj1 : (k : Int) - 1 = (j : Int) := by omega
     have hkp : decide ((0 : Int) < (k : Int)) = true := decide_eq_true (by omega)
     have hkn : decide (0 < k) = true := decide_eq_true (by omega)
     have hk0 : ¬ k = 0 := by omega
     cases hb : Op.bytesLess y x with
     | true =>
      have el : Op.bytesLess (strB y).toList (strB x).toList = true := by rw [strB_list, strB_list]; exact hb
      have HR : Hid (ascAt m k = true) := Lib.hid (by rw [ascAt, HX.out, HY.out, decide_eq_true hs, hb]; simp)
      clear hs hy hb hj hp hk0
      go_wp2_with fail
      rw [geq_text el]
      go_simp
      go_wp2_with fail
      go_roundw
      case rel => exact ⟨trivial, k + 1, by omega, by go_num, Lib.hid (fun i hi => by
       rcases Nat.lt_succ_iff_lt_or_eq.1 hi with h | rfl
       ·
        exact hall.out i h
       ·
        exact HR.out)⟩
      case measure => simp [intOf]; omega
     | false =>
      have el : Op.bytesLess (strB y).toList (strB x).toList = false := by rw [strB_list, strB_list]; exact hb
      have HR : Hid (ascB m = false) := Lib.hid (asc_false HKL.out (by rw [ascAt, HX.out, HY.out, hb]; simp [hk0]))
      clear hs hy hb hj hp hk0
      go_wp2_with fail
      rw [geq_text el]
      go_simp
      go_wp2_with fail
      go_ret
      exact ⟨ret_bool HR.out.symm, rfl⟩
   ·
    have es : (((strB x).size : Int) != 32) = true := by rw [strB_size, bne_iff_ne]; omega
    have HR : Hid (ascB m = false) := Lib.hid (asc_false HKL.out (by rw [ascAt, HX.out, decide_eq_false hs]; rfl))
    clear hs
    go_wp2_with fail
    go_ret
    exact ⟨ret_bool HR.out.symm, rfl⟩
  ·
   obtain rfl : k = n := by omega
   have HR : Hid (ascB m = true) := Lib.hid (asc_true (by rw [HL.out]; exact hall.out))
   go_wp2_with fail
   go_ret
   exact ⟨ret_bool HR.out.symm, rfl⟩
set_option maxHeartbeats 1000000 in
theorem ascending_any (A : Option Addr) (n c : Nat) (m : List (List UInt8)) (w : World) (h : LS rStr 1 16 w A n c m) :
  Calls Try.prog 70 #[.slice A n c] w fun e w' => e = .returned (.bool (ascB m)) ∧ w' = w := by
 have hn := h.len_le
 have H := Lib.hid h
 have HL := Lib.hid h.1
 clear h
 go_enter Try.func70, Try.ntmps70
 go_wp2_with fail
 go_loopw [7] (fun iv wr => wr = w ∧ ∃ k : Nat, k ≤ n ∧ iv = .int .i64 (k : Int) ∧ Hid (∀ j, j < k → ascAt m j = true)) (fun iv _ => n - (intOf iv).toNat)
 case atStart => exact ⟨rfl, 0, by omega, rfl, Lib.hid (fun j hj => absurd hj (by omega))⟩
 case round =>
  obtain ⟨rfl, k, hk, rfl, hall⟩ := hrel
  by_cases hlt : k < n
  ·
   obtain ⟨x, g, o, hx, rfl, q1⟩ := H.out.str_at (Below.refl _ _) hlt
   have HX := Lib.hid (gR_some hx)
   have HKL : Hid (k < m.length) := Lib.hid (by rw [HL.out]; exact hlt)
   clear hx
   by_cases hs : x.length = 32
   ·
    have es : (((strB x).size : Int) != 32) = false := by rw [strB_size, hs]; rfl
    rcases Nat.eq_zero_or_pos k with rfl | hp
    ·
     have HR : Hid (ascAt m 0 = true) := Lib.hid (by rw [ascAt, HX.out, decide_eq_true hs]; rfl)
     clear hs
     simp only [Nat.add_zero] at q1
     go_wp2_with fail
     go_roundw
     case rel => exact ⟨trivial, 1, by omega, rfl, Lib.hid (fun j hj => by
      obtain rfl : j = 0 := by omega
      exact HR.out)⟩
     case measure => simp [intOf]; omega
    ·
     obtain ⟨j, hj⟩ : ∃ j, j = k - 1 := ⟨_, rfl⟩
     obtain ⟨y, g', o', hy, e', q2⟩ := H.out.str_at (Below.refl _ _) (show j < n by omega)
     cases e'
     have HY : Hid (gR m (k - 1) = y) := Lib.hid (by rw [← hj]; exact gR_some hy)
     have hj1 : (k : Int) - 1 = (j : Int) := by omega
     have hkp : decide ((0 : Int) < (k : Int)) = true := decide_eq_true (by omega)
     have hkn : decide (0 < k) = true := decide_eq_true (by omega)
     have hk0 : ¬ k = 0 := by omega
     cases hb : Op.bytesLess y x with
     | true =>
      have el : Op.bytesLess (strB y).toList (strB x).toList = true := by rw [strB_list, strB_list]; exact hb
      have HR : Hid (ascAt m k = true) := Lib.hid (by rw [ascAt, HX.out, HY.out, decide_eq_true hs, hb]; simp)
      clear hs hy hb hj hp hk0
      go_wp2_with fail
      rw [geq_text el]
      go_simp
      go_wp2_with fail
      go_roundw
      case rel => exact ⟨trivial, k + 1, by omega, by go_num, Lib.hid (fun i hi => by
       rcases Nat.lt_succ_iff_lt_or_eq.1 hi with h | rfl
       ·
        exact hall.out i h
       ·
        exact HR.out)⟩
      case measure => simp [intOf]; omega
     | false =>
      have el : Op.bytesLess (strB y).toList (strB x).toList = false := by rw [strB_list, strB_list]; exact hb
      have HR : Hid (ascB m = false) := Lib.hid (asc_false HKL.out (by rw [ascAt, HX.out, HY.out, hb]; simp [hk0]))
      clear hs hy hb hj hp hk0
      go_wp2_with fail
      rw [geq_text el]
      go_simp
      go_wp2_with fail
      go_ret
      exact ⟨ret_bool HR.out.symm, rfl⟩
   ·
    have es : (((strB x).size : Int) != 32) = true := by rw [strB_size, bne_iff_ne]; omega
    have HR : Hid (ascB m = false) := Lib.hid (asc_false HKL.out (by rw [ascAt, HX.out, decide_eq_false hs]; rfl))
    clear hs
    go_wp2_with fail
    go_ret
    exact ⟨ret_bool HR.out.symm, rfl⟩
  ·
   obtain rfl : k = n := by omega
   have HR : Hid (ascB m = true) := Lib.hid (asc_true (by rw [HL.out]; exact hall.out))
   go_wp2_with fail
   go_ret
   exact ⟨ret_bool HR.out.symm, rfl⟩
end Go.Proofs.Ytboglaokdgnpaaa
/- The reference's Uncovered. -/
namespace Go.Proofs.Ytboglaokdgnpaaa
open Go Go.RowKit Gf Sha

/-- A list of strings of the call's own. -/
def StrR (l : List (List UInt8)) (w : World) (e : Ending) (w' : World) : Prop := ∃ A c, e = .returned (.slice A l.length c) ∧ LS rStr 1 16 w' A l.length c l ∧ Below w.heap.size w w'
theorem bslStr (x : List UInt8) (w : World) : (Instr.buildSlice 23 1 #[(0, .string (strB x))]).run Try.prog w = .ok (.slice (some ⟨w.heap.size, 0, none⟩) 1 1) (w.alloc (.cells [.string (strB x)].toArray 9)) := by kernel_rfl
theorem one_str (x : List UInt8) : ∀ v ∈ [Value.string (strB x)], v.oneCell' = true := fun v hv => by
 simp only [List.mem_singleton] at hv
 rw [hv]; rfl
theorem LS.str_ok {w : World} {A : Option Addr} {n c : Nat} {m : List (List UInt8)} (h : LS rStr 1 16 w A n c m) {k : Nat} {x : List UInt8} (hk : m[k]? = some x) : x.length ≤ reachBytes := by
 have hl : k < n := by
  have := (List.getElem?_eq_some_iff.1 hk).1
  rw [h.1] at this; exact this
 obtain ⟨y, g, o, cs, hx, e, hat, rfl, h2⟩ := h.at_ stay_str (Below.refl _ _) hl
 rw [hk] at hx
 cases hx
 exact h2

set_option maxRecDepth 100000 in
set_option maxHeartbeats 2000000 in
theorem uncov_any (cx : List Value) (x : Si) (w : World) (hx : rSi w cx x) :
  Calls Try.prog 36 #[.agg cx.toArray] w (StrR (uncov x) w) := by
 obtain ⟨a0, n0, c0, a1, n1, c1, a2, n2, c2, a3, n3, c3, a4, n4, c4, a5, n5, c5, rfl, hq⟩ := hx
 have hn := hq.need.len_le
 have H := Lib.hid hq
 have HL := Lib.hid hq.need.1
 clear hq
 go_enter Try.func36, Try.ntmps36
 go_wp2_with ((with_reducible show OpW 1); refine wpList_box _ rfl 26 (.tmp 0) rfl (siC a0 n0 c0 a1 n1 c1 a2 n2 c2 a3 n3 c3 a4 n4 c4 a5 n5 c5 x.pct) rfl ?_; intro w1 a1 a2 a3; have HB1 := Lib.hid a2; have HS1 := Lib.hid a1; have q1 := a1.get (j := 1) rfl; clear a1 a2 a3)
 clear q1
 go_loopw [3, 9] (fun v iv wr => ∃ k : Nat, k ≤ n1 ∧ iv = .int .i64 (k : Int) ∧ Hid (OL rStr 1 9 w1 wr v ((x.need.take k).filter fun n => !coverB x n)) ∧ Hid (Below w1.heap.size w1 wr)) (fun _ iv _ => n1 - (intOf iv).toNat)
 case atStart => exact ⟨0, by omega, rfl, Lib.hid (OL.nil _ _ _ _ _), Lib.hid (Below.refl _ _)⟩
 case round =>
  obtain ⟨k, hk, rfl, ho, hb⟩ := hrel
  obtain ⟨wx, hwx⟩ : ∃ x, x = wr := ⟨_, rfl⟩
  rw [← hwx] at ho hb ⊢
  clear hwx
  have HBx := Lib.hid (below_then HB1.out hb.out)
  by_cases hlt : k < n1
  ·
   obtain ⟨n, g, o, hs, rfl, p1⟩ := H.out.need.str_at HBx.out hlt
   have HOK := Lib.hid (H.out.need.str_ok hs)
   have HX := Lib.hid hs
   have HSx := Lib.hid (HS1.out.kept hb.out)
   have Hx := Lib.hid (H.out.kept HBx.out)
   have HFL : Hid (((x.need.take k).filter fun n => !coverB x n).length ≤ k) := Lib.hid (Nat.le_trans (List.length_filter_le _ _) (by rw [List.length_take]; omega))
   clear hs
   cases h1 : coverB x n with
   | true =>
    have HF : Hid (((x.need.take (k + 1)).filter fun n => !coverB x n) = (x.need.take k).filter fun n => !coverB x n) := Lib.hid (by rw [filt_step HX.out]; simp [h1])
    go_wp2_with (first
     | ((with_reducible show OpW 13); refine wpList_loadv _ rfl 26 (.tmp 1) rfl 7 (by kernel_rfl) w.heap.size 0 _ rfl (BL.all HSx.out) rfl ?_)
     | (go_at_call 77; refine (covered_any _ x n _ (show rSi wx _ _ from ⟨_, _, _, _, _, _, _, _, _, _, _, _, _, _, _, _, _, _, rfl, Hx.out⟩)).mono ?_; rintro e w4 ⟨rfl, b4⟩; rw [h1]; have HX4 := Lib.hid b4; clear b4))
    go_roundw
    case rel => exact ⟨k + 1, by omega, by go_num, Lib.hid (by rw [HF.out]; exact ho.out.kept HX4.out), Lib.hid (below_thenB hb.out hb.out.size HX4.out)⟩
    case measure => simp [intOf]; omega
   | false =>
    have HF : Hid (((x.need.take (k + 1)).filter fun n => !coverB x n) = ((x.need.take k).filter fun n => !coverB x n) ++ [n]) := Lib.hid (by rw [filt_step HX.out]; simp [h1])
    obtain ⟨nf, hnf⟩ : ∃ nf, ((x.need.take k).filter fun n => !coverB x n).length = nf := ⟨_, rfl⟩
    obtain ⟨css, hc1, hc2, hc3, hc4, hc5⟩ := ho.out
    rw [hnf] at hc4
    have HNF : Hid (nf ≤ k) := Lib.hid (by rw [← hnf]; exact HFL.out)
    have HN := Lib.hid hnf
    have HC1 := Lib.hid hc1
    have HC2 := Lib.hid hc2
    have HC3 := Lib.hid hc3
    have HC4 := Lib.hid hc4
    have HC5 := Lib.hid hc5
    clear hnf hc1 hc2 hc3 hc4 hc5
    go_wp2_with (first
     | ((with_reducible show OpW 13); refine wpList_loadv _ rfl 26 (.tmp 1) rfl 7 (by kernel_rfl) w.heap.size 0 _ rfl (BL.all HSx.out) rfl ?_)
     | (go_at_call 77; refine (covered_any _ x n _ (show rSi wx _ _ from ⟨_, _, _, _, _, _, _, _, _, _, _, _, _, _, _, _, _, _, rfl, Hx.out⟩)).mono ?_; rintro e w4 ⟨rfl, b4⟩; rw [h1]; have HX4 := Lib.hid b4; clear b4) | ((with_reducible show OpW 19); refine wpList_bslice _ rfl 23 9 1 _ rfl #[(0, .string (strB n))] (by rw [List.map_toArray]; rfl) [.string (strB n)] (bslStr n _) ?_; intro w5 a1 a2 a3; have HG5 := Lib.hid a1; have HX5 := Lib.hid (below_then HX4.out a2); clear a1 a2 a3) | ((with_reducible show OpW 20); obtain ⟨iS, i1, i2, i3, i4⟩ := info_some infoStr; refine wpList_appRW _ rfl (.tmp 17) (.tmp 19) 23 9 1 iS _ rfl Try.underlying23 i1 i2 i3 rfl _ nf _ rfl (HC4.out.kept HX5.out) w4.heap.size _ rfl HG5.out rfl (one_str n) (by rw [i4]; have := HNF.out; omega) (by have := HNF.out; omega) ?_; intro v' w6 a1; have HR6 := Lib.hid a1; clear a1 i1 i2 i3 i4))
    have HY5 : Hid (Below w1.heap.size w1 w5) := Lib.hid (below_thenB hb.out hb.out.size HX5.out)
    have HY6 : Hid (Below w1.heap.size w1 w6) := Lib.hid (((Kp.of_below (S := fun _ => False) HY5.out).after HR6.out.kp (fun i hi e => by have := HC5.out i e; omega)).below (Nat.le_refl _) (fun _ h => h.elim))
    have HO6 : Hid (OL rStr 1 9 w1 w6 v' ((x.need.take (k + 1)).filter fun n => !coverB x n)) := Lib.hid (by
     rw [HF.out]
     exact OL.push HC1.out HC2.out HC3.out HC5.out HN.out rfl ⟨rfl, HOK.out⟩ HY5.out.size HR6.out)
    go_roundw
    case rel => exact ⟨k + 1, by omega, by go_num, HO6, HY6⟩
    case measure => simp [intOf]; omega
  ·
   obtain rfl : k = n1 := by omega
   have HFL : Hid ((uncov x).length * 16 ≤ lim) := Lib.hid (Nat.le_trans (Nat.mul_le_mul_right _ (Nat.le_trans (List.length_filter_le _ _) (by rw [HL.out]; exact Nat.le_refl _))) H.out.need.2.2.1)
   go_wp2_with fail
   go_ret
   have h9 := ho.out
   rw [take_end HL.out] at h9
   obtain ⟨A9, c9, e9, l9⟩ := OL.ls (b := 16) (L := uncov x) h9 stay_str hb.out HFL.out
   exact ⟨A9, c9, by rw [e9]; rfl, l9, HBx.out⟩
end Go.Proofs.Ytboglaokdgnpaaa
