/- Several texts in one: Rbk, Rpd, Pu0. -/
import Derived.Test.YtfcakjpljjnjnaaGreatDoorC10
import Derived.Test.YtfcakjpljjnjnaaGreatDoorC9
import Derived.Test.YtfcakjpljjnjnaaGreatDoorC2
import Derived.DeepKeys4
/- Contract of ref03.Block. -/
namespace Go.Proofs.YtfcakjpljjnjnaaGreatDoor
open Go Go.RowKit Gf Sha

theorem not_r' (x : UInt32) : bits .xor .u32 (if IntKind.u32.signed = true then -1 else IntKind.u32.max) (wv x) = wv (~~~ x) := not_w x
attribute [local go_sem] not_r' shl24' shl16' shl8' Sha.add_wrap Sha.add_w Sha.xor_w Sha.and_w Sha.or_w Sha.not_w conv_w shl24 shl16 shl8 shr10 shr3
theorem scells_one (s : St) : ∀ v ∈ s.cells, v.oneCell' = true := by
 intro v hv
 simp only [St.cells, List.mem_cons, List.not_mem_nil, or_false] at hv
 rcases hv with rfl | rfl | rfl | rfl | rfl | rfl | rfl | rfl <;> rfl
theorem rnd_vals (S : St) (kk kw : UInt32) : (#[W (S.h + (rr S.e 6 ^^^ rr S.e 11 ^^^ rr S.e 25) + (S.e &&& S.f ^^^ ~~~S.e &&& S.g) + kk + kw + ((rr S.a 2 ^^^ rr S.a 13 ^^^ rr S.a 22) + (S.a &&& S.b ^^^ S.a &&& S.c ^^^ S.b &&& S.c))), W S.a, W S.b, W S.c, W (S.d + (S.h + (rr S.e 6 ^^^ rr S.e 11 ^^^ rr S.e 25) + (S.e &&& S.f ^^^ ~~~S.e &&& S.g) + kk + kw)), W S.e, W S.f, W S.g] : Array Value) = (rnd S kk kw).cells.toArray := by
 simp only [rnd, St.cells, t1, t2, bs0, bs1, chf, maj]
theorem zero_one (n : Nat) : ∀ v ∈ List.replicate n (Value.int .u32 0), v.oneCell' = true := by
 intro v hv
 rw [List.eq_of_mem_replicate hv]
 rfl

set_option maxRecDepth 100000 in
set_option maxHeartbeats 4000000 in
theorem rblock_any (A : Option Addr) (c : Nat) (s : St) (l : List UInt8) (w : World) (h : BS w A 64 c l) :
  Calls Tryz.prog 129 #[.agg s.cells.toArray, .slice A 64 c] w fun e w' => e = .returned (.agg (comp s l).cells.toArray) ∧ Below w.heap.size w w' := by
 have hc : 64 ≤ c := h.2.1
 have H := Lib.hid h
 clear h
 go_enter Tryz.func129, Tryz.ntmps129
 go_wp2_with (first
  | ((with_reducible show OpW 2); refine wpList_box _ rfl 153 (.tmp 0) rfl s.cells rfl ?_; intro w1 a1 a2 a3; have HG1 := Lib.hid a1; have HB1 := Lib.hid a2; have HZ1 := Lib.hid a3; clear a1 a2 a3)
  | ((with_reducible show OpW 4); refine wpList_alloc _ rfl 153 rfl (List.replicate 8 (.int .u32 0)) zero8 ?_; intro w2 a1 a2 a3; have HR2 := Lib.hid a1; have HB2 := Lib.hid a2; have HZ2 := Lib.hid a3; clear a1 a2 a3)
  | (go_at_call 148; refine (constants_any w2).mono ?_; rintro e w3 ⟨rfl, b3⟩; have HB3 := Lib.hid b3; clear b3)
  | ((with_reducible show OpW 5); refine wpList_alloc _ rfl 199 rfl (List.replicate 64 (.int .u32 0)) zero64 ?_; intro w4 a1 a2 a3; have HC4 := Lib.hid a1; have HB4 := Lib.hid a2; have HZ4 := Lib.hid a3; clear a1 a2 a3)
  | ((with_reducible show OpN); refine wpList_storev _ rfl 199 (.tmp 5) (.tmp 22) rfl 64 (by kernel_rfl) w3.heap.size 0 _ (List.replicate 64 (.int .u32 0)) (ks.map W) rfl rfl HC4.out rfl ks_one (by decide) ?_; intro w5 a1 a2 a3; rw [splice_all (List.replicate 64 (.int .u32 0)) (ks.map W) rfl] at a1; have HC5 := Lib.hid a1; have HK5 := Lib.hid a2; have HZ5 := Lib.hid a3; clear a1 a2 a3)
  | ((with_reducible show OpW 6); refine wpList_alloc _ rfl 199 rfl (List.replicate 64 (.int .u32 0)) zero64 ?_; intro w6 a1 a2 a3; have HW6 := Lib.hid a1; have HB6 := Lib.hid a2; have HZ6 := Lib.hid a3; clear a1 a2 a3)
  | ((with_reducible show OpN); refine wpList_storev _ rfl 199 (.tmp 6) (.tmp 23) rfl 64 (by kernel_rfl) w5.heap.size 0 _ (List.replicate 64 (.int .u32 0)) (List.replicate 64 (.int .u32 0)) rfl rfl HW6.out rfl (zero_one 64) (by decide) ?_; intro w7 a1 a2 a3; rw [splice_all (List.replicate 64 (.int .u32 0)) (List.replicate 64 (.int .u32 0)) rfl] at a1; have HW7 := Lib.hid a1; have HK7 := Lib.hid a2; have HZ7 := Lib.hid a3; clear a1 a2 a3))
 have HB5 : Hid (Below w3.heap.size w3 w5) := Lib.hid (((Kp.of_below (S := fun _ => False) HB4.out).after HK5.out (fun i hi e => by omega)).below (Nat.le_refl _) (fun _ h => h.elim))
 have HB7 : Hid (Below w5.heap.size w5 w7) := Lib.hid (((Kp.of_below (S := fun _ => False) HB6.out).after HK7.out (fun i hi e => by omega)).below (Nat.le_refl _) (fun _ h => h.elim))
 have HS : Hid (w.heap.size < w1.heap.size ∧ w1.heap.size < w2.heap.size ∧ w2.heap.size ≤ w3.heap.size ∧ w3.heap.size < w5.heap.size ∧ w5.heap.size < w7.heap.size) := Lib.hid (by
  have := HZ1.out; have := HZ2.out; have := HB3.out.size; have := HZ4.out; have := HZ5.out; have := HZ6.out; have := HZ7.out
  omega)
 have H27 : Hid (Below w2.heap.size w2 w7) := Lib.hid (below_then (below_then HB3.out HB5.out) HB7.out)
 have H17 : Hid (Below w1.heap.size w1 w7) := Lib.hid (below_then HB2.out H27.out)
 have HW1 : Hid (Below w.heap.size w w7) := Lib.hid (below_then HB1.out H17.out)
 have HG7 := Lib.hid (HG1.out.kept H17.out)
 have HR7 := Lib.hid (HR2.out.kept H27.out)
 have HC7 := Lib.hid (HC5.out.kept HB7.out)
 have hb1 := HW7.out
 rw [← wcells_nil] at hb1
 have HWS := Lib.hid hb1
 clear HG1 HR2 HC4 HC5 HW6 HW7 HB1 HB2 HB3 HB4 HB5 HB6 HB7 HK5 HK7 HZ1 HZ2 HZ4 HZ5 HZ6 HZ7 H17 H27 hb1
 go_loopw [7] (fun i wr => ∃ k : Nat, k ≤ 16 ∧ i = .int .i64 (k : Int) ∧ Hid (BL wr w5.heap.size 199 (wcells (wl l k))) ∧ Hid (Kp (· = w5.heap.size) w7 wr)) (fun i _ => 16 - (intOf i).toNat)
 case atStart => exact ⟨0, by omega, rfl, HWS, Lib.hid (Kp.refl _ _)⟩
 case round =>
  obtain ⟨k, hk, rfl, hb, hw⟩ := hrel
  by_cases h16 : k < 16
  ·
   obtain ⟨m, hm⟩ : ∃ m, m = 4 * k := ⟨_, rfl⟩
   have p0 : IntKind.i64.wrap (4 * (k : Int)) = (m : Int) := by rw [IntWalk.i64_in _ (by omega)]; omega
   have p1 : (m : Int) ≤ 60 := by omega
   obtain ⟨m1, hm1⟩ : ∃ x, x = m + 1 := ⟨_, rfl⟩
   obtain ⟨m2, hm2⟩ : ∃ x, x = m + 2 := ⟨_, rfl⟩
   obtain ⟨m3, hm3⟩ : ∃ x, x = m + 3 := ⟨_, rfl⟩
   have r1 : IntKind.i64.wrap ((m : Int) + 1) = (m1 : Int) := by rw [IntWalk.i64_in _ (by omega)]; omega
   have r2 : IntKind.i64.wrap ((m : Int) + 2) = (m2 : Int) := by rw [IntWalk.i64_in _ (by omega)]; omega
   have r3 : IntKind.i64.wrap ((m : Int) + 3) = (m3 : Int) := by rw [IntWalk.i64_in _ (by omega)]; omega
   have p2 : (m : Int) < 64 := by omega
   have p6 : (k : Int) < 64 := by omega
   have p3 : (m1 : Int) < 64 := by omega
   have p4 : (m2 : Int) < 64 := by omega
   have p5 : (m3 : Int) < 64 := by omega
   obtain ⟨ga, oa, rfl, c0⟩ := (H.out.kept HW1.out).2.2.2 m (by omega)
   have c1 : w7.cell? ⟨ga, oa + m1, none⟩ = some (B (gB l m1)) := by
    obtain ⟨_, _, e, q⟩ := (H.out.kept HW1.out).2.2.2 m1 (by omega)
    cases e; exact q
   have c2 : w7.cell? ⟨ga, oa + m2, none⟩ = some (B (gB l m2)) := by
    obtain ⟨_, _, e, q⟩ := (H.out.kept HW1.out).2.2.2 m2 (by omega)
    cases e; exact q
   have c3 : w7.cell? ⟨ga, oa + m3, none⟩ = some (B (gB l m3)) := by
    obtain ⟨_, _, e, q⟩ := (H.out.kept HW1.out).2.2.2 m3 (by omega)
    cases e; exact q
   have hne : ga ≠ w5.heap.size := by
    obtain ⟨_, _, e, q⟩ := H.out.2.2.2 m (by omega)
    cases e
    have := cell_lt q
    have := HS.out
    simp at *
    omega
   have d0 := hw.out.cell c0 hne
   have d1 := hw.out.cell c1 hne
   have d2 := hw.out.cell c2 hne
   have d3 := hw.out.cell c3 hne
   have e0 : wr.cell? ⟨w5.heap.size, k, none⟩ = some (.int .u32 0) := hb.out.get (by have := wcells_zero (wl l k) (by rw [wl_length]; omega); rwa [wl_length] at this)
   have e1 := hb.out.frozen k
   have HN := Lib.hid hne
   have HM4 := Lib.hid hm
   have HWD : Hid ((gB l m).toUInt32 <<< 24 ||| (gB l m1).toUInt32 <<< 16 ||| (gB l m2).toUInt32 <<< 8 ||| (gB l m3).toUInt32 = word l k) := Lib.hid (by rw [hm1, hm2, hm3, hm]; exact word_eq l k)
   clear c0 c1 c2 c3 hne hm hm1 hm2 hm3 p1
   go_wp2_with fail
   refine Text.wp_region_text (fun _ => True) [(0, 4), (1, 4), (2, 4), (3, 4), (4, 4), (8, 4), (9, 4), (10, 4), (11, 4), (12, 4), (17, 4), (18, 4), (19, 4), (20, 4), (21, 4), (26, 4), (27, 4), (28, 4), (29, 4), (30, 4), (5, 1), (6, 4), (7, 4), (13, 1), (14, 4), (15, 4), (16, 4), (22, 1), (23, 4), (24, 4), (25, 4), (31, 1), (32, 4), (33, 4), (34, 4), (35, 2)] (by kernel_rfl) (by kernel_rfl) (fun _ _ _ _ _ h => h) (trivial) ?_
   iterate 20 (refine Text.purek rfl rfl (fun K hK => ⟨_, fun w' => by go_simp <;> rfl, ?_⟩); go_simp; refine hK _ ?_; clear hK K)
   (refine Text.readk rfl rfl (fun K hK => ⟨_, by go_simp <;> rfl, ?_⟩); go_simp; refine hK _ ?_; clear hK K)
   iterate 2 (refine Text.purek rfl rfl (fun K hK => ⟨_, fun w' => by go_simp <;> rfl, ?_⟩); go_simp; refine hK _ ?_; clear hK K)
   (refine Text.readk rfl rfl (fun K hK => ⟨_, by go_simp <;> rfl, ?_⟩); go_simp; refine hK _ ?_; clear hK K)
   iterate 3 (refine Text.purek rfl rfl (fun K hK => ⟨_, fun w' => by go_simp <;> rfl, ?_⟩); go_simp; refine hK _ ?_; clear hK K)
   (refine Text.readk rfl rfl (fun K hK => ⟨_, by go_simp <;> rfl, ?_⟩); go_simp; refine hK _ ?_; clear hK K)
   iterate 3 (refine Text.purek rfl rfl (fun K hK => ⟨_, fun w' => by go_simp <;> rfl, ?_⟩); go_simp; refine hK _ ?_; clear hK K)
   (refine Text.readk rfl rfl (fun K hK => ⟨_, by go_simp <;> rfl, ?_⟩); go_simp; refine hK _ ?_; clear hK K)
   iterate 3 (refine Text.purek rfl rfl (fun K hK => ⟨_, fun w' => by go_simp <;> rfl, ?_⟩); go_simp; refine hK _ ?_; clear hK K)
   refine Text.eff rfl rfl (fun K hK => ?_)
   go_simp
   have HB2 : Hid (BL (wr.setCell ⟨w5.heap.size, k, none⟩ (W (word l k))) w5.heap.size 199 (wcells (wl l (k + 1)))) := Lib.hid (by
    have := hb.out.set_ k (W (word l k))
    have e := wcells_set (wl l k) (word l k) (by rw [wl_length]; omega)
    rw [wl_length] at e
    rw [e, ← word_wl l k h16] at this
    exact this)
   have HW2 : Hid (Kp (· = w5.heap.size) w7 (wr.setCell ⟨w5.heap.size, k, none⟩ (W (word l k)))) := Lib.hid (hw.out.set (.inl rfl) _)
   refine hK _ _ trivial ?_
   clear hK K d0 d1 d2 d3 e0 e1
   refine Text.done ?_
   rw [HWD.out]
   generalize wr.setCell ⟨w5.heap.size, k, none⟩ (W (word l k)) = w2 at HB2 HW2 ⊢
   go_wp2_with fail
   go_roundw
   case rel => exact ⟨k + 1, by omega, by go_num, Lib.hid HB2.out.drew, Lib.hid HW2.out.drew⟩
   case measure => simp [intOf]; omega
  ·
   obtain rfl : k = 16 := by omega
   rw [show ((16 : Nat) : Int) = 16 from rfl]
   go_wp2_with fail
   obtain ⟨wv, hwv⟩ : ∃ x, x = wr := ⟨_, rfl⟩
   rw [← hwv] at hb hw ⊢
   clear hwv
   go_loopw [8] (fun i wr => ∃ k : Nat, 16 ≤ k ∧ k ≤ 64 ∧ i = .int .i64 (k : Int) ∧ Hid (BL wr w5.heap.size 199 (wcells (wl l k))) ∧ Hid (Kp (· = w5.heap.size) w7 wr)) (fun i _ => 64 - (intOf i).toNat)
   case atStart => exact ⟨16, by omega, by omega, rfl, hb, hw⟩
   case round =>
    obtain ⟨k, h16, hk, rfl, hb, hw⟩ := hrel
    by_cases hlt : k < 64
    ·
     obtain ⟨j2, hj2⟩ : ∃ j, j + 2 = k := ⟨k - 2, by omega⟩
     have s2 : IntKind.i64.wrap ((k : Int) - 2) = (j2 : Int) := by rw [IntWalk.i64_in _ (by omega)]; omega
     have e1 : wr.cell? ⟨w5.heap.size, j2, none⟩ = some (W (gw (wl l k) 1)) := hb.out.get (wcells_get _ _ _ (by rw [wl_length]; omega))
     have l2 : (j2 : Int) < 64 := by omega
     have HJ2 := Lib.hid hj2
     clear hj2
     obtain ⟨j7, hj7⟩ : ∃ j, j + 7 = k := ⟨k - 7, by omega⟩
     have s7 : IntKind.i64.wrap ((k : Int) - 7) = (j7 : Int) := by rw [IntWalk.i64_in _ (by omega)]; omega
     have e6 : wr.cell? ⟨w5.heap.size, j7, none⟩ = some (W (gw (wl l k) 6)) := hb.out.get (wcells_get _ _ _ (by rw [wl_length]; omega))
     have l7 : (j7 : Int) < 64 := by omega
     have HJ7 := Lib.hid hj7
     clear hj7
     obtain ⟨j15, hj15⟩ : ∃ j, j + 15 = k := ⟨k - 15, by omega⟩
     have s15 : IntKind.i64.wrap ((k : Int) - 15) = (j15 : Int) := by rw [IntWalk.i64_in _ (by omega)]; omega
     have e14 : wr.cell? ⟨w5.heap.size, j15, none⟩ = some (W (gw (wl l k) 14)) := hb.out.get (wcells_get _ _ _ (by rw [wl_length]; omega))
     have l15 : (j15 : Int) < 64 := by omega
     have HJ15 := Lib.hid hj15
     clear hj15
     obtain ⟨j16, hj16⟩ : ∃ j, j + 16 = k := ⟨k - 16, by omega⟩
     have s16 : IntKind.i64.wrap ((k : Int) - 16) = (j16 : Int) := by rw [IntWalk.i64_in _ (by omega)]; omega
     have e15 : wr.cell? ⟨w5.heap.size, j16, none⟩ = some (W (gw (wl l k) 15)) := hb.out.get (wcells_get _ _ _ (by rw [wl_length]; omega))
     have l16 : (j16 : Int) < 64 := by omega
     have HJ16 := Lib.hid hj16
     clear hj16
     have e0 : wr.cell? ⟨w5.heap.size, k, none⟩ = some (.int .u32 0) := hb.out.get (by have := wcells_zero (wl l k) (by rw [wl_length]; exact hlt); rwa [wl_length] at this)
     have e00 := hb.out.frozen k
     go_wp2_with fail
     go_quiet ((go_at_call 149; first | (with_reducible refine (rr7_any _ _).mono ?_; rintro e w' ⟨rfl, m, rfl⟩; (first | exact ⟨rfl, _, by rw [World.drewN_drewN, Nat.add_assoc]⟩ | exact ⟨rfl, _, by rw [World.drewN_drewN]⟩)) | (with_reducible refine (rr18_any _ _).mono ?_; rintro e w' ⟨rfl, m, rfl⟩; (first | exact ⟨rfl, _, by rw [World.drewN_drewN, Nat.add_assoc]⟩ | exact ⟨rfl, _, by rw [World.drewN_drewN]⟩))))
     obtain ⟨n1, hn1⟩ : ∃ n, n = nq := ⟨_, rfl⟩
     rw [← hn1]
     clear hn1
     go_wp2_with fail
     go_quiet ((go_at_call 149; first | (with_reducible refine (rr17_any _ _).mono ?_; rintro e w' ⟨rfl, m, rfl⟩; (first | exact ⟨rfl, _, by rw [World.drewN_drewN, Nat.add_assoc]⟩ | exact ⟨rfl, _, by rw [World.drewN_drewN]⟩)) | (with_reducible refine (rr19_any _ _).mono ?_; rintro e w' ⟨rfl, m, rfl⟩; (first | exact ⟨rfl, _, by rw [World.drewN_drewN, Nat.add_assoc]⟩ | exact ⟨rfl, _, by rw [World.drewN_drewN]⟩))))
     go_wp2_with fail
     obtain ⟨wq, hwq⟩ : ∃ x, x = (wr.drewN n1).drewN nq := ⟨_, rfl⟩
     rw [← hwq]
     have HBQ : Hid (BL wq w5.heap.size 199 (wcells (wl l k))) := Lib.hid (by rw [hwq]; exact hb.out)
     have HWQ : Hid (Kp (· = w5.heap.size) w7 wq) := Lib.hid (by rw [hwq]; exact (hw.out.drewN _).drewN _)
     clear e1 e6 e14 e15 e0 e00 hwq
     have e6 : wq.cell? ⟨w5.heap.size, j7, none⟩ = some (W (gw (wl l k) 6)) := HBQ.out.get (wcells_get _ _ _ (by rw [wl_length]; have := HJ7.out; omega))
     have e15 : wq.cell? ⟨w5.heap.size, j16, none⟩ = some (W (gw (wl l k) 15)) := HBQ.out.get (wcells_get _ _ _ (by rw [wl_length]; have := HJ16.out; omega))
     have e0 : wq.cell? ⟨w5.heap.size, k, none⟩ = some (.int .u32 0) := HBQ.out.get (by have := wcells_zero (wl l k) (by rw [wl_length]; exact hlt); rwa [wl_length] at this)
     have e00 := HBQ.out.frozen k
     have p6 : (k : Int) < 64 := by omega
     refine Text.wp_region_text (fun _ => True) [(0, 4), (1, 4), (2, 4), (3, 4), (4, 4), (7, 4), (9, 4), (10, 4), (11, 4), (5, 1), (6, 4), (8, 4), (12, 1), (13, 4), (14, 4), (15, 2)] (by kernel_rfl) (by kernel_rfl) (fun _ _ _ _ _ h => h) (trivial) ?_
     iterate 9 (refine Text.purek rfl rfl (fun K hK => ⟨_, fun w' => by go_simp <;> rfl, ?_⟩); go_simp; refine hK _ ?_; clear hK K)
     (refine Text.readk rfl rfl (fun K hK => ⟨_, by go_simp <;> rfl, ?_⟩); go_simp; refine hK _ ?_; clear hK K)
     iterate 2 (refine Text.purek rfl rfl (fun K hK => ⟨_, fun w' => by go_simp <;> rfl, ?_⟩); go_simp; refine hK _ ?_; clear hK K)
     (refine Text.readk rfl rfl (fun K hK => ⟨_, by go_simp <;> rfl, ?_⟩); go_simp; refine hK _ ?_; clear hK K)
     iterate 2 (refine Text.purek rfl rfl (fun K hK => ⟨_, fun w' => by go_simp <;> rfl, ?_⟩); go_simp; refine hK _ ?_; clear hK K)
     refine Text.eff rfl rfl (fun K hK => ?_)
     go_simp
     first | rw [sched_val] | rw [sched_val2]
     obtain ⟨x, hx⟩ : ∃ x, x = ss1 (gw (wl l k) 1) + gw (wl l k) 6 + ss0 (gw (wl l k) 14) + gw (wl l k) 15 := ⟨_, rfl⟩
     rw [← hx]
     have HB2 : Hid (BL (wq.setCell ⟨w5.heap.size, k, none⟩ (W x)) w5.heap.size 199 (wcells (wl l (k + 1)))) := Lib.hid (by
      have := HBQ.out.set_ k (W x)
      have e := wcells_set (wl l k) x (by rw [wl_length]; exact hlt)
      rw [wl_length] at e
      rw [e] at this
      rw [nxt_wl l k (by omega), ← hx]
      exact this)
     have HW2 : Hid (Kp (· = w5.heap.size) w7 (wq.setCell ⟨w5.heap.size, k, none⟩ (W x))) := Lib.hid (HWQ.out.set (.inl rfl) _)
     refine hK _ _ trivial ?_
     clear hK K e0 e00 e6 e15 hx
     refine Text.done ?_
     generalize wq.setCell ⟨w5.heap.size, k, none⟩ (W x) = w2 at HB2 HW2 ⊢
     clear s2 s7 s15 s16
     go_wp2_with fail
     go_roundw
     case rel => exact ⟨k + 1, by omega, by omega, by go_num, Lib.hid HB2.out.drew, Lib.hid HW2.out.drew⟩
     case measure => simp [intOf]; omega
    ·
     obtain rfl : k = 64 := by omega
     rw [show ((64 : Nat) : Int) = 64 from rfl]
     have HB64 := Lib.hid hb.out
     have HW64 := Lib.hid hw.out
     obtain ⟨wc, hwc⟩ : ∃ x, x = wr := ⟨_, rfl⟩
     rw [← hwc] at HB64 HW64 ⊢
     clear hb hw hwc
     have HGc := Lib.hid (HG7.out.kp HW64.out (by show ¬ w.heap.size = w5.heap.size; have := HS.out; omega))
     go_wp2_with (first
      | ((with_reducible show OpW 116); refine wpList_loadv _ rfl 153 (.tmp 2) rfl 8 (by kernel_rfl) w.heap.size 0 s.cells rfl (BL.all HGc.out) rfl ?_)
      | ((with_reducible show OpW 11); refine wpList_alloc _ rfl 153 rfl (List.replicate 8 (.int .u32 0)) zero8 ?_; intro wd a1 a2 a3; have HVd := Lib.hid a1; have HXd := Lib.hid a2; have HZd := Lib.hid a3; clear a1 a2 a3)
      | ((with_reducible show OpN); refine wpList_storev _ rfl 153 (.tmp 11) (.tmp 116) rfl 8 (by kernel_rfl) wc.heap.size 0 _ (List.replicate 8 (.int .u32 0)) s.cells rfl rfl HVd.out rfl (scells_one s) (by decide) ?_; intro we a1 a2 a3; rw [splice_all (List.replicate 8 (.int .u32 0)) s.cells (by rw [cells_length, List.length_replicate])] at a1; have HVe := Lib.hid a1; have HKe := Lib.hid a2; clear a1 a2 a3))
     have HXe : Hid (Below wc.heap.size wc we) := Lib.hid (((Kp.of_below (S := fun _ => False) HXd.out).after HKe.out (fun i hi e => by omega)).below (Nat.le_refl _) (fun _ h => h.elim))
     obtain ⟨gv, hgv⟩ : ∃ gv, gv = wc.heap.size := ⟨_, rfl⟩
     have HGV : Hid (w5.heap.size < gv) := Lib.hid (by rw [hgv]; have := HB64.out.lt; exact this)
     have HCe := Lib.hid ((HC7.out.kp HW64.out (by show ¬ w3.heap.size = w5.heap.size; have := HS.out; omega)).kept HXe.out)
     have HWe := Lib.hid (HB64.out.kept HXe.out)
     have HGe := Lib.hid (HGc.out.kept HXe.out)
     have HRe := Lib.hid ((HR7.out.kp HW64.out (by show ¬ w1.heap.size = w5.heap.size; have := HS.out; omega)).kept HXe.out)
     have HBe : Hid (Below w.heap.size w we) := Lib.hid (below_thenB (((Kp.of_below (S := fun _ => False) HW1.out).after HW64.out (fun i hi e => by have := HS.out; omega)).below (Nat.le_refl _) (fun _ h => h.elim)) (by have := HS.out; have := HW64.out.size; have := HW1.out.size; omega) HXe.out)
     rw [← hgv] at HVe ⊢
     clear hgv HVd HXd HZd HKe HXe HB64 HW64 HGc HG7 HC7 HR7 HWS
     go_wp2_with fail
     go_loopw [12] (fun i wz => ∃ k : Nat, k ≤ 64 ∧ i = .int .i64 (k : Int) ∧ Hid (BL wz gv 153 (rk s l k).cells) ∧ Hid (Kp (· = gv) we wz)) (fun i _ => 64 - (intOf i).toNat)
     case atStart => exact ⟨0, by omega, rfl, HVe, Lib.hid (Kp.refl _ _)⟩
     case round =>
      obtain ⟨k, hk2, rfl, hbz, hkz⟩ := hrel
      by_cases hlt2 : k < 64
      ·
       have e1 : wr.cell? ⟨w3.heap.size, k, none⟩ = some (W (gw ks k)) := by
        have := (BL.all (HCe.out.kp hkz.out (by show ¬ w3.heap.size = gv; have := HS.out; have := HGV.out; omega))) k (W (gw ks k)) (by rw [List.getElem?_map, List.getElem?_eq_getElem (by show k < 64; exact hlt2)]; simp [gw, List.getD, List.getElem?_eq_getElem (show k < ks.length by show k < 64; exact hlt2)])
        rw [Nat.zero_add] at this
        exact this
       have e2 : wr.cell? ⟨w5.heap.size, k, none⟩ = some (W (gw (ws l) k)) := (HWe.out.kp hkz.out (by show ¬ w5.heap.size = gv; have := HGV.out; omega)).get (wcells_ws l k hlt2)
       obtain ⟨S, hS⟩ : ∃ S, S = rk s l k := ⟨_, rfl⟩
       rw [← hS] at hbz
       have HR : Hid (rnd S (gw ks k) (gw (ws l) k) = rk s l (k + 1)) := Lib.hid (by rw [rk, ← hS])
       clear hS
       obtain ⟨kk, hkk⟩ : ∃ x, x = gw ks k := ⟨_, rfl⟩
       obtain ⟨kw, hkw⟩ : ∃ x, x = gw (ws l) k := ⟨_, rfl⟩
       rw [← hkk, ← hkw] at HR
       rw [← hkk] at e1
       rw [← hkw] at e2
       clear hkk hkw
       have q0 := hbz.out.get (j := 0) (v := W S.a) rfl
       have q1 := hbz.out.get (j := 1) (v := W S.b) rfl
       have q2 := hbz.out.get (j := 2) (v := W S.c) rfl
       have q3 := hbz.out.get (j := 3) (v := W S.d) rfl
       have q4 := hbz.out.get (j := 4) (v := W S.e) rfl
       have q5 := hbz.out.get (j := 5) (v := W S.f) rfl
       have q6 := hbz.out.get (j := 6) (v := W S.g) rfl
       have q7 := hbz.out.get (j := 7) (v := W S.h) rfl
       have p6 : (k : Int) < 64 := by omega
       go_wp2_with fail
       refine Text.wp_region_text (fun _ => True) [(0, 4), (2, 4), (4, 4), (6, 4), (8, 4), (10, 4), (1, 1), (12, 4), (3, 1), (13, 4), (5, 1), (14, 4), (7, 1), (15, 4), (9, 1), (16, 4), (11, 1), (17, 4)] (by kernel_rfl) (by kernel_rfl) (fun _ _ _ _ _ h => h) (trivial) ?_
       iterate 6 (refine Text.purek rfl rfl (fun K hK => ⟨_, fun w' => by go_simp <;> rfl, ?_⟩); go_simp; refine hK _ ?_; clear hK K)
       (refine Text.readk rfl rfl (fun K hK => ⟨_, by go_simp <;> rfl, ?_⟩); go_simp; refine hK _ ?_; clear hK K)
       (refine Text.purek rfl rfl (fun K hK => ⟨_, fun w' => by go_simp <;> rfl, ?_⟩); go_simp; refine hK _ ?_; clear hK K)
       (refine Text.readk rfl rfl (fun K hK => ⟨_, by go_simp <;> rfl, ?_⟩); go_simp; refine hK _ ?_; clear hK K)
       (refine Text.purek rfl rfl (fun K hK => ⟨_, fun w' => by go_simp <;> rfl, ?_⟩); go_simp; refine hK _ ?_; clear hK K)
       (refine Text.readk rfl rfl (fun K hK => ⟨_, by go_simp <;> rfl, ?_⟩); go_simp; refine hK _ ?_; clear hK K)
       (refine Text.purek rfl rfl (fun K hK => ⟨_, fun w' => by go_simp <;> rfl, ?_⟩); go_simp; refine hK _ ?_; clear hK K)
       (refine Text.readk rfl rfl (fun K hK => ⟨_, by go_simp <;> rfl, ?_⟩); go_simp; refine hK _ ?_; clear hK K)
       (refine Text.purek rfl rfl (fun K hK => ⟨_, fun w' => by go_simp <;> rfl, ?_⟩); go_simp; refine hK _ ?_; clear hK K)
       (refine Text.readk rfl rfl (fun K hK => ⟨_, by go_simp <;> rfl, ?_⟩); go_simp; refine hK _ ?_; clear hK K)
       (refine Text.purek rfl rfl (fun K hK => ⟨_, fun w' => by go_simp <;> rfl, ?_⟩); go_simp; refine hK _ ?_; clear hK K)
       (refine Text.readk rfl rfl (fun K hK => ⟨_, by go_simp <;> rfl, ?_⟩); go_simp; refine hK _ ?_; clear hK K)
       (refine Text.purek rfl rfl (fun K hK => ⟨_, fun w' => by go_simp <;> rfl, ?_⟩); go_simp; refine hK _ ?_; clear hK K)
       refine Text.done ?_
       go_wp2_with fail
       go_quiet ((go_at_call 149; first | (with_reducible refine (rr6_any _ _).mono ?_; rintro e w' ⟨rfl, m, rfl⟩; (first | exact ⟨rfl, _, by rw [World.drewN_drewN, Nat.add_assoc]⟩ | exact ⟨rfl, _, by rw [World.drewN_drewN]⟩)) | (with_reducible refine (rr11_any _ _).mono ?_; rintro e w' ⟨rfl, m, rfl⟩; (first | exact ⟨rfl, _, by rw [World.drewN_drewN, Nat.add_assoc]⟩ | exact ⟨rfl, _, by rw [World.drewN_drewN]⟩)) | (with_reducible refine (rr25_any _ _).mono ?_; rintro e w' ⟨rfl, m, rfl⟩; (first | exact ⟨rfl, _, by rw [World.drewN_drewN, Nat.add_assoc]⟩ | exact ⟨rfl, _, by rw [World.drewN_drewN]⟩))))
       obtain ⟨wq, hwq⟩ : ∃ x, x = wr.drew.drewN nq := ⟨_, rfl⟩
       rw [← hwq]
       have HBQ : Hid (BL wq gv 153 S.cells) := Lib.hid (by rw [hwq]; exact hbz.out)
       have HWQ : Hid (Kp (· = gv) we wq) := Lib.hid (by rw [hwq]; exact hkz.out.drew.drewN _)
       clear e1 e2 q0 q1 q2 q3 q4 q5 q6 q7 hbz hkz hwq
       have q3 := HBQ.out.get (j := 3) (v := W S.d) rfl
       go_wp2_with (first
        | (go_at_call 149; (with_reducible refine (rr2_any _ _).mono ?_); rintro e w' ⟨rfl, m, rfl⟩)
        | (go_at_call 149; (with_reducible refine (rr13_any _ _).mono ?_); rintro e w' ⟨rfl, m, rfl⟩)
        | (go_at_call 149; (with_reducible refine (rr22_any _ _).mono ?_); rintro e w' ⟨rfl, m, rfl⟩)
        | ((with_reducible show OpN); refine wpList_storev _ rfl 153 (.tmp 11) (.tmp 194) rfl 8 (by kernel_rfl) gv 0 153 S.cells (rnd S kk kw).cells rfl (by rw [← rnd_vals]; rfl) HBQ.out rfl (scells_one _) (Nat.le_refl 8) ?_; intro wn a1 a2 a3; rw [splice_all S.cells (rnd S kk kw).cells (by rw [cells_length, cells_length]), HR.out] at a1; have HBN := Lib.hid a1; have HKN : Hid (Kp (· = gv) we wn) := Lib.hid ((HWQ.out.drewN _).trans a2); clear a1 a2 a3))
       clear q3
       go_roundw
       case rel => exact ⟨k + 1, by omega, by go_num, HBN, HKN⟩
       case measure => simp [intOf]; omega
      ·
       obtain rfl : k = 64 := by omega
       rw [show ((64 : Nat) : Int) = 64 from rfl]
       obtain ⟨S, hS⟩ : ∃ S, S = rk s l 64 := ⟨_, rfl⟩
       rw [← hS] at hbz
       have HCr : Hid (s.add S = comp s l) := Lib.hid (by rw [hS]; exact (comp_rk s l).symm)
       obtain ⟨wf, hwf⟩ : ∃ x, x = wr := ⟨_, rfl⟩
       rw [← hwf] at hbz hkz ⊢
       clear hS hwf
       go_wp2_with fail
       go_loopw [21] (fun i wx => ∃ k : Nat, k ≤ 8 ∧ i = .int .i64 (k : Int) ∧ Hid (BL wx gv 153 (mixC (s.add S) S [] k)) ∧ Hid (Kp (· = gv) we wx)) (fun i _ => 8 - (intOf i).toNat)
       case atStart => exact ⟨0, by omega, rfl, Lib.hid (by rw [mixC_zero, List.append_nil]; exact hbz.out), hkz⟩
       case round =>
        obtain ⟨k, hk8, rfl, hbx, hkx⟩ := hrel
        by_cases hlt8 : k < 8
        ·
         have c1 : wr.cell? ⟨gv, k, none⟩ = some (W (sw S k)) := hbx.out.get (mixC_get _ _ _ _ hlt8)
         have c2 : wr.cell? ⟨w.heap.size, k, none⟩ = some (W (sw s k)) := (HGe.out.kp hkx.out (by show ¬ w.heap.size = gv; have := HS.out; have := HGV.out; omega)).get (cells_sw s k hlt8)
         have c4 := hbx.out.frozen k
         have p6 : (k : Int) < 8 := by omega
         have HB9 : Hid (BL (wr.setCell ⟨gv, k, none⟩ (W (sw S k + sw s k))) gv 153 (mixC (s.add S) S [] (k + 1))) := Lib.hid (by
          have h9 := hbx.out.set_ k (W (sw (s.add S) k))
          rw [mixC_set _ _ _ _ hlt8, sw_add s S k hlt8, UInt32.add_comm] at h9
          exact h9)
         have HK9 : Hid (Kp (· = gv) we (wr.setCell ⟨gv, k, none⟩ (W (sw S k + sw s k)))) := Lib.hid (hkx.out.set (.inl rfl) _)
         go_wp2_with fail
         refine Text.wp_region_text (fun _ => True) [(0, 4), (1, 4), (3, 4), (4, 4), (2, 1), (5, 1), (6, 4), (7, 4), (8, 2)] (by kernel_rfl) (by kernel_rfl) (fun _ _ _ _ _ h => h) (trivial) ?_
         iterate 4 (refine Text.purek rfl rfl (fun K hK => ⟨_, fun w' => by go_simp <;> rfl, ?_⟩); go_simp; refine hK _ ?_; clear hK K)
         iterate 2 (refine Text.readk rfl rfl (fun K hK => ⟨_, by go_simp <;> rfl, ?_⟩); go_simp; refine hK _ ?_; clear hK K)
         iterate 2 (refine Text.purek rfl rfl (fun K hK => ⟨_, fun w' => by go_simp <;> rfl, ?_⟩); go_simp; refine hK _ ?_; clear hK K)
         refine Text.eff rfl rfl (fun K hK => ?_)
         go_simp
         refine hK _ _ trivial ?_
         clear hK K c1 c2 c4
         refine Text.done ?_
         generalize wr.setCell ⟨gv, k, none⟩ (W (sw S k + sw s k)) = w8 at HB9 HK9 ⊢
         go_wp2_with fail
         go_roundw
         case rel => exact ⟨k + 1, by omega, by go_num, Lib.hid HB9.out.drew, Lib.hid HK9.out.drew⟩
         case measure => simp [intOf]; omega
        ·
         obtain rfl : k = 8 := by omega
         have HB8 : Hid (BL wr gv 153 (comp s l).cells) := Lib.hid (by
          have := hbx.out
          rw [mixC_all, List.append_nil, HCr.out] at this
          exact this)
         have HR8 := Lib.hid (HRe.out.kp hkx.out (by show ¬ w1.heap.size = gv; have := HS.out; have := HGV.out; omega))
         have HW8 : Hid (Below w.heap.size w wr) := Lib.hid (((Kp.of_below (S := fun _ => False) HBe.out).after hkx.out (fun i hi e => by have := HS.out; have := HGV.out; omega)).below (Nat.le_refl _) (fun _ h => h.elim))
         go_wp2_with (first
          | ((with_reducible show OpW 207); refine wpList_loadv _ rfl 153 (.tmp 11) rfl 8 (by kernel_rfl) gv 0 (comp s l).cells rfl (BL.all HB8.out) (cells_length _) ?_)
          | ((with_reducible show OpN); refine wpList_storev _ rfl 153 (.tmp 4) (.tmp 207) rfl 8 (by kernel_rfl) w1.heap.size 0 _ (List.replicate 8 (.int .u32 0)) (comp s l).cells rfl rfl HR8.out (cells_length _) (scells_one _) (by decide) ?_; intro wn a1 a2 a3; rw [splice_all (List.replicate 8 (.int .u32 0)) (comp s l).cells (by rw [cells_length, List.length_replicate])] at a1; have HBN := Lib.hid a1; have HKN := Lib.hid a2; clear a1 a2 a3))
         (try simp only [Exit.inBlock, Exit.then])
         exact bodyPost_ret (results_cell1 (n := 8) rfl rfl (by kernel_rfl) (BL.all HBN.out) (cells_length _)) rfl ⟨rfl, ((Kp.of_below (S := fun _ => False) HW8.out).after HKN.out (fun i hi e => by have := HS.out; omega)).below (Nat.le_refl _) (fun _ h => h.elim)⟩
end Go.Proofs.YtfcakjpljjnjnaaGreatDoor
/- Contract of ref03.Pad. -/
namespace Go.Proofs.YtfcakjpljjnjnaaGreatDoor
open Go Go.RowKit Gf Sha

/-- x and its padding while it is being made. -/
def pdz (x : List UInt8) (k : Nat) : List UInt8 := x ++ padz k
def pdc (x : List UInt8) (i : Nat) : List UInt8 := x ++ padc x.length i
theorem pdz_succ (x : List UInt8) (k : Nat) : pdz x k ++ [0] = pdz x (k + 1) := by rw [pdz, pdz, List.append_assoc, padz_succ]
theorem pdc_succ (x : List UInt8) (i : Nat) : pdc x i ++ [cb x.length i] = pdc x (i + 1) := by rw [pdc, pdc, List.append_assoc, padc_succ]
theorem pdz_zero (x : List UInt8) : pdz x 0 = x ++ [128] := rfl
theorem pdc_zero (x : List UInt8) : pdc x 0 = pdz x (zr x.length) := by rw [pdc, pdz, padc_zero]
theorem pdc_all (x : List UInt8) : pdc x 8 = x ++ padding x.length := by rw [pdc, padding_padc]

set_option maxRecDepth 100000 in
set_option maxHeartbeats 2000000 in
theorem rpad_any (A : Option Addr) (n c : Nat) (l : List UInt8) (w : World) (h : BS w A n c l) (hN : n ≤ 1048576) :
  Calls Tryz.prog 128 #[.slice A n c] w fun e w' => (∃ g m c', e = .returned (.slice (some ⟨g, 0, none⟩) m c') ∧ m = n + (zr n + 9) ∧ w'.ownsRow w.heap.size 5 1 (.slice (some ⟨g, 0, none⟩) m c') m ((l ++ padding n).map B)) ∧ Below w.heap.size w w' := by
 have HLN := Lib.hid h.1
 have hln := h.1
 have hn0 : 0 ≤ (n : Int) := by omega
 have HL0 : Hid (BS (w.alloc (.cells #[] 5)) A n c l) := Lib.hid (h.kept ((Below.refl _ _).alloc (Nat.le_refl _) _))
 have HO0 : Hid ((w.alloc (.cells #[] 5)).ownsRow w.heap.size 5 1 (.slice (some ⟨w.heap.size, 0, none⟩) 0 0) 0 (([] : List UInt8).map B)) := Lib.hid (BL.own (BL.new w 5 []) (Nat.le_refl _) rfl (by decide))
 have HX0 : Hid (Below w.heap.size w (w.alloc (.cells #[] 5))) := Lib.hid ((Below.refl _ _).alloc (Nat.le_refl _) _)
 clear h hln
 go_enter Tryz.func128, Tryz.ntmps128
 go_wp2_with (first
  | ((with_reducible show OpW 8); refine wpList_appB _ rfl (.tmp 6) (.tmp 7) rfl w.heap.size _ 0 [] rfl HO0.out A n c l rfl HL0.out (by omega) (by simp) ?_; intro v1 w1 hp; have HO1 : Hid (w1.ownsRow w.heap.size 5 1 v1 (0 + n) (l.map B)) := Lib.hid (by have := hp.own; rwa [List.nil_append] at this); have HB1 := Lib.hid (hp.below HO0.out HX0.out (Nat.le_refl _) (by simp)); clear hp)
  | ((with_reducible show OpW 10); refine wpList_app1 _ rfl (.tmp 8) (.tmp 9) 39 5 (.int .u8 0) 1 Tryz.underlying39 infoU8 rfl rfl w.heap.size _ (0 + n) _ rfl (HO1.out.kept (World.grownBy_alloc w1 (.cells #[.int .u8 128] 5) none) (by simp; exact Classical.em _)) w1.heap.size 1 5 (B 128) rfl (Blk.new w1 5 #[B 128]) rfl (by omega) (by omega) (by have := HB1.out.size; simp; omega) ?_; intro v2 w2 hp; have HP2 := Lib.hid hp; clear hp))
 obtain ⟨g2, c2, rfl⟩ := HP2.out.form (by omega)
 have HO2 : Hid (w2.ownsRow w.heap.size 5 1 (.slice (some ⟨g2, 0, none⟩) (n + 1) c2) (n + 1) ((pdz l 0).map B)) := Lib.hid (by have := HP2.out.own; rw [Nat.zero_add] at this; rw [pdz_zero, List.map_append]; exact this)
 have HB2 : Hid (Below w.heap.size w w2) := Lib.hid (HP2.out.below (HO1.out.kept (World.grownBy_alloc w1 (.cells #[.int .u8 128] 5) none) (by simp; exact Classical.em _)) (HB1.out.alloc HB1.out.size _) (Nat.le_refl _) (by have := HB1.out.size; simp; omega))
 rw [Nat.zero_add]
 have hz := zr_lt n
 clear HP2 HO1 HB1 HL0 HO0 HX0
 go_loopw [3] (fun v wr => ∃ (k m g4 c4 : Nat), k ≤ zr n ∧ m ≤ n + 64 ∧ v = .slice (some ⟨g4, 0, none⟩) m c4 ∧ Hid (m = n + (k + 1)) ∧ Hid (wr.ownsRow w.heap.size 5 1 (.slice (some ⟨g4, 0, none⟩) m c4) m ((pdz l k).map B)) ∧ Hid (Below w.heap.size w wr)) (fun v _ => n + 65 - lenV v)
 case atStart => exact ⟨0, n + 1, _, _, by omega, by omega, by go_num, Lib.hid rfl, HO2, HB2⟩
 case round =>
  obtain ⟨k, m, g4, c4, hk, hm64, rfl, hm, ho, hbw⟩ := hrel
  have hm0 : 0 ≤ (m : Int) := by omega
  have hm1 : (m : Int) ≤ 1048640 := by omega
  by_cases hlt : k < zr n
  ·
   have ht : ((m : Int) % 64 != 56) = true := by
    have := zr_spec n k hlt
    have e := hm.out
    simp only [bne_iff_ne, ne_eq]; omega
   have hm2 : m < n + 64 := by have := hm.out; omega
   have HBB := Lib.hid (hbw.out.alloc hbw.out.size (.cells #[.int .u8 0] 5))
   have HOO := Lib.hid (ho.out.kept (World.grownBy_alloc wr (.cells #[.int .u8 0] 5) none) (by simp [Value.ownBlock]))
   have HBK : Hid (Blk (wr.alloc (.cells #[.int .u8 0] 5)) wr.heap.size 5 #[B 0]) := Lib.hid (Blk.new wr 5 #[B 0])
   go_wp2_with ((with_reducible show OpW 17); refine wpList_app1 _ rfl (.tmp 15) (.tmp 16) 39 5 (.int .u8 0) 1 Tryz.underlying39 infoU8 rfl rfl w.heap.size _ m _ rfl HOO.out wr.heap.size 1 5 (B 0) rfl HBK.out rfl (by omega) (by omega) HBB.out.size ?_; intro v6 w6 hp)
   obtain ⟨g6, c6, rfl⟩ := hp.form (by omega)
   have HO6 : Hid (w6.ownsRow w.heap.size 5 1 (.slice (some ⟨g6, 0, none⟩) (m + 1) c6) (m + 1) ((pdz l (k + 1)).map B)) := Lib.hid (by have := hp.own; rw [← pdz_succ, List.map_append]; exact this)
   have HB6 := Lib.hid (hp.below HOO.out HBB.out (Nat.le_refl _) HBB.out.size)
   clear hp ht
   go_wp2_with fail
   go_roundw
   case rel => exact ⟨k + 1, m + 1, _, _, by omega, by omega, rfl, Lib.hid (by rw [hm.out]; omega), HO6, HB6⟩
   case measure => simp [lenV]; omega
  ·
   obtain rfl : k = zr n := by omega
   have ht : ((m : Int) % 64 != 56) = false := by
    have := zr_end n
    have e := hm.out
    simp only [bne_eq_false_iff_eq]; omega
   go_wp2_with fail
   clear ht
   have HB4 := Lib.hid hbw.out
   have HOI : Hid (wr.ownsRow w.heap.size 5 1 (.slice (some ⟨g4, 0, none⟩) m c4) m ((pdc l 0).map B)) := Lib.hid (by rw [pdc_zero, HLN.out]; exact ho.out)
   go_loopw [3, 5] (fun v sh wx => ∃ (i m g5 c5 : Nat) (z : Int), i ≤ 8 ∧ m ≤ n + 72 ∧ z + i ≤ 7 ∧ 7 ≤ z + i ∧ sh = .int .i64 z ∧ v = .slice (some ⟨g5, 0, none⟩) m c5 ∧ Hid (m = n + (zr n + 1 + i)) ∧ Hid (wx.ownsRow w.heap.size 5 1 (.slice (some ⟨g5, 0, none⟩) m c5) m ((pdc l i).map B)) ∧ Hid (Below w.heap.size w wx)) (fun _ sh _ => (intOf sh + 1).toNat)
   case atStart => exact ⟨0, m, _, _, 7, by omega, by omega, by omega, by omega, rfl, rfl, Lib.hid (by rw [hm.out]), HOI, HB4⟩
   case round =>
    obtain ⟨i, m, g5, c5, z, hi, hm72, hz1, hz2, rfl, rfl, hmi, ho5, hb5⟩ := hrel
    obtain ⟨wx, hwx⟩ : ∃ x, x = wr := ⟨_, rfl⟩
    rw [← hwx] at ho5 hb5 ⊢
    clear hwx
    by_cases hlt : i < 8
    ·
     have hz0 : 0 ≤ z := by omega
     have hz8 : IntKind.i64.wrap (8 * z) = 8 * z := by rw [IntWalk.i64_in _ (by omega)]
     have hm2 : m < n + 72 := by have := hmi.out; omega
     have HBB := Lib.hid (hb5.out.alloc hb5.out.size (.cells #[B (cb n i)] 5))
     have HOO := Lib.hid (ho5.out.kept (World.grownBy_alloc wx (.cells #[B (cb n i)] 5) none) (by simp [Value.ownBlock]))
     have HBK : Hid (Blk (wx.alloc (.cells #[B (cb n i)] 5)) wx.heap.size 5 #[B (cb n i)]) := Lib.hid (Blk.new wx 5 #[B (cb n i)])
     go_wp2_with (first
      | ((with_reducible show OpW 30); refine wpList_shrN _ rfl (.tmp 27) (.tmp 29) _ _ rfl .i64 (n * 8) (56 - 8 * i) _ (8 * z) rfl rfl (by omega) (by omega) (by omega) ?_)
      | ((with_reducible show OpW 31); refine wpList_u8N _ rfl (.tmp 30) 86 5 rfl _ .u64 Tryz.underlying86 Tryz.underlying5 _ _ rfl rfl ?_; rw [show UInt8.ofNat ((n * 8) >>> (56 - 8 * i)) = cb n i from rfl])
      | ((with_reducible show OpW 33); refine wpList_app1 _ rfl (.tmp 26) (.tmp 32) 39 5 (.int .u8 0) 1 Tryz.underlying39 infoU8 rfl rfl w.heap.size _ m _ rfl HOO.out wx.heap.size 1 5 (B (cb n i)) rfl HBK.out rfl (by omega) (by omega) HBB.out.size ?_; intro v6 w6 hp))
     obtain ⟨g6, c6, rfl⟩ := hp.form (by omega)
     have HO6 : Hid (w6.ownsRow w.heap.size 5 1 (.slice (some ⟨g6, 0, none⟩) (m + 1) c6) (m + 1) ((pdc l (i + 1)).map B)) := Lib.hid (by have := hp.own; rw [← pdc_succ, List.map_append, HLN.out]; exact this)
     have HB6 := Lib.hid (hp.below HOO.out HBB.out (Nat.le_refl _) HBB.out.size)
     clear hp
     go_wp2_with fail
     go_roundw
     case rel => exact ⟨i + 1, m + 1, _, _, z - 1, by omega, by omega, by omega, by omega, by go_num, rfl, Lib.hid (by rw [hmi.out]; omega), HO6, HB6⟩
     case measure => simp [intOf]; omega
    ·
     obtain rfl : i = 8 := by omega
     have hz0 : z < 0 := by omega
     go_wp2_with fail
     go_ret
     exact ⟨⟨g5, m, c5, rfl, by have := hmi.out; omega, by have := ho5.out; rw [pdc_all, HLN.out] at this; exact this⟩, hb5.out⟩
end Go.Proofs.YtfcakjpljjnjnaaGreatDoor
/- Piece IDs as keys of maps. -/
namespace Go.Proofs.YtfcakjpljjnjnaaGreatDoor
open Go Go.RowKit Go.WideMaps Gf
set_option maxRecDepth 100000

theorem laidOutT : laidOutB Tryz.prog = true := by kernel_rfl
theorem pidRow : (31 : TypeId) < Tryz.prog.types.size := of_decide_eq_true (by kernel_rfl)
theorem pidWide : (match Tryz.prog.underlying 31 with | some (.array _ _) | some (.struct _) => true | _ => false) = true := by kernel_rfl
theorem pidLaw : KeyLaw Tryz.prog 31 := deep_law_laid laidOutT (m := 2) (by omega) pidRow (by kernel_rfl) pidWide
theorem pidKeyed : Go.Maps.Keyed Tryz.prog 31 := Go.Maps.Keyed.of_law pidLaw
theorem strKeyed : Go.Maps.Keyed Tryz.prog 9 := Go.Maps.string_keyed Tryz.underlying9
theorem pidType : Tryz.prog.keyType 31 = true := by kernel_rfl
theorem keyPid (s : List UInt8) (i : Int) (hs : s.length ≤ 9223372036854775807) (hi : (Lit.int .i64 i).wf = true) : ∃ lx, keyOf Tryz.prog 31 (.agg #[.string (strB s), .int .i64 i]) = some lx := by
 have hc : Tryz.prog.cellsOf 31 = 2 := by kernel_rfl
 have hcs : Tryz.prog.cellsOf 9 = 1 := by kernel_rfl
 have hci : Tryz.prog.cellsOf 3 = 1 := by kernel_rfl
 have hm : (strB s).size ≤ maxLen := by rw [strB_size]; exact hs
 have hf : (Value.agg #[.string (strB s), .int .i64 i]).formed Tryz.prog 31 = true := by
  simp [Value.formed, Tryz.underlying31, hc]
 have hk : ∃ ls, Tryz.prog.keyLits (Tryz.prog.types.size + 1) 31 (Value.agg #[.string (strB s), .int .i64 i]).cells.toList = some ls := by
  obtain ⟨m, hm'⟩ : ∃ m, Tryz.prog.types.size = m + 1 := ⟨Tryz.prog.types.size - 1, by kernel_rfl⟩
  rw [hm']
  unfold Program.keyLits
  rw [Tryz.underlying31]
  simp only [Value.cells, hc]
  simp [Program.keyLits, Tryz.underlying9, Tryz.underlying3, hcs, hci, hm, hi]
 obtain ⟨ls, hk⟩ := hk
 exact ⟨.string (keyBytes ls), by
  unfold keyOf
  rw [Tryz.underlying31]
  simp only [pidType, hf, hk]
  rfl⟩
end Go.Proofs.YtfcakjpljjnjnaaGreatDoor
