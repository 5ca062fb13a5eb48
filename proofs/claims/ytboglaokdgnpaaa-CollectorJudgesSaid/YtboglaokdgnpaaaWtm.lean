/- collector.Freed. -/
import Derived.Test.YtboglaokdgnpaaaWqm
import Derived.Test.YtboglaokdgnpaaaA25
namespace Go.Proofs.Ytboglaokdgnpaaa
open Go Go.RowKit Gf Sha

theorem find_pl {l : List Sp} {id : List UInt8} {i : Nat} (h : plF l id = some i) : ∃ s, l[i]? = some s ∧ (l.find? fun s => s.id == id) = some s := by
 unfold plF at h
 obtain ⟨h1, h2, h3⟩ := List.findIdx?_eq_some_iff_getElem.1 h
 refine ⟨l[i], List.getElem?_eq_getElem h1, find_step (List.getElem?_eq_getElem h1) ?_ h2⟩
 rw [List.any_eq_false]
 intro y hy
 obtain ⟨j, hj⟩ := List.mem_iff_getElem?.1 hy
 have hji : j < i := by
  have := (List.getElem?_eq_some_iff.1 hj).1
  rw [List.length_take] at this
  omega
 rw [List.getElem?_take_of_lt hji] at hj
 obtain ⟨hj1, hj2⟩ := List.getElem?_eq_some_iff.1 hj
 rw [← hj2]
 exact h3 j hji
theorem find_no {l : List Sp} {id : List UInt8} (h : plF l id = none) : (l.find? fun s => s.id == id) = none := by
 unfold plF at h
 rw [List.findIdx?_eq_none_iff] at h
 rw [List.find?_eq_none]
 intro s hs
 have := h s hs
 simpa using this
def freedV (x : Si) (l : List Stp) : Value := if siB x then .tuple #[.int .i64 (fdL x l), .int .i64 0] else .tuple #[.int .i64 0, .int .i64 1]
set_option maxRecDepth 100000 in
set_option maxHeartbeats 4000000 in
theorem freed_any (a0 : Option Addr) (n0 c0 : Nat) (a1 : Option Addr) (n1 c1 : Nat) (a2 : Option Addr) (n2 c2 : Nat) (a3 : Option Addr) (n3 c3 : Nat) (a4 : Option Addr) (n4 c4 : Nat) (a5 : Option Addr) (n5 c5 : Nat) (x : Si) (w : World) (hq : SiOk w a0 n0 c0 a1 n1 c1 a2 n2 c2 a3 n3 c3 a4 n4 c4 a5 n5 c5 x) (hbig : x.sp.length ≤ 1000) (A : Option Addr) (n c : Nat) (l : List Stp) (hl : LS rStp 5 80 w A n c l) (hn1 : n ≤ 1000) :
  Calls Try.prog 28 #[.agg (siC a0 n0 c0 a1 n1 c1 a2 n2 c2 a3 n3 c3 a4 n4 c4 a5 n5 c5 x.pct).toArray, .slice A n c] w fun e w' => e = .returned (freedV x l) ∧ Below w.heap.size w w' := by
 have hn := hl.len_le
 have H := Lib.hid hq
 have HL := Lib.hid hl
 have HN := Lib.hid hl.1
 have HN1 := Lib.hid hn1
 have HBG := Lib.hid hbig
 clear hq hbig hl hn1
 cases hv : siB x with
 | false =>
  have HR : Hid (freedV x l = .tuple #[.int .i64 0, .int .i64 1]) := Lib.hid (by rw [freedV, hv]; rfl)
  go_enter Try.func28, Try.ntmps28
  go_wp2_with (first
   | ((with_reducible show OpW 2); refine wpList_box _ rfl 33 (.tmp 0) rfl (siC a0 n0 c0 a1 n1 c1 a2 n2 c2 a3 n3 c3 a4 n4 c4 a5 n5 c5 x.pct) rfl ?_; intro w1 a1 a2 a3; have HB1 := Lib.hid a2; have HS1 := Lib.hid a1; clear a1 a2 a3)
   | ((with_reducible show OpW 14); refine wpList_loadv _ rfl 33 (.tmp 2) rfl 7 (by kernel_rfl) w.heap.size 0 _ rfl (BL.all HS1.out) rfl ?_)
   | (go_at_call 38; refine (read_any a0 n0 c0 a1 n1 c1 a2 n2 c2 a3 n3 c3 a4 n4 c4 a5 n5 c5 x _ (H.out.kept HB1.out) HBG.out).mono ?_; unfold ReadR; rw [hv]; (simp only [Bool.false_eq_true, if_false]); rintro e wb ⟨rfl, b3⟩; have HB3 := Lib.hid (below_then HB1.out b3); clear b3))
  go_ret2
  exact ⟨congrArg Ending.returned HR.out.symm, HB3.out⟩
 | true =>
  have HVL := Lib.hid hv
  go_enter Try.func28, Try.ntmps28
  go_wp2_with (first
   | ((with_reducible show OpW 2); refine wpList_box _ rfl 33 (.tmp 0) rfl (siC a0 n0 c0 a1 n1 c1 a2 n2 c2 a3 n3 c3 a4 n4 c4 a5 n5 c5 x.pct) rfl ?_; intro w1 a1 a2 a3; have HB1 := Lib.hid a2; have HS1 := Lib.hid a1; clear a1 a2 a3)
   | ((with_reducible show OpW 14); refine wpList_loadv _ rfl 33 (.tmp 2) rfl 7 (by kernel_rfl) w.heap.size 0 _ rfl (BL.all HS1.out) rfl ?_)
   | (go_at_call 38; refine (read_any a0 n0 c0 a1 n1 c1 a2 n2 c2 a3 n3 c3 a4 n4 c4 a5 n5 c5 x _ (H.out.kept HB1.out) HBG.out).mono ?_; unfold ReadR; rw [hv]; (simp only [if_true]); rintro e wb ⟨gb, m0, m1, m2, m3, m4, m5, m6, m7, rfl, hst, b3, h8, h9⟩; have HB3 := Lib.hid (below_then HB1.out b3); have HST3 := Lib.hid hst; clear hst b3 h8 h9))
  clear hv
  go_loopw [8, 23] (fun ov iv wr => ∃ (k : Nat) (v : Int), k ≤ n ∧ iv = .int .i64 (k : Int) ∧ ov = .int .i64 v ∧ Hid (v = fdL x (l.take k)) ∧ Hid (Below wb.heap.size wb wr)) (fun _ iv _ => n - (intOf iv).toNat)
  case atStart => exact ⟨0, 0, by omega, rfl, rfl, Lib.hid rfl, Lib.hid (Below.refl _ _)⟩
  case round =>
   obtain ⟨k, v, hk, rfl, rfl, hv, hb⟩ := hrel
   obtain ⟨wx, hwx⟩ : ∃ x, x = wr := ⟨_, rfl⟩
   rw [← hwx] at hb ⊢
   clear hwx
   have HBx := Lib.hid (below_thenB HB3.out HB3.out.size hb.out)
   by_cases hlt : k < n
   ·
    obtain ⟨t, g, o, cs, hs, ea, hat, hrt⟩ := HL.out.at_ stay_stp HBx.out hlt
    have HPC := Lib.hid hrt
    obtain ⟨B0, p0, d0, B1, p1, d1, rfl, _, _, _, hpc⟩ := hrt
    have HA := Lib.hid hat
    have HX := Lib.hid hs
    have HST := Lib.hid (fdL_step (x := x) HX.out)
    have hvb := fdL_b HVL.out l k
    rw [← hv.out] at hvb
    have hsb := fdS_b HVL.out t
    have hk1 := HN1.out
    have HKI := Lib.hid (keyS t.pc.1 (reach_key hpc.1))
    subst ea
    clear hs hat hpc
    by_cases h3 : t.kind = 3
    ·
     have e3 : (t.kind != 3) = false := by simp [h3]
     have HF : Hid (fdS x t = ((findS x t.pc.1).getD spE).b) := Lib.hid (by rw [fdS, if_pos h3])
     clear h3
     cases h1 : (st0 x).pl t.pc.1 with
     | none =>
      have HF0 : Hid (fdS x t = 0) := Lib.hid (by
       have h2 : findS x t.pc.1 = none := find_no h1
       rw [HF.out, h2]; rfl)
      clear hvb hsb hk1
      go_wp2_with (first
       | ((with_reducible show OpW 26); refine wpList_loadv _ rfl 44 (.tmp 25) rfl 5 (by kernel_rfl) g (o + k * 5) (stC2 t B0 p0 d0 B1 p1 d1) (by go_simp) HA.out rfl ?_)
       | ((with_reducible show OpW 10); refine wpList_alloc _ rfl 44 rfl stpZ stpZero ?_; intro w3 a1 a2 a3; have HV3 := Lib.hid a1; have HX3 := Lib.hid a2; clear a1 a2 a3)
       | ((with_reducible show OpN); refine wpList_storev _ rfl 44 (.tmp 10) (.tmp 26) rfl 5 (by kernel_rfl) wx.heap.size 0 _ stpZ (stC2 t B0 p0 d0 B1 p1 d1) rfl rfl HV3.out rfl (one_val _ rfl) (by decide) ?_; intro w4 a1 a2 a3; have HV4 : Hid (BL w4 wx.heap.size 44 (stC2 t B0 p0 d0 B1 p1 d1)) := Lib.hid a1; have HX4 : Hid (Below wx.heap.size wx w4) := Lib.hid (((Kp.of_below (S := fun _ => False) HX3.out).after a2 (fun i hi e => by omega)).below (Nat.le_refl _) (fun _ h => h.elim)); clear a1 a2 a3; have r0 := HV4.out.get (j := 0) rfl)
       | fail)
      have HBL4 := Lib.hid (HST3.out.kept (below_thenB hb.out hb.out.size HX4.out))
      refine Text.wp_region_text (fun w' => w'.cell? ⟨gb, 7, none⟩ = some (.map (some m0)) ∧ w'.cell? ⟨wx.heap.size, 2, none⟩ = some (.string (strB t.pc.1))) [(0, 4), (1, 4), (2, 4), (4, 4), (5, 4), (3, 0), (6, 0), (7, 2), (8, 4), (9, 4), (10, 4), (11, 4), (12, 4)] (by kernel_rfl) (by kernel_rfl) (fun _ _ _ _ _ h => h) (⟨HBL4.out.blk.get (j := 7) rfl, HV4.out.get (j := 2) rfl⟩) ?_
      iterate 5 (refine Text.purek rfl rfl (fun K hK => ⟨_, fun w' => by go_simp <;> rfl, ?_⟩); go_simp; refine hK _ ?_; clear hK K)
      iterate 2 (refine Text.heldk rfl rfl (fun K hK => ⟨_, fun w' hw' => by go_simp <;> rfl, ?_⟩); go_simp; refine hK _ ?_; clear hK K)
      refine Text.eff rfl rfl (fun K hK => ?_)
      refine wp_lookokF _ (.tmp 34) (.tmp 37) 77 9 3 rfl strKeyed mapSI (.int .i64 0) intZero m0 _ (by rfl) (HBL4.out.kept (Below.refl _ _).drew).maps.pl t.pc.1 (by rfl) HKI.out (.int .i64 0) false (by rw [h1]; rfl) (by rw [h1]; rfl) ?_
      go_simp
      refine hK _ _ ⟨(HBL4.out.blk.kept (Below.refl _ _).drew).get (j := 7) rfl, (HV4.out.kept (Below.refl _ _).drew).get (j := 2) rfl⟩ ?_
      clear hK K
      iterate 5 (refine Text.purek rfl rfl (fun K hK => ⟨_, fun w' => by go_simp <;> rfl, ?_⟩); go_simp; refine hK _ ?_; clear hK K)
      refine Text.done ?_
      go_wp2_with fail
      go_roundw
      case rel => exact ⟨k + 1, v, by omega, by go_num, rfl, Lib.hid (by rw [HST.out, HF0.out, ← hv.out]; omega), Lib.hid (below_thenB hb.out hb.out.size HX4.out.drew)⟩
      case measure => simp [intOf]; omega
     | some i =>
      obtain ⟨s, hi2, hfs⟩ := find_pl h1
      have HF0 : Hid (fdS x t = s.b) := Lib.hid (by
       have h2 : findS x t.pc.1 = some s := hfs
       rw [HF.out, h2]; rfl)
      rw [HF0.out] at hsb
      have hin : i < n0 := by have := (List.getElem?_eq_some_iff.1 hi2).1; have := H.out.sp.1; omega
      obtain ⟨s', g', o', cs', ht', e0, hat, hst'⟩ := H.out.sp.at_ stay_sp HBx.out hin
      obtain rfl : s' = s := by have := ht'.symm.trans hi2; cases this; rfl
      have HE0 := Lib.hid e0
      obtain ⟨A', m', c', rfl, _⟩ := hst'
      have HA' := Lib.hid hat
      clear hi2 hfs ht' hat e0
      go_wp2_with (first
       | ((with_reducible show OpW 26); refine wpList_loadv _ rfl 44 (.tmp 25) rfl 5 (by kernel_rfl) g (o + k * 5) (stC2 t B0 p0 d0 B1 p1 d1) (by go_simp) HA.out rfl ?_)
       | ((with_reducible show OpW 10); refine wpList_alloc _ rfl 44 rfl stpZ stpZero ?_; intro w3 a1 a2 a3; have HV3 := Lib.hid a1; have HX3 := Lib.hid a2; clear a1 a2 a3)
       | ((with_reducible show OpN); refine wpList_storev _ rfl 44 (.tmp 10) (.tmp 26) rfl 5 (by kernel_rfl) wx.heap.size 0 _ stpZ (stC2 t B0 p0 d0 B1 p1 d1) rfl rfl HV3.out rfl (one_val _ rfl) (by decide) ?_; intro w4 a1 a2 a3; have HV4 : Hid (BL w4 wx.heap.size 44 (stC2 t B0 p0 d0 B1 p1 d1)) := Lib.hid a1; have HX4 : Hid (Below wx.heap.size wx w4) := Lib.hid (((Kp.of_below (S := fun _ => False) HX3.out).after a2 (fun i hi e => by omega)).below (Nat.le_refl _) (fun _ h => h.elim)); clear a1 a2 a3; have r0 := HV4.out.get (j := 0) rfl)
       | fail)
      have HBL4 := Lib.hid (HST3.out.kept (below_thenB hb.out hb.out.size HX4.out))
      refine Text.wp_region_text (fun w' => w'.cell? ⟨gb, 7, none⟩ = some (.map (some m0)) ∧ w'.cell? ⟨wx.heap.size, 2, none⟩ = some (.string (strB t.pc.1))) [(0, 4), (1, 4), (2, 4), (4, 4), (5, 4), (3, 0), (6, 0), (7, 2), (8, 4), (9, 4), (10, 4), (11, 4), (12, 4)] (by kernel_rfl) (by kernel_rfl) (fun _ _ _ _ _ h => h) (⟨HBL4.out.blk.get (j := 7) rfl, HV4.out.get (j := 2) rfl⟩) ?_
      iterate 5 (refine Text.purek rfl rfl (fun K hK => ⟨_, fun w' => by go_simp <;> rfl, ?_⟩); go_simp; refine hK _ ?_; clear hK K)
      iterate 2 (refine Text.heldk rfl rfl (fun K hK => ⟨_, fun w' hw' => by go_simp <;> rfl, ?_⟩); go_simp; refine hK _ ?_; clear hK K)
      refine Text.eff rfl rfl (fun K hK => ?_)
      refine wp_lookokF _ (.tmp 34) (.tmp 37) 77 9 3 rfl strKeyed mapSI (.int .i64 0) intZero m0 _ (by rfl) (HBL4.out.kept (Below.refl _ _).drew).maps.pl t.pc.1 (by rfl) HKI.out (.int .i64 (i : Int)) true (by rw [h1]; rfl) (by rw [h1]; rfl) ?_
      go_simp
      refine hK _ _ ⟨(HBL4.out.blk.kept (Below.refl _ _).drew).get (j := 7) rfl, (HV4.out.kept (Below.refl _ _).drew).get (j := 2) rfl⟩ ?_
      clear hK K
      iterate 5 (refine Text.purek rfl rfl (fun K hK => ⟨_, fun w' => by go_simp <;> rfl, ?_⟩); go_simp; refine hK _ ?_; clear hK K)
      refine Text.done ?_
      have s0 : w4.drew.cell? ⟨gb, 0, none⟩ = some (Value.slice (some ⟨g', o', none⟩) n0 c0) := by
       have h9 := (HBL4.out.blk.kept (Below.refl _ _).drew).get (j := 0) rfl
       rw [HE0.out] at h9; exact h9
      have s2 := (HA'.out.kept HX4.out.drew) 2 _ rfl
      go_wp2_with fail
      go_roundw
      case rel => exact ⟨k + 1, v + s'.b, by omega, by go_num, by go_num, Lib.hid (by rw [HST.out, HF0.out, ← hv.out]), Lib.hid (below_thenB hb.out hb.out.size HX4.out.drew)⟩
      case measure => simp [intOf]; omega
    ·
     have e3 : (t.kind != 3) = true := by simp [h3]
     have HF : Hid (fdS x t = 0) := Lib.hid (by rw [fdS, if_neg h3])
     clear h3 hvb hsb hk1
     go_wp2_with (first
      | ((with_reducible show OpW 26); refine wpList_loadv _ rfl 44 (.tmp 25) rfl 5 (by kernel_rfl) g (o + k * 5) (stC2 t B0 p0 d0 B1 p1 d1) (by go_simp) HA.out rfl ?_)
      | ((with_reducible show OpW 10); refine wpList_alloc _ rfl 44 rfl stpZ stpZero ?_; intro w3 a1 a2 a3; have HV3 := Lib.hid a1; have HX3 := Lib.hid a2; clear a1 a2 a3)
      | ((with_reducible show OpN); refine wpList_storev _ rfl 44 (.tmp 10) (.tmp 26) rfl 5 (by kernel_rfl) wx.heap.size 0 _ stpZ (stC2 t B0 p0 d0 B1 p1 d1) rfl rfl HV3.out rfl (one_val _ rfl) (by decide) ?_; intro w4 a1 a2 a3; have HV4 : Hid (BL w4 wx.heap.size 44 (stC2 t B0 p0 d0 B1 p1 d1)) := Lib.hid a1; have HX4 : Hid (Below wx.heap.size wx w4) := Lib.hid (((Kp.of_below (S := fun _ => False) HX3.out).after a2 (fun i hi e => by omega)).below (Nat.le_refl _) (fun _ h => h.elim)); clear a1 a2 a3; have r0 := HV4.out.get (j := 0) rfl)
      | fail)
     go_roundw
     case rel => exact ⟨k + 1, v, by omega, by go_num, rfl, Lib.hid (by rw [HST.out, HF.out, ← hv.out]; omega), Lib.hid (below_thenB hb.out hb.out.size HX4.out)⟩
     case measure => simp [intOf]; omega
   ·
    obtain rfl : k = n := by omega
    have HR : Hid (freedV x l = .tuple #[.int .i64 v, .int .i64 0]) := Lib.hid (by
     have h9 := hv.out
     rw [take_end HN.out] at h9
     rw [freedV, HVL.out, h9]; rfl)
    go_wp2_with fail
    go_ret2
    exact ⟨congrArg Ending.returned HR.out.symm, HBx.out⟩
end Go.Proofs.Ytboglaokdgnpaaa
