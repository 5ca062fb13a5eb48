/- Several texts in one: Vb, Vc. -/
import Derived.Test.YtboglaokdgnpaaaA22
/- The situation's condemn. -/
namespace Go.Proofs.Ytboglaokdgnpaaa
open Go Go.RowKit Gf Sha

/-- Of what is old only the situation's maps have turned. -/
def KM (m0 m1 m2 m3 m4 m5 m6 m7 : Nat) (w w' : World) : Prop := Kp (fun i => i ∈ [m0, m1, m2, m3, m4, m5, m6, m7]) w w'
section
variable {w w' w1 : World} {m0 m1 m2 m3 m4 m5 m6 m7 : Nat} {st : St}
theorem KM.mp (h : KM m0 m1 m2 m3 m4 m5 m6 m7 w w') (hm : Maps8 w m0 m1 m2 m3 m4 m5 m6 m7 st) : Mp w w' := hm.mp h (fun _ _ h => h)
theorem KM.then (h : KM m0 m1 m2 m3 m4 m5 m6 m7 w w1) (k : Below w1.heap.size w1 w') : KM m0 m1 m2 m3 m4 m5 m6 m7 w w' := Kp.then h k
theorem KM.trans (h : KM m0 m1 m2 m3 m4 m5 m6 m7 w w1) (k : KM m0 m1 m2 m3 m4 m5 m6 m7 w1 w') : KM m0 m1 m2 m3 m4 m5 m6 m7 w w' := Kp.trans h k
theorem KM.of_below (h : Below w.heap.size w w') : KM m0 m1 m2 m3 m4 m5 m6 m7 w w' := Kp.of_below h
end
theorem MF.mg {κ : Type} {P : Program} {k : TypeId} {enc : κ → Value} {w : World} {b : Nat} {f : κ → Option Value} (h : MF P k enc w b f) (z : Value) : MG P k enc z w b (fun x => (f x).getD z) := ⟨f, h, fun _ => rfl⟩
def plG (st : St) (y : List UInt8) : Value := (((st.pl y).map fun i => Value.int .i64 (i : Int))).getD (.int .i64 0)
theorem plG_some {st : St} {y : List UInt8} {i : Nat} (h : st.pl y = some i) : plG st y = .int .i64 (i : Int) := by rw [plG, h]; rfl
theorem Maps8.plG {w : World} {m0 m1 m2 m3 m4 m5 m6 m7 : Nat} {st : St} (h : Maps8 w m0 m1 m2 m3 m4 m5 m6 m7 st) : MG Try.prog 9 usC (.int .i64 0) w m0 (plG st) := h.pl.mg _
theorem condStep_live {x : Si} {st : St} {id : List UInt8} {t : Sp} (h : liveT st id = true) (hr : refsAt x st id = t.refs) : (condOn st id).add t.refs (-1) = condStep x st id := by
 unfold condStep; rw [if_pos h, hr]
theorem condStep_dead {x : Si} {st : St} {id : List UInt8} (h : liveT st id = false) : condStep x st id = st := by
 unfold condStep; rw [h]; rfl
set_option maxRecDepth 100000 in
set_option maxHeartbeats 4000000 in
theorem condemn_any (w : World) (b : Nat) (m0 m1 m2 m3 m4 m5 m6 m7 : Nat) (a0 : Option Addr) (n0 c0 : Nat) (a1 : Option Addr) (n1 c1 : Nat) (a2 : Option Addr) (n2 c2 : Nat) (a3 : Option Addr) (n3 c3 : Nat) (a4 : Option Addr) (n4 c4 : Nat) (a5 : Option Addr) (n5 c5 : Nat) (x : Si) (st : St) (h : StM w b m0 m1 m2 m3 m4 m5 m6 m7 a0 n0 c0 a1 n1 c1 a2 n2 c2 a3 n3 c3 a4 n4 c4 a5 n5 c5 x.pct st) (hsp : LS rSp 6 72 w a0 n0 c0 x.sp) (hv : siB x = true) (hbig : x.sp.length ≤ 1000) (hi : Inv x st) (A : Option Addr) (n c : Nat) (ids : List (List UInt8)) (hl : LS rStr 1 16 w A n c ids) :
  Calls Try.prog 97 #[.pointer (some ⟨b, 0, none⟩), .slice A n c] w fun e w' => e = .returned (.bool (condB x st ids)) ∧ KM m0 m1 m2 m3 m4 m5 m6 m7 w w' ∧ (condB x st ids = true → StM w' b m0 m1 m2 m3 m4 m5 m6 m7 a0 n0 c0 a1 n1 c1 a2 n2 c2 a3 n3 c3 a4 n4 c4 a5 n5 c5 x.pct (condRun x st ids)) := by
 have hn := hl.len_le
 have hn0 := hsp.len_le
 have H := Lib.hid hl
 have HL := Lib.hid hl.1
 have HSP := Lib.hid hsp
 have HBG := Lib.hid hbig
 have HST := Lib.hid h
 have HV := Lib.hid hv
 have HI := Lib.hid hi
 clear h hl hbig hv hi hsp
 go_enter Try.func97, Try.ntmps97
 go_wp2_with fail
 go_loopw [15] (fun iv wr => ∃ k : Nat, k ≤ n ∧ iv = .int .i64 (k : Int) ∧ Hid ((ids.take k).all (liveT st) = true) ∧ Hid (Below w.heap.size w wr)) (fun iv _ => n - (intOf iv).toNat)
 case atStart => exact ⟨0, by omega, rfl, Lib.hid rfl, Lib.hid (Below.refl _ _)⟩
 case round =>
  obtain ⟨k, hk, rfl, hall, hb⟩ := hrel
  obtain ⟨wx, hwx⟩ : ∃ x, x = wr := ⟨_, rfl⟩
  rw [← hwx] at hb ⊢
  clear hwx
  by_cases hlt : k < n
  ·
   obtain ⟨s, g, o, hs, rfl, p1⟩ := H.out.str_at hb.out hlt
   have HOK := Lib.hid (H.out.str_ok hs)
   have HX := Lib.hid hs
   clear hs
   cases h1 : liveT st s with
   | true =>
    have HF : Hid ((ids.take (k + 1)).all (liveT st) = true) := Lib.hid (all_step HX.out hall.out h1)
    go_wp2_with (first
     | (go_at_call 78; refine (live_st _ _ _ _ _ _ _ _ _ _ _ _ _ _ _ _ _ _ _ _ _ _ _ _ _ _ _ _ _ _ (HST.out.kept hb.out) s HOK.out).mono ?_; rintro e w4 ⟨rfl, hw⟩; rw [hw, h1]; clear hw w4))
    go_roundw
    case rel => exact ⟨k + 1, by omega, by go_num, HF, hb⟩
    case measure => simp [intOf]; omega
   | false =>
    have HF : Hid (condB x st ids = false) := Lib.hid (by rw [condB, all_miss HX.out h1]; rfl)
    go_wp2_with (first
     | (go_at_call 78; refine (live_st _ _ _ _ _ _ _ _ _ _ _ _ _ _ _ _ _ _ _ _ _ _ _ _ _ _ _ _ _ _ (HST.out.kept hb.out) s HOK.out).mono ?_; rintro e w4 ⟨rfl, hw⟩; rw [hw, h1]; clear hw w4))
    go_ret
    exact ⟨ret_bool HF.out.symm, KM.of_below hb.out, fun e => by rw [HF.out] at e; cases e⟩
  ·
   obtain rfl : k = n := by omega
   have HAL : Hid (ids.all (liveT st) = true) := Lib.hid (by have := hall.out; rw [take_end HL.out] at this; exact this)
   clear hall hk hlt
   have HST1 := Lib.hid (HST.out.kept hb.out)
   have HW1 := hb
   clear hb
   go_wp2_with fail
   go_loopw [26] (fun iv wr => ∃ m : Nat, m ≤ k ∧ iv = .int .i64 (m : Int) ∧ Hid (Maps8 wr m0 m1 m2 m3 m4 m5 m6 m7 (condRun x st (ids.take m))) ∧ Hid (KM m0 m1 m2 m3 m4 m5 m6 m7 w wr)) (fun iv _ => k - (intOf iv).toNat)
   case atStart => exact ⟨0, by omega, rfl, Lib.hid (by rw [List.take_zero]; exact HST1.out.maps), Lib.hid (KM.of_below HW1.out)⟩
   case round =>
    obtain ⟨m, hm, rfl, hmp, hb⟩ := hrel
    obtain ⟨wz, hwz⟩ : ∃ x, x = wr := ⟨_, rfl⟩
    rw [← hwz] at hmp hb ⊢
    clear hwz
    have HP : Hid (Mp w wz) := Lib.hid (hb.out.mp HST.out.maps)
    have HST2 : Hid (StM wz b m0 m1 m2 m3 m4 m5 m6 m7 a0 n0 c0 a1 n1 c1 a2 n2 c2 a3 n3 c3 a4 n4 c4 a5 n5 c5 x.pct (condRun x st (ids.take m))) := Lib.hid ⟨HP.out.bl HST.out.blk, hmp.out⟩
    by_cases hlt : m < k
    ·
     obtain ⟨s, g, o, hs, rfl, p1⟩ := (H.out.mp staym_str HP.out).str_at (Below.refl _ _) hlt
     have HOK := Lib.hid (H.out.str_ok hs)
     have HKS := Lib.hid (keyS s (reach_key HOK.out))
     have HTK : Hid (condRun x st (ids.take (m + 1)) = condStep x (condRun x st (ids.take m)) s) := Lib.hid (by rw [take_next hs, condRun_step])
     have HIV : Hid (Inv x (condRun x st (ids.take m))) := Lib.hid (HI.out.condRun HV.out _)
     clear hs
     obtain ⟨s2, hs2⟩ : ∃ s2, s2 = condRun x st (ids.take m) := ⟨_, rfl⟩
     rw [← hs2] at HST2 HTK HIV
     clear hs2 hmp
     cases h1 : liveT s2 s with
     | false =>
      have HF := Lib.hid (condStep_dead (x := x) h1)
      go_wp2_with (first
       | (go_at_call 78; refine (live_st _ _ _ _ _ _ _ _ _ _ _ _ _ _ _ _ _ _ _ _ _ _ _ _ _ _ _ _ _ _ HST2.out s HOK.out).mono ?_; rintro e w4 ⟨rfl, hw⟩; rw [hw, h1]; clear hw w4))
      go_roundw
      case rel => exact ⟨m + 1, by omega, by go_num, Lib.hid (by rw [HTK.out, HF.out]; exact HST2.out.maps), hb⟩
      case measure => simp [intOf]; omega
     | true =>
      obtain ⟨i, t, hi1, hi2, hi3, hi4⟩ := HIV.out.live h1
      have HF := Lib.hid (condStep_live h1 hi4)
      have HSM : Hid (Small (condOn s2 s)) := Lib.hid (by have h9 := HIV.out.small HV.out HBG.out; exact ⟨h9.1, h9.2⟩)
      have HPL : Hid (plG (condOn s2 s) s = .int .i64 (i : Int)) := Lib.hid (plG_some hi1)
      have hin : i < n0 := by have := (List.getElem?_eq_some_iff.1 hi2).1; have := HSP.out.1; omega
      obtain ⟨t', g', o', cs', ht', e0, hat, hst'⟩ := (HSP.out.mp staym_sp HP.out).at_ stay_sp (Below.refl _ _) hin
      obtain rfl : t' = t := by have := ht'.symm.trans hi2; cases this; rfl
      have HE0 := Lib.hid e0
      obtain ⟨A', m', c', rfl, hlr, _⟩ := hst'
      have HA := Lib.hid hat
      have HLR := Lib.hid hlr
      have HM8 : Hid (m' ≤ 1000000) := Lib.hid (by have h8 := sp_refs8 HV.out t' (List.mem_of_getElem? ht'); have := hlr.1; omega)
      clear hi1 hi2 hi3 hi4 ht' hat hlr e0
      have q9 := HST2.out.blk.get (j := 9) rfl
      go_wp2_with (first
       | (go_at_call 78; refine (live_st _ _ _ _ _ _ _ _ _ _ _ _ _ _ _ _ _ _ _ _ _ _ _ _ _ _ _ _ _ _ HST2.out s HOK.out).mono ?_; rintro e w4 ⟨rfl, hw⟩; rw [hw, h1]; clear hw w4)
       | ((with_reducible show OpN); refine wpList_updG _ (fun x y h => usC_inj h) rfl (.tmp 36) (.tmp 37) (.const (.bool true)) 78 9 4 rfl strKeyed mapSB (.bool false) m2 _ rfl HST2.out.maps.cond s (.bool true) rfl rfl HKS.out ?_; intro w5 a1 a2 a3; have HM5 : Hid (Maps8 w5 m0 m1 m2 m3 m4 m5 m6 m7 (condOn s2 s)) := Lib.hid (HST2.out.maps.setCond a2 (a1.to (fun y => by by_cases h : y = s <;> simp [h]))); have HK5 : Hid (KM m0 m1 m2 m3 m4 m5 m6 m7 wz w5) := Lib.hid (a2.mono (fun i _ e => by subst e; simp)); clear a1 a2 a3))
      have HP5 : Hid (Mp wz w5) := Lib.hid (HK5.out.mp HST2.out.maps)
      have HST5 : Hid (StM w5 b m0 m1 m2 m3 m4 m5 m6 m7 a0 n0 c0 a1 n1 c1 a2 n2 c2 a3 n3 c3 a4 n4 c4 a5 n5 c5 x.pct (condOn s2 s)) := Lib.hid ⟨HP5.out.bl HST2.out.blk, HM5.out⟩
      have HA5 := Lib.hid (HP5.out.at HA.out)
      have HLR5 := Lib.hid (HLR.out.mp staym_rf HP5.out)
      refine Text.wp_region_text (fun w' => w'.cell? ⟨b, 0, none⟩ = some (.slice (some ⟨g', o', none⟩) n0 c0) ∧ w'.cell? ⟨b, 7, none⟩ = some (.map (some m0)) ∧ MG Try.prog 9 usC (.int .i64 0) w' m0 (plG (condOn s2 s)) ∧ At w' g' (o' + i * 6) (spC t' A' m' c')) [(0, 4), (1, 4), (2, 4), (3, 4), (4, 4), (6, 4), (7, 4), (8, 4), (10, 4), (5, 0), (9, 0), (11, 0), (12, 4), (13, 0), (14, 2)] (by kernel_rfl) (by kernel_rfl) (fun _ _ _ _ _ h => h) (⟨(by rw [← HE0.out]; exact HST5.out.blk.get (j := 0) rfl), HST5.out.blk.get (j := 7) rfl, (HST5.out.kept (Below.refl _ _).drew).maps.plG, HA5.out.drew⟩) ?_
      iterate 9 (refine Text.purek rfl rfl (fun K hK => ⟨_, fun w' => by go_simp <;> rfl, ?_⟩); go_simp; refine hK _ ?_; clear hK K)
      iterate 2 (refine Text.heldk rfl rfl (fun K hK => ⟨_, fun w' hw' => by go_simp <;> rfl, ?_⟩); go_simp; refine hK _ ?_; clear hK K)
      refine Text.heldk rfl rfl (fun K hK => ?_)
      refine ⟨_, fun w' hw' => exec_lookG w' (.tmp 47) (.tmp 48) 77 9 3 rfl strKeyed mapSI (.int .i64 0) intZero m0 _ rfl hw'.2.2.1 s rfl HKS.out, ?_⟩
      rw [HPL.out]
      go_simp
      refine hK _ ?_
      clear hK K
      (refine Text.purek rfl rfl (fun K hK => ⟨_, fun w' => by go_simp <;> rfl, ?_⟩); go_simp; refine hK _ ?_; clear hK K)
      refine Text.heldk rfl rfl (fun K hK => ?_)
      refine ⟨_, fun w' hw' => exec_loadv 61 (.tmp 50) rfl 6 (by kernel_rfl) g' (o' + i * 6) (spC t' A' m' c') (by go_simp) hw'.2.2.2 rfl, ?_⟩
      go_simp
      refine hK _ ?_
      clear hK K
      refine Text.eff rfl rfl (fun K hK => ?_)
      go_simp
      refine (count_any _ b _ _ _ _ _ _ _ _ _ _ _ _ _ _ _ _ _ _ _ _ _ _ _ _ _ _ _ _ (HST5.out.kept (Below.refl _ _).drew) HSM.out t' A' m' c' (HLR5.out.kept stay_rf (Below.refl _ _).drew) HM8.out (-1) (by omega) (by omega)).mono ?_
      rintro e w6 ⟨rfl, hs6, k6⟩
      have HST6 : Hid (StM w6 b m0 m1 m2 m3 m4 m5 m6 m7 a0 n0 c0 a1 n1 c1 a2 n2 c2 a3 n3 c3 a4 n4 c4 a5 n5 c5 x.pct (condRun x st (ids.take (m + 1)))) := Lib.hid (by rw [HTK.out, ← HF.out]; exact hs6)
      have HK6 : Hid (KM m0 m1 m2 m3 m4 m5 m6 m7 w5 w6) := Lib.hid ((Kp.of_below (Below.refl _ _).drew).trans (k6.mono (fun i _ e => by rcases e with rfl | rfl <;> simp)))
      have HP6 : Hid (Mp w5 w6) := Lib.hid (HK6.out.mp HST5.out.maps)
      clear hs6 k6
      refine hK _ _ ⟨(by rw [← HE0.out]; exact HST6.out.blk.get (j := 0) rfl), HST6.out.blk.get (j := 7) rfl, ?_, HP6.out.at HA5.out⟩ ?_
      ·
       have h9 := HST6.out.maps.plG
       have e9 : plG (condRun x st (ids.take (m + 1))) = plG (condOn s2 s) := by rw [HTK.out, ← HF.out]; rfl
       rw [e9] at h9; exact h9
      clear hK K
      refine Text.done ?_
      go_wp2_with fail
      go_roundw
      case rel => exact ⟨m + 1, by omega, by go_num, Lib.hid HST6.out.maps, Lib.hid (hb.out.trans (HK5.out.trans HK6.out))⟩
      case measure => simp [intOf]; omega
    ·
     obtain rfl : m = k := by omega
     have HST3 : Hid (StM wz b m0 m1 m2 m3 m4 m5 m6 m7 a0 n0 c0 a1 n1 c1 a2 n2 c2 a3 n3 c3 a4 n4 c4 a5 n5 c5 x.pct (condRun x st ids)) := Lib.hid (by have := HST2.out; rw [take_end HL.out] at this; exact this)
     have HB2 := hb
     clear hb hmp HST2 hm hlt
     have HIV : Hid (Inv x (condRun x st ids)) := Lib.hid (HI.out.condRun HV.out _)
     have HLI := Lib.hid (H.out.mp staym_str HP.out)
     have HLS := Lib.hid (HSP.out.mp staym_sp HP.out)
     go_wp2_with fail
     go_loopw [56] (fun iv wr => ∃ k : Nat, k ≤ m ∧ iv = .int .i64 (k : Int) ∧ Hid ((ids.take k).all (fun id => (refsAt x (condRun x st ids) id).all (needOk (condRun x st ids))) = true) ∧ Hid (Below wz.heap.size wz wr)) (fun iv _ => m - (intOf iv).toNat)
     case atStart => exact ⟨0, by omega, rfl, Lib.hid rfl, Lib.hid (Below.refl _ _)⟩
     case round =>
      obtain ⟨k, hk, rfl, hall, hb⟩ := hrel
      obtain ⟨wx', hwx⟩ : ∃ x, x = wr := ⟨_, rfl⟩
      rw [← hwx] at hb ⊢
      clear hwx
      by_cases hlt : k < m
      ·
       obtain ⟨s, g, o, hs, rfl, p1⟩ := HLI.out.str_at hb.out hlt
       have HX := Lib.hid hs
       have HKS := Lib.hid (keyS s (reach_key (H.out.str_ok hs)))
       obtain ⟨i, t, hi1, hi2, hi3, hi4⟩ := HI.out.live (List.all_eq_true.1 HAL.out s (List.mem_of_getElem? hs))
       have HRF : Hid (refsAt x (condRun x st ids) s = t.refs) := Lib.hid (by rw [refsAt_run]; exact hi4)
       have HPL : Hid (plG (condRun x st ids) s = .int .i64 (i : Int)) := Lib.hid (plG_some (by rw [(condRun_same x ids st).1]; exact hi1))
       have hin : i < n0 := by have := (List.getElem?_eq_some_iff.1 hi2).1; have := HSP.out.1; omega
       obtain ⟨t', g2, o2, cs', ht', e0, hat, hst'⟩ := HLS.out.at_ stay_sp (Below.refl _ _) hin
       obtain rfl : t' = t := by have := ht'.symm.trans hi2; cases this; rfl
       have HE0 := Lib.hid e0
       obtain ⟨A', m', c', rfl, hlr, _⟩ := hst'
       have HA := Lib.hid (hat.kept hb.out)
       have HLR := Lib.hid hlr
       have hm' := hlr.len_le
       have HML := Lib.hid hlr.1
       have q5 : wx'.cell? ⟨g2, o2 + i * 6 + 5, none⟩ = some (.slice A' m' c') := (hat.kept hb.out).get (j := 5) rfl rfl
       clear hi1 hi2 hi3 hi4 ht' hat hlr hs e0
       have HSTx := Lib.hid (HST3.out.kept hb.out)
       go_wp2_with fail
       refine Text.wp_region_text (fun w' => w'.cell? ⟨b, 0, none⟩ = some (.slice (some ⟨g2, o2, none⟩) n0 c0) ∧ w'.cell? ⟨b, 7, none⟩ = some (.map (some m0)) ∧ MG Try.prog 9 usC (.int .i64 0) w' m0 (plG (condRun x st ids))) [(0, 4), (1, 4), (2, 4), (3, 4), (5, 4), (6, 4), (7, 4), (9, 4), (15, 4), (4, 0), (8, 0), (10, 0), (11, 4), (12, 4), (13, 1), (14, 4)] (by kernel_rfl) (by kernel_rfl) (fun _ _ _ _ _ h => h) (⟨(by rw [← HE0.out]; exact HSTx.out.blk.get (j := 0) rfl), HSTx.out.blk.get (j := 7) rfl, (HSTx.out.kept (Below.refl _ _).drew).maps.plG⟩) ?_
       iterate 9 (refine Text.purek rfl rfl (fun K hK => ⟨_, fun w' => by go_simp <;> rfl, ?_⟩); go_simp; refine hK _ ?_; clear hK K)
       iterate 2 (refine Text.heldk rfl rfl (fun K hK => ⟨_, fun w' hw' => by go_simp <;> rfl, ?_⟩); go_simp; refine hK _ ?_; clear hK K)
       refine Text.heldk rfl rfl (fun K hK => ?_)
       refine ⟨_, fun w' hw' => exec_lookG w' (.tmp 68) (.tmp 69) 77 9 3 rfl strKeyed mapSI (.int .i64 0) intZero m0 _ rfl hw'.2.2 s rfl HKS.out, ?_⟩
       rw [HPL.out]
       go_simp
       refine hK _ ?_
       clear hK K
       iterate 2 (refine Text.purek rfl rfl (fun K hK => ⟨_, fun w' => by go_simp <;> rfl, ?_⟩); go_simp; refine hK _ ?_; clear hK K)
       (refine Text.readk rfl rfl (fun K hK => ⟨_, by go_simp <;> rfl, ?_⟩); go_simp; refine hK _ ?_; clear hK K)
       (refine Text.purek rfl rfl (fun K hK => ⟨_, fun w' => by go_simp <;> rfl, ?_⟩); go_simp; refine hK _ ?_; clear hK K)
       refine Text.done ?_
       go_wp2_with fail
       clear q5
       go_loopw [75] (fun iv wr => ∃ j : Nat, j ≤ m' ∧ iv = .int .i64 (j : Int) ∧ Hid ((t'.refs.take j).all (needOk (condRun x st ids)) = true) ∧ Hid (Below wz.heap.size wz wr)) (fun iv _ => m' - (intOf iv).toNat)
       case atStart => exact ⟨0, by omega, rfl, Lib.hid rfl, Lib.hid hb.out.drew⟩
       case round =>
        obtain ⟨j, hj, rfl, hall2, hb2⟩ := hrel
        obtain ⟨wy, hwy⟩ : ∃ x, x = wr := ⟨_, rfl⟩
        rw [← hwy] at hb2 ⊢
        clear hwy
        by_cases hjm : j < m'
        ·
         obtain ⟨r, g', o', cs', hr', rfl, hat', rfl, hok⟩ := HLR.out.at_ stay_rf (Below.refl _ _) hjm
         have HA' := Lib.hid (hat'.kept hb2.out)
         have HKR := Lib.hid (keyS r.1 (reach_key hok.1))
         have HRO := Lib.hid hok.1
         have HR := Lib.hid hr'
         clear hr' hat' hok
         cases h2 : (condRun x st ids).need r.1 with
         | false =>
          have HF : Hid ((t'.refs.take (j + 1)).all (needOk (condRun x st ids)) = true) := Lib.hid (all_step HR.out hall2.out (by rw [needOk, h2]; rfl))
          go_wp2_with (first
           | ((with_reducible show OpW 78); refine wpList_loadv _ rfl 73 (.tmp 77) rfl 3 (by kernel_rfl) g' (o' + j * 3) (rfL r) (by go_simp) HA'.out rfl ?_)
           | ((with_reducible show OpW 12); refine wpList_alloc _ rfl 73 rfl rfZ rfZero ?_; intro w3 a1 a2 a3; have HV3 := Lib.hid a1; have HX3 := Lib.hid a2; clear a1 a2 a3)
           | ((with_reducible show OpN); refine wpList_storev _ rfl 73 (.tmp 12) (.tmp 78) rfl 3 (by kernel_rfl) wy.heap.size 0 _ rfZ (rfL r) rfl rfl HV3.out rfl (one_rf r) (by decide) ?_; intro w4 a1 a2 a3; have HV4 : Hid (BL w4 wy.heap.size 73 (rfL r)) := Lib.hid a1; have HX4 : Hid (Below wy.heap.size wy w4) := Lib.hid (((Kp.of_below (S := fun _ => False) HX3.out).after a2 (fun i hi e => by omega)).below (Nat.le_refl _) (fun _ h => h.elim)); clear a1 a2 a3; have r0 := HV4.out.get (j := 0) rfl; have q8 := (HST3.out.blk.kept (below_thenB hb2.out hb2.out.size HX4.out)).get (j := 8) rfl)
           | fail)
          refine Text.wp_region_text (fun _ => True) [(0, 4), (1, 4), (2, 4), (4, 4), (3, 1), (5, 1), (6, 2), (7, 4), (8, 4), (9, 4), (10, 4), (11, 4), (12, 4), (13, 4)] (by kernel_rfl) (by kernel_rfl) (fun _ _ _ _ _ h => h) (trivial) ?_
          iterate 4 (refine Text.purek rfl rfl (fun K hK => ⟨_, fun w' => by go_simp <;> rfl, ?_⟩); go_simp; refine hK _ ?_; clear hK K)
          iterate 2 (refine Text.readk rfl rfl (fun K hK => ⟨_, by go_simp <;> rfl, ?_⟩); go_simp; refine hK _ ?_; clear hK K)
          refine Text.eff rfl rfl (fun K hK => ?_)
          refine wp_lookG _ (.tmp 82) (.tmp 84) 78 9 4 rfl strKeyed mapSB (.bool false) boolZero m1 _ rfl ((HST3.out.kept (below_thenB hb2.out hb2.out.size HX4.out.drew)).maps.need) r.1 rfl HKR.out ?_
          rw [h2]
          go_simp
          refine hK _ _ trivial ?_
          clear hK K
          (refine Text.purek rfl rfl (fun K hK => ⟨_, fun w' => by go_simp <;> rfl, ?_⟩); go_simp; refine hK _ ?_; clear hK K)
          iterate 5 (refine Text.skipk (.inr (.inr rfl)) rfl rfl (fun K hK => ?_); go_simp; refine hK _ ?_; clear hK K)
          (refine Text.purek rfl rfl (fun K hK => ⟨_, fun w' => by go_simp <;> rfl, ?_⟩); go_simp; refine hK _ ?_; clear hK K)
          refine Text.done ?_
          go_wp2_with fail
          go_roundw
          case rel => exact ⟨j + 1, by omega, by go_num, HF, Lib.hid (below_thenB hb2.out hb2.out.size HX4.out.drew)⟩
          case measure => simp [intOf]; omega
         | true =>
          cases h3 : covT (condRun x st ids) r.1 with
          | true =>
           have HF : Hid ((t'.refs.take (j + 1)).all (needOk (condRun x st ids)) = true) := Lib.hid (all_step HR.out hall2.out (by rw [needOk, h2, h3]; rfl))
           go_wp2_with (first
            | ((with_reducible show OpW 78); refine wpList_loadv _ rfl 73 (.tmp 77) rfl 3 (by kernel_rfl) g' (o' + j * 3) (rfL r) (by go_simp) HA'.out rfl ?_)
            | ((with_reducible show OpW 12); refine wpList_alloc _ rfl 73 rfl rfZ rfZero ?_; intro w3 a1 a2 a3; have HV3 := Lib.hid a1; have HX3 := Lib.hid a2; clear a1 a2 a3)
            | ((with_reducible show OpN); refine wpList_storev _ rfl 73 (.tmp 12) (.tmp 78) rfl 3 (by kernel_rfl) wy.heap.size 0 _ rfZ (rfL r) rfl rfl HV3.out rfl (one_rf r) (by decide) ?_; intro w4 a1 a2 a3; have HV4 : Hid (BL w4 wy.heap.size 73 (rfL r)) := Lib.hid a1; have HX4 : Hid (Below wy.heap.size wy w4) := Lib.hid (((Kp.of_below (S := fun _ => False) HX3.out).after a2 (fun i hi e => by omega)).below (Nat.le_refl _) (fun _ h => h.elim)); clear a1 a2 a3; have r0 := HV4.out.get (j := 0) rfl; have q8 := (HST3.out.blk.kept (below_thenB hb2.out hb2.out.size HX4.out)).get (j := 8) rfl)
            | fail)
           refine Text.wp_region_text (fun _ => True) [(0, 4), (1, 4), (2, 4), (4, 4), (3, 1), (5, 1), (6, 2), (7, 4), (8, 4), (9, 4), (10, 1), (11, 2), (12, 4), (13, 4)] (by kernel_rfl) (by kernel_rfl) (fun _ _ _ _ _ h => h) (trivial) ?_
           iterate 4 (refine Text.purek rfl rfl (fun K hK => ⟨_, fun w' => by go_simp <;> rfl, ?_⟩); go_simp; refine hK _ ?_; clear hK K)
           iterate 2 (refine Text.readk rfl rfl (fun K hK => ⟨_, by go_simp <;> rfl, ?_⟩); go_simp; refine hK _ ?_; clear hK K)
           refine Text.eff rfl rfl (fun K hK => ?_)
           refine wp_lookG _ (.tmp 82) (.tmp 84) 78 9 4 rfl strKeyed mapSB (.bool false) boolZero m1 _ rfl ((HST3.out.kept (below_thenB hb2.out hb2.out.size HX4.out.drew)).maps.need) r.1 rfl HKR.out ?_
           rw [h2]
           go_simp
           refine hK _ _ trivial ?_
           clear hK K
           iterate 3 (refine Text.purek rfl rfl (fun K hK => ⟨_, fun w' => by go_simp <;> rfl, ?_⟩); go_simp; refine hK _ ?_; clear hK K)
           (refine Text.readk rfl rfl (fun K hK => ⟨_, by go_simp <;> rfl, ?_⟩); go_simp; refine hK _ ?_; clear hK K)
           refine Text.effw rfl rfl (fun K hK => ?_)
           go_simp
           refine (covered_st _ _ _ _ _ _ _ _ _ _ _ _ _ _ _ _ _ _ _ _ _ _ _ _ _ _ _ _ _ _ (HST3.out.kept (below_thenB hb2.out hb2.out.size HX4.out.drew)) r.1 HRO.out).mono ?_
           rintro e w5 ⟨rfl, hw⟩
           rw [hw, h3]
           clear hw w5
           refine hK _ _ trivial ?_
           clear hK K
           iterate 2 (refine Text.purek rfl rfl (fun K hK => ⟨_, fun w' => by go_simp <;> rfl, ?_⟩); go_simp; refine hK _ ?_; clear hK K)
           refine Text.done ?_
           go_wp2_with fail
           go_roundw
           case rel => exact ⟨j + 1, by omega, by go_num, HF, Lib.hid (below_thenB hb2.out hb2.out.size HX4.out.drew)⟩
           case measure => simp [intOf]; omega
          | false =>
           have HF : Hid (condB x st ids = false) := Lib.hid (by
            rw [condB, HAL.out, condOk]
            exact all_miss HX.out (by rw [HRF.out]; exact all_miss HR.out (by rw [needOk, h2, h3]; rfl)))
           go_wp2_with (first
            | ((with_reducible show OpW 78); refine wpList_loadv _ rfl 73 (.tmp 77) rfl 3 (by kernel_rfl) g' (o' + j * 3) (rfL r) (by go_simp) HA'.out rfl ?_)
            | ((with_reducible show OpW 12); refine wpList_alloc _ rfl 73 rfl rfZ rfZero ?_; intro w3 a1 a2 a3; have HV3 := Lib.hid a1; have HX3 := Lib.hid a2; clear a1 a2 a3)
            | ((with_reducible show OpN); refine wpList_storev _ rfl 73 (.tmp 12) (.tmp 78) rfl 3 (by kernel_rfl) wy.heap.size 0 _ rfZ (rfL r) rfl rfl HV3.out rfl (one_rf r) (by decide) ?_; intro w4 a1 a2 a3; have HV4 : Hid (BL w4 wy.heap.size 73 (rfL r)) := Lib.hid a1; have HX4 : Hid (Below wy.heap.size wy w4) := Lib.hid (((Kp.of_below (S := fun _ => False) HX3.out).after a2 (fun i hi e => by omega)).below (Nat.le_refl _) (fun _ h => h.elim)); clear a1 a2 a3; have r0 := HV4.out.get (j := 0) rfl; have q8 := (HST3.out.blk.kept (below_thenB hb2.out hb2.out.size HX4.out)).get (j := 8) rfl)
            | fail)
           refine Text.wp_region_text (fun _ => True) [(0, 4), (1, 4), (2, 4), (4, 4), (3, 1), (5, 1), (6, 2), (7, 4), (8, 4), (9, 4), (10, 1), (11, 2), (12, 4), (13, 4)] (by kernel_rfl) (by kernel_rfl) (fun _ _ _ _ _ h => h) (trivial) ?_
           iterate 4 (refine Text.purek rfl rfl (fun K hK => ⟨_, fun w' => by go_simp <;> rfl, ?_⟩); go_simp; refine hK _ ?_; clear hK K)
           iterate 2 (refine Text.readk rfl rfl (fun K hK => ⟨_, by go_simp <;> rfl, ?_⟩); go_simp; refine hK _ ?_; clear hK K)
           refine Text.eff rfl rfl (fun K hK => ?_)
           refine wp_lookG _ (.tmp 82) (.tmp 84) 78 9 4 rfl strKeyed mapSB (.bool false) boolZero m1 _ rfl ((HST3.out.kept (below_thenB hb2.out hb2.out.size HX4.out.drew)).maps.need) r.1 rfl HKR.out ?_
           rw [h2]
           go_simp
           refine hK _ _ trivial ?_
           clear hK K
           iterate 3 (refine Text.purek rfl rfl (fun K hK => ⟨_, fun w' => by go_simp <;> rfl, ?_⟩); go_simp; refine hK _ ?_; clear hK K)
           (refine Text.readk rfl rfl (fun K hK => ⟨_, by go_simp <;> rfl, ?_⟩); go_simp; refine hK _ ?_; clear hK K)
           refine Text.effw rfl rfl (fun K hK => ?_)
           go_simp
           refine (covered_st _ _ _ _ _ _ _ _ _ _ _ _ _ _ _ _ _ _ _ _ _ _ _ _ _ _ _ _ _ _ (HST3.out.kept (below_thenB hb2.out hb2.out.size HX4.out.drew)) r.1 HRO.out).mono ?_
           rintro e w5 ⟨rfl, hw⟩
           rw [hw, h3]
           clear hw w5
           refine hK _ _ trivial ?_
           clear hK K
           iterate 2 (refine Text.purek rfl rfl (fun K hK => ⟨_, fun w' => by go_simp <;> rfl, ?_⟩); go_simp; refine hK _ ?_; clear hK K)
           refine Text.done ?_
           go_wp2_with fail
           go_ret
           exact ⟨ret_bool HF.out.symm, HB2.out.then (below_thenB hb2.out hb2.out.size HX4.out.drew), fun e => by rw [HF.out] at e; cases e⟩
        ·
         obtain rfl : j = m' := by omega
         have HF : Hid ((ids.take (k + 1)).all (fun id => (refsAt x (condRun x st ids) id).all (needOk (condRun x st ids))) = true) := Lib.hid (all_step HX.out hall.out (by rw [HRF.out]; have := hall2.out; rw [take_end HML.out] at this; exact this))
         go_wp2_with fail
         go_roundw
         case rel => exact ⟨k + 1, by omega, by go_num, HF, hb2⟩
         case measure => simp [intOf]; omega
      ·
       obtain rfl : k = m := by omega
       have HF : Hid (condB x st ids = true) := Lib.hid (by
        have := hall.out
        rw [take_end HL.out] at this
        rw [condB, HAL.out, condOk, this]; rfl)
       go_wp2_with fail
       go_ret
       exact ⟨ret_bool HF.out.symm, HB2.out.then hb.out, fun _ => HST3.out.kept hb.out⟩
end Go.Proofs.Ytboglaokdgnpaaa
/- The situation's take. -/
namespace Go.Proofs.Ytboglaokdgnpaaa
open Go Go.RowKit Go.MapKept Gf Sha
open Go.Maps (Keyed)

section
variable {κ : Type} {P : Program} (w : World) {o : Oper} {a : Act} {Q : Exit → Act → World → Prop} {enc : κ → Value} {K' : Act → World → Prop} [DecidableEq κ]
theorem wp_delG (hinj : ∀ x y, enc x = enc y → x = y) (m x : Operand) (t k e : TypeId) (hop : o.op = .call { callee := .builtin .delete, args := #[m, x], argTypes := #[t, k] }) (K : Keyed P k) (ht : P.underlying t = some (.map k e)) (z : Value)
  (b : Nat) (g : κ → Value) (hm : a.eval m = .map (some b)) (hb : MG P k enc z w b g) (xv : κ) (hx : a.eval x = enc xv) (hk : ∃ lx, keyOf P k (enc xv) = some lx)
  (h : ∀ w', MG P k enc z w' b (fun y => if y = xv then z else g y) → Kp (· = b) w w' → w'.heap.size = w.heap.size → K' (a.put o.dst (.tuple #[])) w') : o.wp P a w K' Q := by
 obtain ⟨f, ⟨L, h1, h2, h3⟩, h4⟩ := hb
 obtain ⟨lx, hlx⟩ := hk
 obtain ⟨w', L', hs, hr, h5, h6, h7⟩ := h1.drop K ht hlx o.type
 unfold Oper.wp execOp
 simp [hop, resolve, invoke, builtin, hm, hx, hr, Result.andThen]
 obtain ⟨r1, r2⟩ := mf_dropped hinj h1.nodup h2 h3 hs
 refine h w' ⟨_, ⟨L', h5, r1, r2⟩, fun y => ?_⟩ h6 h7
 by_cases hy : y = xv
 ·
  simp [hy]
 ·
  simp only [if_neg hy]; exact h4 y
end
theorem At.mid {w : World} {g : Nat} {a b c d e : Value} (h : At w g 0 [a, b, c, d, e]) : At w g 2 [c, d] := fun j v hj => by
 match j, hj with
 | 0, hj => exact h.get (j := 2) (by simpa using hj) rfl
 | 1, hj => exact h.get (j := 3) (by simpa using hj) rfl
 | j + 2, hj => simp at hj
abbrev stC2 (s : Stp) (B0 : Option Addr) (p0 d0 : Nat) (B1 : Option Addr) (p1 d1 : Nat) : List Value := [.int .i64 s.kind, .slice B0 p0 d0, .string (strB s.pc.1), .int .i64 s.pc.2, .slice B1 p1 d1]
theorem all_end {α : Type} {p : α → Bool} {l : List α} {n : Nat} (hl : l.length = n) (h : (l.take n).all p = true) : l.all p = true := by rw [take_end hl] at h; exact h
set_option maxRecDepth 100000 in
set_option maxHeartbeats 4000000 in
theorem take_any (w : World) (b : Nat) (m0 m1 m2 m3 m4 m5 m6 m7 : Nat) (a0 : Option Addr) (n0 c0 : Nat) (a1 : Option Addr) (n1 c1 : Nat) (a2 : Option Addr) (n2 c2 : Nat) (a3 : Option Addr) (n3 c3 : Nat) (a4 : Option Addr) (n4 c4 : Nat) (a5 : Option Addr) (n5 c5 : Nat) (x : Si) (st : St) (h : StM w b m0 m1 m2 m3 m4 m5 m6 m7 a0 n0 c0 a1 n1 c1 a2 n2 c2 a3 n3 c3 a4 n4 c4 a5 n5 c5 x.pct st) (hsp : LS rSp 6 72 w a0 n0 c0 x.sp) (hv : siB x = true) (hbig : x.sp.length ≤ 1000) (hi : Inv x st) (s : Stp) (cs : List Value) (hs : rStp w cs s) :
  Calls Try.prog 71 #[.pointer (some ⟨b, 0, none⟩), .agg cs.toArray] w fun e w' => e = .returned (.bool (takeB x st s)) ∧ KM m0 m1 m2 m3 m4 m5 m6 m7 w w' ∧ (takeB x st s = true → StM w' b m0 m1 m2 m3 m4 m5 m6 m7 a0 n0 c0 a1 n1 c1 a2 n2 c2 a3 n3 c3 a4 n4 c4 a5 n5 c5 x.pct (takeS x st s)) := by
 obtain ⟨B0, p0, d0, B1, p1, d1, rfl, hl0, hl1, hkd, hpc⟩ := hs
 have hp0 := hl0.len_le
 have hp1 := hl1.len_le
 have HST := Lib.hid h
 have HSP := Lib.hid hsp
 have HV := Lib.hid hv
 have HBG := Lib.hid hbig
 have HI := Lib.hid hi
 have HL0 := Lib.hid hl0
 have HL1 := Lib.hid hl1
 have HN0 := Lib.hid hl0.1
 have HN1 := Lib.hid hl1.1
 have HKP := Lib.hid (keyP s.pc hpc)
 have HKI := Lib.hid (keyS s.pc.1 (reach_key hpc.1))
 clear h hsp hv hbig hi hl0 hl1 hkd hpc
 by_cases h3 : s.kind = 3
 ·
  have e3 : (s.kind == 3) = true := by simp [h3]
  have HTB : Hid (takeB x st s = (st.held s.pc && st.drop s.pc.1)) := Lib.hid (by rw [takeB, if_pos h3])
  have HTS : Hid (takeS x st s = delHeld st s.pc) := Lib.hid (by rw [takeS, if_pos h3])
  clear h3
  cases h1 : st.held s.pc with
  | false =>
   have HR : Hid (takeB x st s = false) := Lib.hid (by rw [HTB.out, h1]; rfl)
   go_enter Try.func71, Try.ntmps71
   go_wp2_with (first
    | ((with_reducible show OpW 3); refine wpList_box _ rfl 44 (.tmp 1) rfl (stC2 s B0 p0 d0 B1 p1 d1) rfl ?_; intro w1 a1 a2 a3; have HB1 := Lib.hid a2; have HT1 := Lib.hid a1; have HST1 := Lib.hid (HST.out.kept a2); have r0 := a1.get (j := 0) rfl; have r1 := a1.get (j := 1) rfl; have r2 := a1.get (j := 2) rfl; have r4 := a1.get (j := 4) rfl; have q12 := (HST.out.blk.kept a2).get (j := 12) rfl; have q10 := (HST.out.blk.kept a2).get (j := 10) rfl; clear a1 a2 a3))
   refine Text.wp_region_text (fun w' => At w' w.heap.size 2 (pcL s.pc)) [(0, 4), (1, 4), (2, 4), (4, 4), (5, 0), (3, 1), (6, 2), (7, 4), (8, 4), (9, 4), (10, 4), (11, 4), (12, 4), (13, 4), (14, 4), (15, 4), (16, 4), (17, 4), (18, 4)] (by kernel_rfl) (by kernel_rfl) (fun _ _ _ _ _ h => h) (HT1.out.all.mid) ?_
   iterate 4 (refine Text.purek rfl rfl (fun K hK => ⟨_, fun w' => by go_simp <;> rfl, ?_⟩); go_simp; refine hK _ ?_; clear hK K)
   refine Text.heldk rfl rfl (fun K hK => ?_)
   refine ⟨_, fun w' hw' => exec_loadv 39 (.tmp 21) rfl 2 (by kernel_rfl) w.heap.size 2 (pcL s.pc) (by go_simp) hw' rfl, ?_⟩
   go_simp
   refine hK _ ?_
   clear hK K
   (refine Text.readk rfl rfl (fun K hK => ⟨_, by go_simp <;> rfl, ?_⟩); go_simp; refine hK _ ?_; clear hK K)
   refine Text.eff rfl rfl (fun K hK => ?_)
   refine wp_lookG _ (.tmp 20) (.tmp 22) 79 39 4 rfl pidKeyed mapPB (.bool false) boolZero m5 _ rfl (HST1.out.kept (Below.refl _ _).drew).maps.held s.pc rfl HKP.out ?_
   rw [h1]
   go_simp
   refine hK _ _ (HT1.out.kept (Below.refl _ _).drew).all.mid ?_
   clear hK K
   iterate 2 (refine Text.purek rfl rfl (fun K hK => ⟨_, fun w' => by go_simp <;> rfl, ?_⟩); go_simp; refine hK _ ?_; clear hK K)
   iterate 9 (refine Text.skipk (.inr (.inr rfl)) rfl rfl (fun K hK => ?_); go_simp; refine hK _ ?_; clear hK K)
   (refine Text.purek rfl rfl (fun K hK => ⟨_, fun w' => by go_simp <;> rfl, ?_⟩); go_simp; refine hK _ ?_; clear hK K)
   refine Text.done ?_
   go_wp2_with fail
   go_ret
   exact ⟨ret_bool HR.out.symm, KM.of_below HB1.out.drew, fun e => by rw [HR.out] at e; cases e⟩
  | true =>
   cases h2 : st.drop s.pc.1 with
   | false =>
    have HR : Hid (takeB x st s = false) := Lib.hid (by rw [HTB.out, h1, h2]; rfl)
    go_enter Try.func71, Try.ntmps71
    go_wp2_with (first
     | ((with_reducible show OpW 3); refine wpList_box _ rfl 44 (.tmp 1) rfl (stC2 s B0 p0 d0 B1 p1 d1) rfl ?_; intro w1 a1 a2 a3; have HB1 := Lib.hid a2; have HT1 := Lib.hid a1; have HST1 := Lib.hid (HST.out.kept a2); have r0 := a1.get (j := 0) rfl; have r1 := a1.get (j := 1) rfl; have r2 := a1.get (j := 2) rfl; have r4 := a1.get (j := 4) rfl; have q12 := (HST.out.blk.kept a2).get (j := 12) rfl; have q10 := (HST.out.blk.kept a2).get (j := 10) rfl; clear a1 a2 a3))
    refine Text.wp_region_text (fun w' => At w' w.heap.size 2 (pcL s.pc)) [(0, 4), (1, 4), (2, 4), (4, 4), (5, 0), (3, 1), (6, 2), (7, 4), (8, 4), (9, 4), (10, 4), (11, 4), (13, 4), (14, 4), (12, 1), (15, 1), (16, 2), (17, 4), (18, 4)] (by kernel_rfl) (by kernel_rfl) (fun _ _ _ _ _ h => h) (HT1.out.all.mid) ?_
    iterate 4 (refine Text.purek rfl rfl (fun K hK => ⟨_, fun w' => by go_simp <;> rfl, ?_⟩); go_simp; refine hK _ ?_; clear hK K)
    refine Text.heldk rfl rfl (fun K hK => ?_)
    refine ⟨_, fun w' hw' => exec_loadv 39 (.tmp 21) rfl 2 (by kernel_rfl) w.heap.size 2 (pcL s.pc) (by go_simp) hw' rfl, ?_⟩
    go_simp
    refine hK _ ?_
    clear hK K
    (refine Text.readk rfl rfl (fun K hK => ⟨_, by go_simp <;> rfl, ?_⟩); go_simp; refine hK _ ?_; clear hK K)
    refine Text.eff rfl rfl (fun K hK => ?_)
    refine wp_lookG _ (.tmp 20) (.tmp 22) 79 39 4 rfl pidKeyed mapPB (.bool false) boolZero m5 _ rfl (HST1.out.kept (Below.refl _ _).drew).maps.held s.pc rfl HKP.out ?_
    rw [h1]
    go_simp
    refine hK _ _ (HT1.out.kept (Below.refl _ _).drew).all.mid ?_
    clear hK K
    iterate 7 (refine Text.purek rfl rfl (fun K hK => ⟨_, fun w' => by go_simp <;> rfl, ?_⟩); go_simp; refine hK _ ?_; clear hK K)
    iterate 2 (refine Text.readk rfl rfl (fun K hK => ⟨_, by go_simp <;> rfl, ?_⟩); go_simp; refine hK _ ?_; clear hK K)
    refine Text.effw rfl rfl (fun K hK => ?_)
    refine wp_lookG _ (.tmp 29) (.tmp 32) 78 9 4 rfl strKeyed mapSB (.bool false) boolZero m3 _ rfl (HST1.out.kept (Below.refl _ _).drew).maps.drop s.pc.1 rfl HKI.out ?_
    rw [h2]
    go_simp
    refine hK _ _ (HT1.out.kept (Below.refl _ _).drew).all.mid ?_
    clear hK K
    iterate 2 (refine Text.purek rfl rfl (fun K hK => ⟨_, fun w' => by go_simp <;> rfl, ?_⟩); go_simp; refine hK _ ?_; clear hK K)
    refine Text.done ?_
    go_wp2_with fail
    go_ret
    exact ⟨ret_bool HR.out.symm, KM.of_below HB1.out.drew, fun e => by rw [HR.out] at e; cases e⟩
   | true =>
    have HR : Hid (takeB x st s = true) := Lib.hid (by rw [HTB.out, h1, h2]; rfl)
    go_enter Try.func71, Try.ntmps71
    go_wp2_with (first
     | ((with_reducible show OpW 3); refine wpList_box _ rfl 44 (.tmp 1) rfl (stC2 s B0 p0 d0 B1 p1 d1) rfl ?_; intro w1 a1 a2 a3; have HB1 := Lib.hid a2; have HT1 := Lib.hid a1; have HST1 := Lib.hid (HST.out.kept a2); have r0 := a1.get (j := 0) rfl; have r1 := a1.get (j := 1) rfl; have r2 := a1.get (j := 2) rfl; have r4 := a1.get (j := 4) rfl; have q12 := (HST.out.blk.kept a2).get (j := 12) rfl; have q10 := (HST.out.blk.kept a2).get (j := 10) rfl; clear a1 a2 a3))
    refine Text.wp_region_text (fun w' => At w' w.heap.size 2 (pcL s.pc)) [(0, 4), (1, 4), (2, 4), (4, 4), (5, 0), (3, 1), (6, 2), (7, 4), (8, 4), (9, 4), (10, 4), (11, 4), (13, 4), (14, 4), (12, 1), (15, 1), (16, 2), (17, 4), (18, 4)] (by kernel_rfl) (by kernel_rfl) (fun _ _ _ _ _ h => h) (HT1.out.all.mid) ?_
    iterate 4 (refine Text.purek rfl rfl (fun K hK => ⟨_, fun w' => by go_simp <;> rfl, ?_⟩); go_simp; refine hK _ ?_; clear hK K)
    refine Text.heldk rfl rfl (fun K hK => ?_)
    refine ⟨_, fun w' hw' => exec_loadv 39 (.tmp 21) rfl 2 (by kernel_rfl) w.heap.size 2 (pcL s.pc) (by go_simp) hw' rfl, ?_⟩
    go_simp
    refine hK _ ?_
    clear hK K
    (refine Text.readk rfl rfl (fun K hK => ⟨_, by go_simp <;> rfl, ?_⟩); go_simp; refine hK _ ?_; clear hK K)
    refine Text.eff rfl rfl (fun K hK => ?_)
    refine wp_lookG _ (.tmp 20) (.tmp 22) 79 39 4 rfl pidKeyed mapPB (.bool false) boolZero m5 _ rfl (HST1.out.kept (Below.refl _ _).drew).maps.held s.pc rfl HKP.out ?_
    rw [h1]
    go_simp
    refine hK _ _ (HT1.out.kept (Below.refl _ _).drew).all.mid ?_
    clear hK K
    iterate 7 (refine Text.purek rfl rfl (fun K hK => ⟨_, fun w' => by go_simp <;> rfl, ?_⟩); go_simp; refine hK _ ?_; clear hK K)
    iterate 2 (refine Text.readk rfl rfl (fun K hK => ⟨_, by go_simp <;> rfl, ?_⟩); go_simp; refine hK _ ?_; clear hK K)
    refine Text.effw rfl rfl (fun K hK => ?_)
    refine wp_lookG _ (.tmp 29) (.tmp 32) 78 9 4 rfl strKeyed mapSB (.bool false) boolZero m3 _ rfl (HST1.out.kept (Below.refl _ _).drew).maps.drop s.pc.1 rfl HKI.out ?_
    rw [h2]
    go_simp
    refine hK _ _ (HT1.out.kept (Below.refl _ _).drew).all.mid ?_
    clear hK K
    iterate 2 (refine Text.purek rfl rfl (fun K hK => ⟨_, fun w' => by go_simp <;> rfl, ?_⟩); go_simp; refine hK _ ?_; clear hK K)
    refine Text.done ?_
    go_wp2_with fail
    refine Text.wp_region_text (fun w' => At w' w.heap.size 2 (pcL s.pc)) [(0, 4), (1, 4), (2, 4), (4, 4), (5, 0), (3, 1), (6, 2)] (by kernel_rfl) (by kernel_rfl) (fun _ _ _ _ _ h => h) ((HT1.out.kept (Below.refl _ _).drew).all.mid) ?_
    iterate 4 (refine Text.purek rfl rfl (fun K hK => ⟨_, fun w' => by go_simp <;> rfl, ?_⟩); go_simp; refine hK _ ?_; clear hK K)
    refine Text.heldk rfl rfl (fun K hK => ?_)
    refine ⟨_, fun w' hw' => exec_loadv 39 (.tmp 40) rfl 2 (by kernel_rfl) w.heap.size 2 (pcL s.pc) (by go_simp) hw' rfl, ?_⟩
    go_simp
    refine hK _ ?_
    clear hK K
    (refine Text.readk rfl rfl (fun K hK => ⟨_, by go_simp <;> rfl, ?_⟩); go_simp; refine hK _ ?_; clear hK K)
    refine Text.eff rfl rfl (fun K hK => ?_)
    refine wp_delG _ pcV_inj (.tmp 39) (.tmp 41) 79 39 4 rfl pidKeyed mapPB (.bool false) m5 _ rfl ((HST1.out.kept (Below.refl _ _).drew).kept (Below.refl _ _).drew).maps.held s.pc rfl HKP.out ?_
    intro w5 b1 b2 b3
    have HM5 : Hid (Maps8 w5 m0 m1 m2 m3 m4 m5 m6 m7 (delHeld st s.pc)) := Lib.hid (((HST1.out.kept (Below.refl _ _).drew).kept (Below.refl _ _).drew).maps.setHeld b2 (b1.to (fun y => by by_cases h : y = s.pc <;> simp [h])))
    have HK5 : Hid (KM m0 m1 m2 m3 m4 m5 m6 m7 w w5) := Lib.hid ((KM.of_below HB1.out.drew.drew).trans (b2.mono (fun i _ e => by subst e; simp)))
    have HT5 : Hid (BL w5 w.heap.size 44 (stC2 s B0 p0 d0 B1 p1 d1)) := Lib.hid ((KM.mp ((KM.of_below (Below.refl _ _).drew.drew).trans (b2.mono (fun i _ e => by subst e; simp))) HST1.out.maps).bl HT1.out)
    clear b1 b2 b3
    refine hK _ _ HT5.out.all.mid ?_
    clear hK K
    refine Text.done ?_
    go_wp2_with fail
    go_ret
    exact ⟨ret_bool HR.out.symm, HK5.out, fun _ => by rw [HTS.out]; exact ⟨(HK5.out.mp HST.out.maps).bl HST.out.blk, HM5.out⟩⟩
 have e3 : (s.kind == 3) = false := by simp [h3]
 by_cases h4 : s.kind = 4
 ·
  have e4 : (s.kind == 4) = true := by simp [h4]
  have HTB : Hid (takeB x st s = s.sts.all (fgOk st)) := Lib.hid (by rw [takeB, if_neg h3, if_pos h4])
  have HTS : Hid (takeS x st s = s.sts.foldl forgetStep st) := Lib.hid (by rw [takeS, if_neg h3, if_pos h4])
  clear h3 h4
  go_enter Try.func71, Try.ntmps71
  go_wp2_with (first
   | ((with_reducible show OpW 3); refine wpList_box _ rfl 44 (.tmp 1) rfl (stC2 s B0 p0 d0 B1 p1 d1) rfl ?_; intro w1 a1 a2 a3; have HB1 := Lib.hid a2; have HT1 := Lib.hid a1; have HST1 := Lib.hid (HST.out.kept a2); have r0 := a1.get (j := 0) rfl; have r1 := a1.get (j := 1) rfl; have r2 := a1.get (j := 2) rfl; have r4 := a1.get (j := 4) rfl; have q12 := (HST.out.blk.kept a2).get (j := 12) rfl; have q10 := (HST.out.blk.kept a2).get (j := 10) rfl; clear a1 a2 a3))
  go_loopw [47] (fun iv wr => ∃ k : Nat, k ≤ p0 ∧ iv = .int .i64 (k : Int) ∧ Hid ((s.sts.take k).all (fgOk st) = true) ∧ Hid (Below w1.heap.size w1 wr)) (fun iv _ => p0 - (intOf iv).toNat)
  case atStart => exact ⟨0, by omega, rfl, Lib.hid rfl, Lib.hid (Below.refl _ _)⟩
  case round =>
   obtain ⟨k, hk, rfl, hall, hb⟩ := hrel
   obtain ⟨wx, hwx⟩ : ∃ x, x = wr := ⟨_, rfl⟩
   rw [← hwx] at hb ⊢
   clear hwx
   have HBx := Lib.hid (below_thenB HB1.out HB1.out.size hb.out)
   by_cases hlt : k < p0
   ·
    obtain ⟨id, g, o, hs, e0, p1⟩ := HL0.out.str_at HBx.out hlt
    subst e0
    have HKS := Lib.hid (keyS id (reach_key (HL0.out.str_ok hs)))
    have HX := Lib.hid hs
    have q7 := (HST1.out.blk.kept hb.out).get (j := 7) rfl
    have q10 := (HST1.out.blk.kept hb.out).get (j := 10) rfl
    clear hs
    cases h1 : st.pl id with
    | none =>
     have HR : Hid (takeB x st s = false) := Lib.hid (by rw [HTB.out]; exact all_miss HX.out (by rw [fgOk, h1]; rfl))
     go_wp2_with (first
      | ((with_reducible show OpW 57); refine wpList_lookokFv _ rfl (.tmp 55) (.tmp 56) 77 9 3 rfl strKeyed mapSI (.int .i64 0) intZero m0 _ rfl (HST1.out.kept hb.out).maps.pl id rfl HKS.out (.int .i64 0) false (by rw [h1]; rfl) (by rw [h1]; rfl) ?_)
      | ((with_reducible show OpW 68); refine wpList_lookGgv _ rfl (.tmp 66) (.tmp 67) 78 9 4 rfl strKeyed mapSB (.bool false) boolZero m3 _ rfl (HST1.out.kept hb.out).maps.drop id rfl HKS.out _ rfl ?_))
     go_ret
     exact ⟨ret_bool HR.out.symm, KM.of_below HBx.out, fun e => by rw [HR.out] at e; cases e⟩
    | some i =>
     cases h2 : st.drop id with
     | false =>
      have HR : Hid (takeB x st s = false) := Lib.hid (by rw [HTB.out]; exact all_miss HX.out (by rw [fgOk, h1, h2]; rfl))
      go_wp2_with (first
       | ((with_reducible show OpW 57); refine wpList_lookokFv _ rfl (.tmp 55) (.tmp 56) 77 9 3 rfl strKeyed mapSI (.int .i64 0) intZero m0 _ rfl (HST1.out.kept hb.out).maps.pl id rfl HKS.out (.int .i64 (i : Int)) true (by rw [h1]; rfl) (by rw [h1]; rfl) ?_)
       | ((with_reducible show OpW 68); refine wpList_lookGgv _ rfl (.tmp 66) (.tmp 67) 78 9 4 rfl strKeyed mapSB (.bool false) boolZero m3 _ rfl (HST1.out.kept hb.out).maps.drop id rfl HKS.out _ (by rw [h2]) ?_))
      go_ret
      exact ⟨ret_bool HR.out.symm, KM.of_below HBx.out, fun e => by rw [HR.out] at e; cases e⟩
     | true =>
      have HF : Hid ((s.sts.take (k + 1)).all (fgOk st) = true) := Lib.hid (all_step HX.out hall.out (by rw [fgOk, h1, h2]; rfl))
      go_wp2_with (first
       | ((with_reducible show OpW 57); refine wpList_lookokFv _ rfl (.tmp 55) (.tmp 56) 77 9 3 rfl strKeyed mapSI (.int .i64 0) intZero m0 _ rfl (HST1.out.kept hb.out).maps.pl id rfl HKS.out (.int .i64 (i : Int)) true (by rw [h1]; rfl) (by rw [h1]; rfl) ?_)
       | ((with_reducible show OpW 68); refine wpList_lookGgv _ rfl (.tmp 66) (.tmp 67) 78 9 4 rfl strKeyed mapSB (.bool false) boolZero m3 _ rfl (HST1.out.kept hb.out).maps.drop id rfl HKS.out _ (by rw [h2]) ?_))
      go_roundw
      case rel => exact ⟨k + 1, by omega, by go_num, HF, hb⟩
      case measure => simp [intOf]; omega
   ·
    obtain rfl : k = p0 := by omega
    have HR : Hid (takeB x st s = true) := Lib.hid (by rw [HTB.out]; exact all_end HN0.out hall.out)
    have HST2 := Lib.hid (HST1.out.kept hb.out)
    have r1 := (HT1.out.kept hb.out).get (j := 1) rfl
    clear hall
    go_wp2_with fail
    clear r1
    go_loopw [75] (fun iv wr => ∃ j : Nat, j ≤ k ∧ iv = .int .i64 (j : Int) ∧ Hid (Maps8 wr m0 m1 m2 m3 m4 m5 m6 m7 ((s.sts.take j).foldl forgetStep st)) ∧ Hid (KM m0 m1 m2 m3 m4 m5 m6 m7 w wr)) (fun iv _ => k - (intOf iv).toNat)
    case atStart => exact ⟨0, by omega, rfl, Lib.hid HST2.out.maps, Lib.hid (KM.of_below HBx.out)⟩
    case round =>
     obtain ⟨j, hj, rfl, hmp, hkm⟩ := hrel
     obtain ⟨wy, hwy⟩ : ∃ x, x = wr := ⟨_, rfl⟩
     rw [← hwy] at hmp hkm ⊢
     clear hwy
     have HP : Hid (Mp w wy) := Lib.hid (hkm.out.mp HST.out.maps)
     by_cases hjk : j < k
     ·
      obtain ⟨id, g, o, hs, e0, p1⟩ := (HL0.out.mp staym_str HP.out).str_at (Below.refl _ _) hjk
      have HKS := Lib.hid (keyS id (reach_key (HL0.out.str_ok hs)))
      have HTK : Hid ((s.sts.take (j + 1)).foldl forgetStep st = forgetStep ((s.sts.take j).foldl forgetStep st) id) := Lib.hid (by rw [take_next hs, List.foldl_append]; rfl)
      have HB := Lib.hid (HP.out.bl HST.out.blk)
      subst e0
      have q7 := (HP.out.bl HST.out.blk).get (j := 7) rfl
      clear hs
      obtain ⟨s2, hs2⟩ : ∃ s2, s2 = (s.sts.take j).foldl forgetStep st := ⟨_, rfl⟩
      rw [← hs2] at hmp HTK
      clear hs2
      go_wp2_with (first
       | ((with_reducible show OpN); refine wpList_delF _ (fun x y h => usC_inj h) rfl (.tmp 82) (.tmp 83) 77 9 3 rfl strKeyed mapSI m0 _ rfl hmp.out.pl id rfl HKS.out ?_; intro w5 b1 b2 b3; have HM5 : Hid (Maps8 w5 m0 m1 m2 m3 m4 m5 m6 m7 { s2 with pl := fun y => if y = id then none else s2.pl y }) := Lib.hid (hmp.out.setPl b2 (b1.to (fun y => by by_cases h : y = id <;> simp [h]))); have HK5 : Hid (KM m0 m1 m2 m3 m4 m5 m6 m7 wy w5) := Lib.hid (b2.mono (fun i _ e => by subst e; simp)); have q9 := ((HK5.out.mp hmp.out).bl HB.out).get (j := 9) rfl; clear b1 b2 b3)
       | ((with_reducible show OpN); refine wpList_delG _ (fun x y h => usC_inj h) rfl (.tmp 87) (.tmp 88) 78 9 4 rfl strKeyed mapSB (.bool false) m2 _ rfl HM5.out.cond id rfl HKS.out ?_; intro w6 b1 b2 b3; have HM6 : Hid (Maps8 w6 m0 m1 m2 m3 m4 m5 m6 m7 { s2 with pl := fun y => if y = id then none else s2.pl y, cond := fun y => if y = id then false else s2.cond y }) := Lib.hid (HM5.out.setCond b2 (b1.to (fun y => by by_cases h : y = id <;> simp [h]))); have HK6 : Hid (KM m0 m1 m2 m3 m4 m5 m6 m7 wy w6) := Lib.hid (HK5.out.trans (b2.mono (fun i _ e => by subst e; simp))); have q11 := ((HK6.out.mp hmp.out).bl HB.out).get (j := 11) rfl; clear b1 b2 b3)
       | ((with_reducible show OpN); refine wpList_delG _ (fun x y h => usC_inj h) rfl (.tmp 92) (.tmp 93) 78 9 4 rfl strKeyed mapSB (.bool false) m4 _ rfl HM6.out.carr id rfl HKS.out ?_; intro w7 b1 b2 b3; have HM7 : Hid (Maps8 w7 m0 m1 m2 m3 m4 m5 m6 m7 (forgetStep s2 id)) := Lib.hid (HM6.out.setCarr b2 (b1.to (fun y => by by_cases h : y = id <;> simp [h]))); have HK7 : Hid (KM m0 m1 m2 m3 m4 m5 m6 m7 wy w7) := Lib.hid (HK6.out.trans (b2.mono (fun i _ e => by subst e; simp))); clear b1 b2 b3))
      go_roundw
      case rel => exact ⟨j + 1, by omega, by go_num, Lib.hid (by rw [HTK.out]; exact HM7.out), Lib.hid (hkm.out.trans HK7.out)⟩
      case measure => simp [intOf]; omega
     ·
      obtain rfl : j = k := by omega
      go_wp2_with fail
      go_ret
      exact ⟨ret_bool HR.out.symm, hkm.out, fun _ => by
       rw [HTS.out]
       have h9 := hmp.out
       rw [take_end HN0.out] at h9
       exact ⟨HP.out.bl HST.out.blk, h9⟩⟩
 have e4 : (s.kind == 4) = false := by simp [h4]
 by_cases h1 : s.kind = 1
 ·
  have e1 : (s.kind == 1) = true := by simp [h1]
  have HTB : Hid (takeB x st s = s.refs.all fun r => decide (0 < st.ref r)) := Lib.hid (by rw [takeB, if_neg h3, if_neg h4, if_pos h1])
  have HTS : Hid (takeS x st s = st) := Lib.hid (by rw [takeS, if_neg h3, if_neg h4, if_pos h1])
  clear h3 h4 h1
  go_enter Try.func71, Try.ntmps71
  go_wp2_with (first
   | ((with_reducible show OpW 3); refine wpList_box _ rfl 44 (.tmp 1) rfl (stC2 s B0 p0 d0 B1 p1 d1) rfl ?_; intro w1 a1 a2 a3; have HB1 := Lib.hid a2; have HT1 := Lib.hid a1; have HST1 := Lib.hid (HST.out.kept a2); have r0 := a1.get (j := 0) rfl; have r1 := a1.get (j := 1) rfl; have r2 := a1.get (j := 2) rfl; have r4 := a1.get (j := 4) rfl; have q12 := (HST.out.blk.kept a2).get (j := 12) rfl; have q10 := (HST.out.blk.kept a2).get (j := 10) rfl; clear a1 a2 a3))
  go_loopw [100] (fun iv wr => ∃ k : Nat, k ≤ p1 ∧ iv = .int .i64 (k : Int) ∧ Hid ((s.refs.take k).all (fun r => decide (0 < st.ref r)) = true) ∧ Hid (Below w1.heap.size w1 wr)) (fun iv _ => p1 - (intOf iv).toNat)
  case atStart => exact ⟨0, by omega, rfl, Lib.hid rfl, Lib.hid (Below.refl _ _)⟩
  case round =>
   obtain ⟨k, hk, rfl, hall, hb⟩ := hrel
   obtain ⟨wx, hwx⟩ : ∃ x, x = wr := ⟨_, rfl⟩
   rw [← hwx] at hb ⊢
   clear hwx
   have HBx := Lib.hid (below_thenB HB1.out HB1.out.size hb.out)
   by_cases hlt : k < p1
   ·
    obtain ⟨r, g, o, cs, hs, rfl, hat, rfl, hok⟩ := HL1.out.at_ stay_rf (Below.refl _ _) hlt
    have HA := Lib.hid (hat.kept HBx.out)
    have HKR := Lib.hid (keyR r hok)
    have HX := Lib.hid hs
    clear hs hat hok
    obtain ⟨N, hN⟩ : ∃ N, N = st.ref r := ⟨_, rfl⟩
    have HN := Lib.hid hN
    by_cases hpos : 0 < N
    ·
     have el : decide (N ≤ 0) = false := decide_eq_false (by omega)
     have HF : Hid ((s.refs.take (k + 1)).all (fun r => decide (0 < st.ref r)) = true) := Lib.hid (all_step HX.out hall.out (by rw [← hN]; exact decide_eq_true hpos))
     clear hN hpos
     go_wp2_with (first
      | ((with_reducible show OpW 103); refine wpList_loadv _ rfl 73 (.tmp 102) rfl 3 (by kernel_rfl) g (o + k * 3) (rfL r) (by go_simp) HA.out rfl ?_)
      | ((with_reducible show OpW 12); refine wpList_alloc _ rfl 73 rfl rfZ rfZero ?_; intro w3 a1 a2 a3; have HV3 := Lib.hid a1; have HX3 := Lib.hid a2; clear a1 a2 a3)
      | ((with_reducible show OpN); refine wpList_storev _ rfl 73 (.tmp 12) (.tmp 103) rfl 3 (by kernel_rfl) wx.heap.size 0 _ rfZ (rfL r) rfl rfl HV3.out rfl (one_rf r) (by decide) ?_; intro w4 a1 a2 a3; have HV4 : Hid (BL w4 wx.heap.size 73 (rfL r)) := Lib.hid a1; have HX4 : Hid (Below wx.heap.size wx w4) := Lib.hid (((Kp.of_below (S := fun _ => False) HX3.out).after a2 (fun i hi e => by omega)).below (Nat.le_refl _) (fun _ h => h.elim)); clear a1 a2 a3; have r0 := HV4.out.get (j := 0) rfl; have q14 := (HST1.out.blk.kept (below_thenB hb.out hb.out.size HX4.out)).get (j := 14) rfl)
      | fail)
     refine Text.wp_region_text (fun w' => BL w' wx.heap.size 73 (rfL r)) [(0, 4), (1, 4), (2, 4), (4, 0), (3, 1), (5, 2), (6, 4)] (by kernel_rfl) (by kernel_rfl) (fun _ _ _ _ _ h => h) (HV4.out.kept (Below.refl _ _).drew) ?_
     iterate 3 (refine Text.purek rfl rfl (fun K hK => ⟨_, fun w' => by go_simp <;> rfl, ?_⟩); go_simp; refine hK _ ?_; clear hK K)
     refine Text.heldk rfl rfl (fun K hK => ?_)
     refine ⟨_, fun w' hw' => exec_loadv 73 (.tmp 12) rfl 3 (by kernel_rfl) wx.heap.size 0 (rfL r) rfl (BL.all hw') rfl, ?_⟩
     go_simp
     refine hK _ ?_
     clear hK K
     (refine Text.readk rfl rfl (fun K hK => ⟨_, by go_simp <;> rfl, ?_⟩); go_simp; refine hK _ ?_; clear hK K)
     refine Text.eff rfl rfl (fun K hK => ?_)
     refine wp_lookG _ (.tmp 107) (.tmp 108) 80 73 3 rfl refKeyed mapRI (.int .i64 0) intZero m7 _ rfl (HST1.out.kept (below_thenB hb.out hb.out.size HX4.out.drew)).maps.ref r rfl HKR.out ?_
     rw [← HN.out]
     go_simp
     refine hK _ _ (HV4.out.kept (Below.refl _ _).drew) ?_
     clear hK K
     (refine Text.purek rfl rfl (fun K hK => ⟨_, fun w' => by go_simp <;> rfl, ?_⟩); go_simp; refine hK _ ?_; clear hK K)
     refine Text.done ?_
     go_wp2_with fail
     go_roundw
     case rel => exact ⟨k + 1, by omega, by go_num, HF, Lib.hid (below_thenB hb.out hb.out.size HX4.out.drew)⟩
     case measure => simp [intOf]; omega
    ·
     have el : decide (N ≤ 0) = true := decide_eq_true (by omega)
     have HR : Hid (takeB x st s = false) := Lib.hid (by rw [HTB.out]; exact all_miss HX.out (by rw [← hN]; exact decide_eq_false hpos))
     clear hN hpos
     go_wp2_with (first
      | ((with_reducible show OpW 103); refine wpList_loadv _ rfl 73 (.tmp 102) rfl 3 (by kernel_rfl) g (o + k * 3) (rfL r) (by go_simp) HA.out rfl ?_)
      | ((with_reducible show OpW 12); refine wpList_alloc _ rfl 73 rfl rfZ rfZero ?_; intro w3 a1 a2 a3; have HV3 := Lib.hid a1; have HX3 := Lib.hid a2; clear a1 a2 a3)
      | ((with_reducible show OpN); refine wpList_storev _ rfl 73 (.tmp 12) (.tmp 103) rfl 3 (by kernel_rfl) wx.heap.size 0 _ rfZ (rfL r) rfl rfl HV3.out rfl (one_rf r) (by decide) ?_; intro w4 a1 a2 a3; have HV4 : Hid (BL w4 wx.heap.size 73 (rfL r)) := Lib.hid a1; have HX4 : Hid (Below wx.heap.size wx w4) := Lib.hid (((Kp.of_below (S := fun _ => False) HX3.out).after a2 (fun i hi e => by omega)).below (Nat.le_refl _) (fun _ h => h.elim)); clear a1 a2 a3; have r0 := HV4.out.get (j := 0) rfl; have q14 := (HST1.out.blk.kept (below_thenB hb.out hb.out.size HX4.out)).get (j := 14) rfl)
      | fail)
     refine Text.wp_region_text (fun w' => BL w' wx.heap.size 73 (rfL r)) [(0, 4), (1, 4), (2, 4), (4, 0), (3, 1), (5, 2), (6, 4)] (by kernel_rfl) (by kernel_rfl) (fun _ _ _ _ _ h => h) (HV4.out.kept (Below.refl _ _).drew) ?_
     iterate 3 (refine Text.purek rfl rfl (fun K hK => ⟨_, fun w' => by go_simp <;> rfl, ?_⟩); go_simp; refine hK _ ?_; clear hK K)
     refine Text.heldk rfl rfl (fun K hK => ?_)
     refine ⟨_, fun w' hw' => exec_loadv 73 (.tmp 12) rfl 3 (by kernel_rfl) wx.heap.size 0 (rfL r) rfl (BL.all hw') rfl, ?_⟩
     go_simp
     refine hK _ ?_
     clear hK K
     (refine Text.readk rfl rfl (fun K hK => ⟨_, by go_simp <;> rfl, ?_⟩); go_simp; refine hK _ ?_; clear hK K)
     refine Text.eff rfl rfl (fun K hK => ?_)
     refine wp_lookG _ (.tmp 107) (.tmp 108) 80 73 3 rfl refKeyed mapRI (.int .i64 0) intZero m7 _ rfl (HST1.out.kept (below_thenB hb.out hb.out.size HX4.out.drew)).maps.ref r rfl HKR.out ?_
     rw [← HN.out]
     go_simp
     refine hK _ _ (HV4.out.kept (Below.refl _ _).drew) ?_
     clear hK K
     (refine Text.purek rfl rfl (fun K hK => ⟨_, fun w' => by go_simp <;> rfl, ?_⟩); go_simp; refine hK _ ?_; clear hK K)
     refine Text.done ?_
     go_wp2_with fail
     go_ret
     exact ⟨ret_bool HR.out.symm, KM.of_below (below_thenB HBx.out HBx.out.size HX4.out.drew), fun e => by rw [HR.out] at e; cases e⟩
   ·
    obtain rfl : k = p1 := by omega
    have HR : Hid (takeB x st s = true) := Lib.hid (by rw [HTB.out]; exact all_end HN1.out hall.out)
    go_wp2_with fail
    go_ret
    exact ⟨ret_bool HR.out.symm, KM.of_below HBx.out, fun _ => by rw [HTS.out]; exact HST1.out.kept hb.out⟩
 have e1 : (s.kind == 1) = false := by simp [h1]
 by_cases h2 : s.kind = 2
 ·
  have e2 : (s.kind == 2) = true := by simp [h2]
  have HTB : Hid (takeB x st s = condB x st s.sts) := Lib.hid (by rw [takeB, if_neg h3, if_neg h4, if_neg h1, if_pos h2])
  have HTS : Hid (takeS x st s = condRun x st s.sts) := Lib.hid (by rw [takeS, if_neg h3, if_neg h4, if_neg h1, if_pos h2])
  clear h3 h4 h1 h2
  go_enter Try.func71, Try.ntmps71
  go_wp2_with (first
   | ((with_reducible show OpW 3); refine wpList_box _ rfl 44 (.tmp 1) rfl (stC2 s B0 p0 d0 B1 p1 d1) rfl ?_; intro w1 a1 a2 a3; have HB1 := Lib.hid a2; have HT1 := Lib.hid a1; have HST1 := Lib.hid (HST.out.kept a2); have r0 := a1.get (j := 0) rfl; have r1 := a1.get (j := 1) rfl; have r2 := a1.get (j := 2) rfl; have r4 := a1.get (j := 4) rfl; have q12 := (HST.out.blk.kept a2).get (j := 12) rfl; have q10 := (HST.out.blk.kept a2).get (j := 10) rfl; clear a1 a2 a3) | (go_at_call 97; refine (condemn_any _ b _ _ _ _ _ _ _ _ _ _ _ _ _ _ _ _ _ _ _ _ _ _ _ _ _ _ x st HST1.out (HSP.out.kept stay_sp HB1.out) HV.out HBG.out HI.out B0 p0 d0 s.sts (HL0.out.kept stay_str HB1.out)).mono ?_; rintro e w2 ⟨rfl, k2, s2⟩; have HK2 := Lib.hid k2; have HS2 := Lib.hid s2; clear k2 s2))
  go_ret
  exact ⟨ret_bool HTB.out.symm, (KM.of_below HB1.out).trans HK2.out, fun e => by rw [HTB.out] at e; rw [HTS.out]; exact HS2.out e⟩
 ·
  have e2 : (s.kind == 2) = false := by simp [h2]
  have HR : Hid (takeB x st s = false) := Lib.hid (by rw [takeB, if_neg h3, if_neg h4, if_neg h1, if_neg h2])
  clear h3 h4 h1 h2
  go_enter Try.func71, Try.ntmps71
  go_wp2_with (first
   | ((with_reducible show OpW 3); refine wpList_box _ rfl 44 (.tmp 1) rfl (stC2 s B0 p0 d0 B1 p1 d1) rfl ?_; intro w1 a1 a2 a3; have HB1 := Lib.hid a2; have HT1 := Lib.hid a1; have HST1 := Lib.hid (HST.out.kept a2); have r0 := a1.get (j := 0) rfl; have r1 := a1.get (j := 1) rfl; have r2 := a1.get (j := 2) rfl; have r4 := a1.get (j := 4) rfl; have q12 := (HST.out.blk.kept a2).get (j := 12) rfl; have q10 := (HST.out.blk.kept a2).get (j := 10) rfl; clear a1 a2 a3))
  go_ret
  exact ⟨ret_bool HR.out.symm, KM.of_below HB1.out, fun e => by rw [HR.out] at e; cases e⟩
end Go.Proofs.Ytboglaokdgnpaaa
