/- The law CollectorPlans: its walk. -/
import Derived.Test.YtboglaokdgnpaaaA30
import Derived.Test.YtboglaokdgnpaaaA31
import Derived.Test.YtboglaokdgnpaaaWkm
namespace Go.Proofs.Ytboglaokdgnpaaa
open Go Go.RowKit Gf Sha

theorem bldBack (a : Int) (A0 : Option Addr) (n0 c0 : Nat) (s : ByteArray) (i : Int) (A1 : Option Addr) (n1 c1 : Nat) (w : World) : (Instr.build 42 #[(0, .int .i64 a), (1, .slice A0 n0 c0), (2, .agg [.string s, .int .i64 i].toArray), (3, .slice A1 n1 c1)]).run Try.prog w = .ok (.agg [.int .i64 a, .slice A0 n0 c0, .string s, .int .i64 i, .slice A1 n1 c1].toArray) w := by kernel_rfl
set_option maxRecDepth 100000 in
set_option maxHeartbeats 1000000 in
theorem back_any (cs : List Value) (y : Stp) (w : World) (h : rStp w cs y) :
  Calls Try.prog 16 #[.agg cs.toArray] w fun e w' => e = .returned (.agg cs.toArray) ∧ Below w.heap.size w w' := by
 obtain ⟨A0, n0, c0, A1, n1, c1, rfl, _⟩ := h
 go_enter Try.func16, Try.ntmps16
 go_wp2_with (first
  | ((with_reducible show wpList _ _ _ (⟨some 1, _, _, _, _, _⟩ :: _) _ _); refine wpList_box _ rfl 44 (.tmp 0) rfl (stC y A0 n0 c0 A1 n1 c1) rfl ?_; intro w1 y1 y2 y3; have HB1 := Lib.hid y2; have HS1 := Lib.hid y1; clear y1 y2 y3)
  | ((with_reducible show wpList _ _ _ (⟨some 2, _, _, _, _, _⟩ :: _) _ _); refine wpList_alloc _ rfl 42 rfl stpZ stqZero ?_; intro w2 y1 y2 y3; have HR2 := Lib.hid y1; have HB2 := Lib.hid (below_then HB1.out y2); have HS2 := Lib.hid (HS1.out.kept y2); have hs := HS1.out.kept y2; have q0 := hs.get (j := 0) rfl; have q1 := hs.get (j := 1) rfl; have q4 := hs.get (j := 4) rfl; have HG := Lib.hid HB1.out.size; clear y1 y2 y3 hs)
  | ((with_reducible show wpList _ _ _ (⟨some 8, _, _, _, _, _⟩ :: _) _ _); refine wpList_loadv _ rfl 39 (.tmp 7) rfl 2 (by kernel_rfl) w.heap.size 2 (pcL y.pc) rfl (at_two (BL.all HS2.out)) rfl ?_)
  | ((with_reducible show wpList _ _ _ (⟨some 11, _, _, _, _, _⟩ :: _) _ _); refine wpList_build _ rfl 42 #[(0, .tmp 4), (1, .tmp 6), (2, .tmp 8), (3, .tmp 10)] rfl #[(0, .int .i64 y.kind), (1, .slice A0 n0 c0), (2, .agg (pcL y.pc).toArray), (3, .slice A1 n1 c1)] (by rw [List.map_toArray]; rfl) (.agg (stC y A0 n0 c0 A1 n1 c1).toArray) (bldBack _ _ _ _ _ _ _ _ _ _) ?_)
  | ((with_reducible show wpList _ _ _ (⟨none, _, _, _, _, _⟩ :: _) _ _); refine wpList_storev _ rfl 42 (.tmp 2) (.tmp 11) rfl 5 (by kernel_rfl) w1.heap.size 0 _ stpZ (stC y A0 n0 c0 A1 n1 c1) rfl rfl HR2.out rfl (one_val _ rfl) (by decide) ?_; intro w3 y1 y2 y3; have HT3 : Hid (BL w3 w1.heap.size 42 (stC y A0 n0 c0 A1 n1 c1)) := Lib.hid y1; have HK3 := Lib.hid y2; clear y1 y2 y3))
 (try simp only [Exit.inBlock, Exit.then])
 exact bodyPost_ret (results_at w3 Try.results16 (n := 5) (by kernel_rfl) (g := w1.heap.size) (o := 0) rfl (ms := stC y A0 n0 c0 A1 n1 c1) (BL.all HT3.out) rfl) rfl ⟨rfl, ((Kp.of_below (S := fun _ => False) HB2.out).after HK3.out (fun i hi e => by have := HG.out; omega)).below (Nat.le_refl _) (fun _ h => h.elim)⟩
theorem sst_refl (y : Stp) : sstB y y = true := by simp [sstB]
set_option maxRecDepth 100000 in
set_option maxHeartbeats 8000000 in
theorem plans_walk (cx : List Value) (x : Si) (w : World) (hx : rSi w cx x) :
  Calls Try.prog 3 #[.agg cx.toArray] w fun e w' => e = .returned (.bool true) ∧ Below w.heap.size w w' := by
 obtain ⟨a0, n0, c0, a1, n1, c1, a2, n2, c2, a3, n3, c3, a4, n4, c4, a5, n5, c5, rfl, hq⟩ := hx
 have H := Lib.hid hq
 clear hq
 cases hlg : largeB x with
 | true =>
  go_enter Try.func3, Try.ntmps3
  go_wp2_with (first
   | ((with_reducible show wpList _ _ _ (⟨some 1, _, _, _, _, _⟩ :: _) _ _); refine wpList_box _ rfl 26 (.tmp 0) rfl (siC a0 n0 c0 a1 n1 c1 a2 n2 c2 a3 n3 c3 a4 n4 c4 a5 n5 c5 x.pct) rfl ?_; intro wa y1 y2 y3; have HBa := Lib.hid y2; have HSa := Lib.hid y1; clear y1 y2 y3)
   | (go_at_call 9; refine (awake_any wa).mono ?_; rintro e wb ⟨rfl, b1⟩; have HBb := Lib.hid (below_then HBa.out b1); have HSb := Lib.hid (HSa.out.kept b1); clear b1)
   | ((with_reducible show wpList _ _ _ (⟨some 9, _, _, _, _, _⟩ :: _) _ _); refine wpList_loadv _ rfl 26 (.tmp 1) rfl 7 (by kernel_rfl) w.heap.size 0 _ rfl (BL.all HSb.out) rfl ?_)
   | (go_at_call 10; refine (large_any _ x _ (show rSi wb _ _ from ⟨a0, n0, c0, a1, n1, c1, a2, n2, c2, a3, n3, c3, a4, n4, c4, a5, n5, c5, rfl, H.out.kept HBb.out⟩)).mono ?_; rintro e wc ⟨rfl, b1⟩; rw [hlg]; have HBc := Lib.hid (below_then HBb.out b1); have HSc := Lib.hid (HSb.out.kept b1); clear b1)
   | fail)
  go_ret
  exact ⟨rfl, HBc.out⟩
 | false =>
  have HLG := Lib.hid (large_no hlg)
  have HBG : Hid (x.sp.length ≤ 1000) := Lib.hid (by have := HLG.out; omega)
  have HBH : Hid (x.held.length ≤ 1000) := Lib.hid (by have := HLG.out; omega)
  cases hv : siB x with
  | false =>
   go_enter Try.func3, Try.ntmps3
   go_wp2_with (first
    | ((with_reducible show wpList _ _ _ (⟨some 1, _, _, _, _, _⟩ :: _) _ _); refine wpList_box _ rfl 26 (.tmp 0) rfl (siC a0 n0 c0 a1 n1 c1 a2 n2 c2 a3 n3 c3 a4 n4 c4 a5 n5 c5 x.pct) rfl ?_; intro wa y1 y2 y3; have HBa := Lib.hid y2; have HSa := Lib.hid y1; clear y1 y2 y3)
    | (go_at_call 9; refine (awake_any wa).mono ?_; rintro e wb ⟨rfl, b1⟩; have HBb := Lib.hid (below_then HBa.out b1); have HSb := Lib.hid (HSa.out.kept b1); clear b1)
    | ((with_reducible show wpList _ _ _ (⟨some 9, _, _, _, _, _⟩ :: _) _ _); refine wpList_loadv _ rfl 26 (.tmp 1) rfl 7 (by kernel_rfl) w.heap.size 0 _ rfl (BL.all HSb.out) rfl ?_)
    | (go_at_call 10; refine (large_any _ x _ (show rSi wb _ _ from ⟨a0, n0, c0, a1, n1, c1, a2, n2, c2, a3, n3, c3, a4, n4, c4, a5, n5, c5, rfl, H.out.kept HBb.out⟩)).mono ?_; rintro e wc ⟨rfl, b1⟩; rw [hlg]; have HBc := Lib.hid (below_then HBb.out b1); have HSc := Lib.hid (HSb.out.kept b1); clear b1)
    | ((with_reducible show wpList _ _ _ (⟨some 12, _, _, _, _, _⟩ :: _) _ _); refine wpList_loadv _ rfl 26 (.tmp 1) rfl 7 (by kernel_rfl) w.heap.size 0 _ rfl (BL.all HSc.out) rfl ?_)
    | (go_at_call 12; (with_reducible show Calls _ _ _ wc _); refine (to_any a0 n0 c0 a1 n1 c1 a2 n2 c2 a3 n3 c3 a4 n4 c4 a5 n5 c5 x.pct wc).mono ?_; rintro e wd ⟨rfl, b1⟩; have HBd := Lib.hid (below_then HBc.out b1); have HSd := Lib.hid (HSc.out.kept b1); clear b1)
    | (go_at_call 11; refine (plan_any a0 n0 c0 a1 n1 c1 a2 n2 c2 a3 n3 c3 a4 n4 c4 a5 n5 c5 x wd (H.out.kept HBd.out) HBG.out HBH.out).mono ?_; unfold TStp; rw [hv]; (simp only [Bool.false_eq_true, if_false]); rintro e we ⟨rfl, b1⟩; have HBe := Lib.hid (below_then HBd.out b1); have HSe := Lib.hid (HSd.out.kept b1); clear b1)
    | ((with_reducible show wpList _ _ _ (⟨some 17, _, _, _, _, _⟩ :: _) _ _); refine wpList_loadv _ rfl 26 (.tmp 1) rfl 7 (by kernel_rfl) w.heap.size 0 _ rfl (BL.all HSe.out) rfl ?_)
    | (go_at_call 13; refine (sivalid_any _ x _ (show rSi we _ _ from ⟨a0, n0, c0, a1, n1, c1, a2, n2, c2, a3, n3, c3, a4, n4, c4, a5, n5, c5, rfl, H.out.kept HBe.out⟩)).mono ?_; rintro e wf ⟨rfl, b1⟩; rw [hv]; have HXf := Lib.hid b1; have HBf := Lib.hid (below_then HBe.out b1); have HSf := Lib.hid (HSe.out.kept b1); clear b1)
    | fail)
   go_ret
   exact ⟨rfl, HBf.out⟩
  | true =>
   have HVL := Lib.hid hv
   go_enter Try.func3, Try.ntmps3
   obtain ⟨pl, hpl⟩ : ∃ pl, pl = planL x := ⟨_, rfl⟩
   have HPL := Lib.hid hpl
   clear hpl
   obtain ⟨np, hnp⟩ : ∃ n, n = pl.length := ⟨_, rfl⟩
   have HNP := Lib.hid hnp
   clear hnp
   go_wp2_with (first
    | ((with_reducible show wpList _ _ _ (⟨some 1, _, _, _, _, _⟩ :: _) _ _); refine wpList_box _ rfl 26 (.tmp 0) rfl (siC a0 n0 c0 a1 n1 c1 a2 n2 c2 a3 n3 c3 a4 n4 c4 a5 n5 c5 x.pct) rfl ?_; intro wa y1 y2 y3; have HBa := Lib.hid y2; have HSa := Lib.hid y1; clear y1 y2 y3)
    | (go_at_call 9; refine (awake_any wa).mono ?_; rintro e wb ⟨rfl, b1⟩; have HBb := Lib.hid (below_then HBa.out b1); have HSb := Lib.hid (HSa.out.kept b1); clear b1)
    | ((with_reducible show wpList _ _ _ (⟨some 9, _, _, _, _, _⟩ :: _) _ _); refine wpList_loadv _ rfl 26 (.tmp 1) rfl 7 (by kernel_rfl) w.heap.size 0 _ rfl (BL.all HSb.out) rfl ?_)
    | (go_at_call 10; refine (large_any _ x _ (show rSi wb _ _ from ⟨a0, n0, c0, a1, n1, c1, a2, n2, c2, a3, n3, c3, a4, n4, c4, a5, n5, c5, rfl, H.out.kept HBb.out⟩)).mono ?_; rintro e wc ⟨rfl, b1⟩; rw [hlg]; have HBc := Lib.hid (below_then HBb.out b1); have HSc := Lib.hid (HSb.out.kept b1); clear b1)
    | ((with_reducible show wpList _ _ _ (⟨some 12, _, _, _, _, _⟩ :: _) _ _); refine wpList_loadv _ rfl 26 (.tmp 1) rfl 7 (by kernel_rfl) w.heap.size 0 _ rfl (BL.all HSc.out) rfl ?_)
    | (go_at_call 12; (with_reducible show Calls _ _ _ wc _); refine (to_any a0 n0 c0 a1 n1 c1 a2 n2 c2 a3 n3 c3 a4 n4 c4 a5 n5 c5 x.pct wc).mono ?_; rintro e wd ⟨rfl, b1⟩; have HBd := Lib.hid (below_then HBc.out b1); have HSd := Lib.hid (HSc.out.kept b1); clear b1)
    | (go_at_call 11; refine (plan_any a0 n0 c0 a1 n1 c1 a2 n2 c2 a3 n3 c3 a4 n4 c4 a5 n5 c5 x wd (H.out.kept HBd.out) HBG.out HBH.out).mono ?_; unfold TStp; rw [hv]; (simp only [if_true]); rw [← HPL.out, ← HNP.out]; rintro e we ⟨Aa, ca, rfl, la, b1⟩; have HLa := Lib.hid la; have HBe := Lib.hid (below_then HBd.out b1); have HSe := Lib.hid (HSd.out.kept b1); clear b1 la)
    | ((with_reducible show wpList _ _ _ (⟨some 17, _, _, _, _, _⟩ :: _) _ _); refine wpList_loadv _ rfl 26 (.tmp 1) rfl 7 (by kernel_rfl) w.heap.size 0 _ rfl (BL.all HSe.out) rfl ?_)
    | (go_at_call 13; refine (sivalid_any _ x _ (show rSi we _ _ from ⟨a0, n0, c0, a1, n1, c1, a2, n2, c2, a3, n3, c3, a4, n4, c4, a5, n5, c5, rfl, H.out.kept HBe.out⟩)).mono ?_; rintro e wf ⟨rfl, b1⟩; rw [hv]; have HXf := Lib.hid b1; have HBf := Lib.hid (below_then HBe.out b1); have HSf := Lib.hid (HSe.out.kept b1); clear b1)
    | ((with_reducible show wpList _ _ _ (⟨some 27, _, _, _, _, _⟩ :: _) _ _); refine wpList_loadv _ rfl 26 (.tmp 1) rfl 7 (by kernel_rfl) w.heap.size 0 _ rfl (BL.all HSf.out) rfl ?_)
    | (go_at_call 14; refine (rplan_any _ x wf (show rSi wf _ _ from ⟨a0, n0, c0, a1, n1, c1, a2, n2, c2, a3, n3, c3, a4, n4, c4, a5, n5, c5, rfl, H.out.kept HBf.out⟩) HVL.out HBG.out HBH.out).mono ?_; unfold TStq; rw [← HPL.out, ← HNP.out]; rintro e wg ⟨Ab, cb, rfl, lb, b1⟩; have HLb := Lib.hid lb; have HLa' := Lib.hid ((HLa.out.kept stay_stp HXf.out).kept stay_stp b1); have HBg := Lib.hid (below_then HBf.out b1); clear b1 lb))
   clear hv
   have hnpl := HLb.out.len_le
   go_loopw [40] (fun iv wr => ∃ k : Nat, k ≤ np ∧ iv = .int .i64 (k : Int) ∧ Hid (Below wg.heap.size wg wr)) (fun iv _ => np - (intOf iv).toNat)
   case atStart => exact ⟨0, by omega, rfl, Lib.hid (Below.refl _ _)⟩
   case round =>
    obtain ⟨k, hk, rfl, hb⟩ := hrel
    obtain ⟨wx, hwx⟩ : ∃ x, x = wr := ⟨_, rfl⟩
    rw [← hwx] at hb ⊢
    clear hwx
    by_cases hlt : k < np
    ·
     obtain ⟨t, g, o, cs, hs, ea, hat, hrt⟩ := HLa'.out.at_ stay_stp hb.out hlt
     obtain ⟨t', g', o', cs', hs', ea', hat', hrt'⟩ := HLb.out.at_ stay_stp hb.out hlt
     have ett : t' = t := by have := hs.symm.trans hs'; cases this; rfl
     rw [ett] at hrt'
     have HR := Lib.hid hrt
     have HR' := Lib.hid hrt'
     obtain ⟨B0, p0, e0, B1, p1, e1, rfl, _⟩ := hrt
     obtain ⟨D0, r0, f0, D1, r1, f1, rfl, _⟩ := hrt'
     have HA := Lib.hid hat
     have HA' := Lib.hid hat'
     subst ea
     subst ea'
     clear hs hs' hat hat' ett
     go_wp2_with fail
     refine Text.wp_region_text (fun w' => Below wx.heap.size wx w') [(0, 4), (1, 4), (2, 4), (5, 4), (6, 4), (7, 4), (3, 0), (8, 0), (4, 2), (9, 2), (10, 4)] (by kernel_rfl) (by kernel_rfl) (fun _ _ _ _ _ h => h) ((Below.refl _ _).drew) ?_
     iterate 6 (refine Text.purek rfl rfl (fun K hK => ⟨_, fun w' => by go_simp <;> rfl, ?_⟩); go_simp; refine hK _ ?_; clear hK K)
     refine Text.heldk rfl rfl (fun K hK => ?_)
     refine ⟨_, fun w' hw' => exec_loadv 44 (.tmp 45) rfl 5 (by kernel_rfl) g (o + k * 5) (stC t B0 p0 e0 B1 p1 e1) (by go_simp) (HA.out.kept hw') rfl, ?_⟩
     go_simp
     refine hK _ ?_
     clear hK K
     refine Text.heldk rfl rfl (fun K hK => ?_)
     refine ⟨_, fun w' hw' => exec_loadv 42 (.tmp 50) rfl 5 (by kernel_rfl) g' (o' + k * 5) (stC t D0 r0 f0 D1 r1 f1) (by go_simp) (HA'.out.kept hw') rfl, ?_⟩
     go_simp
     refine hK _ ?_
     clear hK K
     refine Text.eff rfl rfl (fun K hK => ?_)
     go_simp
     refine (back_any _ t _ (stay_stp _ _ _ _ HR.out (Below.refl _ _).drew)).mono ?_
     rintro e w5 ⟨rfl, b5⟩
     have HX5 : Hid (Below wx.heap.size wx w5) := Lib.hid (below_ofDrew b5)
     refine hK _ _ HX5.out ?_
     clear hK K b5
     refine Text.eff rfl rfl (fun K hK => ?_)
     go_simp
     refine (rsamestep_any _ _ t t _ (stay_stp _ _ _ _ HR.out HX5.out) (stay_stp _ _ _ _ HR'.out HX5.out)).mono ?_
     rintro e w6 ⟨rfl, b6⟩
     rw [sst_refl]
     have HX6 : Hid (Below wx.heap.size wx w6) := Lib.hid (below_thenB HX5.out HX5.out.size b6)
     refine hK _ _ HX6.out ?_
     clear hK K b6
     (refine Text.purek rfl rfl (fun K hK => ⟨_, fun w' => by go_simp <;> rfl, ?_⟩); go_simp; refine hK _ ?_; clear hK K)
     refine Text.done ?_
     go_wp2_with fail
     go_roundw
     case rel => exact ⟨k + 1, by omega, by go_num, Lib.hid (below_thenB hb.out hb.out.size HX6.out)⟩
     case measure => simp [intOf]; omega
    ·
     obtain rfl : k = np := by omega
     go_wp2_with fail
     go_ret
     exact ⟨rfl, below_thenB HBg.out HBg.out.size hb.out⟩
end Go.Proofs.Ytboglaokdgnpaaa
