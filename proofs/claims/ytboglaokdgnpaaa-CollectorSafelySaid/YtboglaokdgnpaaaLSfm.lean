/- The law CollectorSafely: its walk. -/
import Derived.Test.YtboglaokdgnpaaaA30
import Derived.Test.YtboglaokdgnpaaaA31
import Derived.Test.YtboglaokdgnpaaaVmm
namespace Go.Proofs.Ytboglaokdgnpaaa
open Go Go.RowKit Gf Sha

set_option maxRecDepth 100000 in
set_option maxHeartbeats 4000000 in
theorem safely_walk (cx : List Value) (x : Si) (w : World) (hx : rSi w cx x) :
    Calls Try.prog 5 #[.agg cx.toArray] w fun e w' => e = .returned (.bool true) ∧ Below w.heap.size w w' := by
  obtain ⟨a0, n0, c0, a1, n1, c1, a2, n2, c2, a3, n3, c3, a4, n4, c4, a5, n5, c5, rfl, hq⟩ := hx
  have H := Lib.hid hq
  clear hq
  cases hlg : largeB x with
  | true =>
    go_enter Try.func5, Try.ntmps5
    go_wp2_with (first
      | ((with_reducible show wpList _ _ _ (⟨some 1, _, _, _, _, _⟩ :: _) _ _); refine wpList_box _ rfl 26 (.tmp 0) rfl (siC a0 n0 c0 a1 n1 c1 a2 n2 c2 a3 n3 c3 a4 n4 c4 a5 n5 c5 x.pct) rfl ?_; intro wa y1 y2 y3; have HBa := Lib.hid y2; have HSa := Lib.hid y1; clear y1 y2 y3)
      | (go_at_call 9; refine (awake_any wa).mono ?_; rintro e wb ⟨rfl, b1⟩; have HBb := Lib.hid (below_then HBa.out b1); have HSb := Lib.hid (HSa.out.kept b1); clear b1)
      | ((with_reducible show wpList _ _ _ (⟨some 9, _, _, _, _, _⟩ :: _) _ _); refine wpList_loadv _ rfl 26 (.tmp 1) rfl 7 (by kernel_rfl) w.heap.size 0 _ rfl (BL.all HSb.out) rfl ?_)
      | (go_at_call 10; refine (large_any _ x _ (show rSi wb _ _ from ⟨a0, n0, c0, a1, n1, c1, a2, n2, c2, a3, n3, c3, a4, n4, c4, a5, n5, c5, rfl, H.out.kept HBb.out⟩)).mono ?_; rintro e wc ⟨rfl, b1⟩; rw [hlg]; have HBc := Lib.hid (below_then HBb.out b1); have HSc := Lib.hid (HSb.out.kept b1); clear b1)
      | fail)
    go_ret
    exact ⟨rfl, HBc.out⟩
  | false =>
    have HLG := Lib.hid (large_no hlg)
    have HBG : Hid (x.sp.length ≤ 1000) := Lib.hid (by have := HLG.out; omega)
    have HBH : Hid (x.held.length ≤ 1000) := Lib.hid (by have := HLG.out; omega)
    cases hv : siB x with
    | false =>
      go_enter Try.func5, Try.ntmps5
      go_wp2_with (first
        | ((with_reducible show wpList _ _ _ (⟨some 1, _, _, _, _, _⟩ :: _) _ _); refine wpList_box _ rfl 26 (.tmp 0) rfl (siC a0 n0 c0 a1 n1 c1 a2 n2 c2 a3 n3 c3 a4 n4 c4 a5 n5 c5 x.pct) rfl ?_; intro wa y1 y2 y3; have HBa := Lib.hid y2; have HSa := Lib.hid y1; clear y1 y2 y3)
        | (go_at_call 9; refine (awake_any wa).mono ?_; rintro e wb ⟨rfl, b1⟩; have HBb := Lib.hid (below_then HBa.out b1); have HSb := Lib.hid (HSa.out.kept b1); clear b1)
        | ((with_reducible show wpList _ _ _ (⟨some 9, _, _, _, _, _⟩ :: _) _ _); refine wpList_loadv _ rfl 26 (.tmp 1) rfl 7 (by kernel_rfl) w.heap.size 0 _ rfl (BL.all HSb.out) rfl ?_)
        | (go_at_call 10; refine (large_any _ x _ (show rSi wb _ _ from ⟨a0, n0, c0, a1, n1, c1, a2, n2, c2, a3, n3, c3, a4, n4, c4, a5, n5, c5, rfl, H.out.kept HBb.out⟩)).mono ?_; rintro e wc ⟨rfl, b1⟩; rw [hlg]; have HBc := Lib.hid (below_then HBb.out b1); have HSc := Lib.hid (HSb.out.kept b1); clear b1)
        | ((with_reducible show wpList _ _ _ (⟨some 12, _, _, _, _, _⟩ :: _) _ _); refine wpList_loadv _ rfl 26 (.tmp 1) rfl 7 (by kernel_rfl) w.heap.size 0 _ rfl (BL.all HSc.out) rfl ?_)
        | (go_at_call 12; (with_reducible show Calls _ _ _ wc _); refine (to_any a0 n0 c0 a1 n1 c1 a2 n2 c2 a3 n3 c3 a4 n4 c4 a5 n5 c5 x.pct wc).mono ?_; rintro e wd ⟨rfl, b1⟩; have HBd := Lib.hid (below_then HBc.out b1); have HSd := Lib.hid (HSc.out.kept b1); clear b1)
        | (go_at_call 11; refine (plan_any a0 n0 c0 a1 n1 c1 a2 n2 c2 a3 n3 c3 a4 n4 c4 a5 n5 c5 x wd (H.out.kept HBd.out) HBG.out HBH.out).mono ?_; unfold TStp; rw [hv]; (simp only [Bool.false_eq_true, if_false]); rintro e we ⟨rfl, b1⟩; have HBe := Lib.hid (below_then HBd.out b1); have HSe := Lib.hid (HSd.out.kept b1); clear b1)
        | ((with_reducible show wpList _ _ _ (⟨some 20, _, _, _, _, _⟩ :: _) _ _); refine wpList_loadv _ rfl 26 (.tmp 1) rfl 7 (by kernel_rfl) w.heap.size 0 _ rfl (BL.all HSe.out) rfl ?_)
        | (go_at_call 12; (with_reducible show Calls _ _ _ we _); refine (to_any a0 n0 c0 a1 n1 c1 a2 n2 c2 a3 n3 c3 a4 n4 c4 a5 n5 c5 x.pct we).mono ?_; rintro e wf ⟨rfl, b1⟩; have HBf := Lib.hid (below_then HBe.out b1); clear b1)
        | (go_at_call 23; refine (ccheck_any _ x _ (show rSi wf _ _ from ⟨a0, n0, c0, a1, n1, c1, a2, n2, c2, a3, n3, c3, a4, n4, c4, a5, n5, c5, rfl, H.out.kept HBf.out⟩)).mono ?_; rintro e wg ⟨rfl, b1⟩; rw [hv]; have HBg := Lib.hid (below_then HBf.out b1); clear b1))
      go_ret
      exact ⟨rfl, HBg.out⟩
    | true =>
      have HR : Hid (safeV x (planL x) = .tuple #[.bool true, .int .i64 0]) := Lib.hid (by rw [safeV, hv, plan_safe hv]; rfl)
      go_enter Try.func5, Try.ntmps5
      go_wp2_with (first
        | ((with_reducible show wpList _ _ _ (⟨some 1, _, _, _, _, _⟩ :: _) _ _); refine wpList_box _ rfl 26 (.tmp 0) rfl (siC a0 n0 c0 a1 n1 c1 a2 n2 c2 a3 n3 c3 a4 n4 c4 a5 n5 c5 x.pct) rfl ?_; intro wa y1 y2 y3; have HBa := Lib.hid y2; have HSa := Lib.hid y1; clear y1 y2 y3)
        | (go_at_call 9; refine (awake_any wa).mono ?_; rintro e wb ⟨rfl, b1⟩; have HBb := Lib.hid (below_then HBa.out b1); have HSb := Lib.hid (HSa.out.kept b1); clear b1)
        | ((with_reducible show wpList _ _ _ (⟨some 9, _, _, _, _, _⟩ :: _) _ _); refine wpList_loadv _ rfl 26 (.tmp 1) rfl 7 (by kernel_rfl) w.heap.size 0 _ rfl (BL.all HSb.out) rfl ?_)
        | (go_at_call 10; refine (large_any _ x _ (show rSi wb _ _ from ⟨a0, n0, c0, a1, n1, c1, a2, n2, c2, a3, n3, c3, a4, n4, c4, a5, n5, c5, rfl, H.out.kept HBb.out⟩)).mono ?_; rintro e wc ⟨rfl, b1⟩; rw [hlg]; have HBc := Lib.hid (below_then HBb.out b1); have HSc := Lib.hid (HSb.out.kept b1); clear b1)
        | ((with_reducible show wpList _ _ _ (⟨some 12, _, _, _, _, _⟩ :: _) _ _); refine wpList_loadv _ rfl 26 (.tmp 1) rfl 7 (by kernel_rfl) w.heap.size 0 _ rfl (BL.all HSc.out) rfl ?_)
        | (go_at_call 12; (with_reducible show Calls _ _ _ wc _); refine (to_any a0 n0 c0 a1 n1 c1 a2 n2 c2 a3 n3 c3 a4 n4 c4 a5 n5 c5 x.pct wc).mono ?_; rintro e wd ⟨rfl, b1⟩; have HBd := Lib.hid (below_then HBc.out b1); have HSd := Lib.hid (HSc.out.kept b1); clear b1)
        | (go_at_call 11; refine (plan_any a0 n0 c0 a1 n1 c1 a2 n2 c2 a3 n3 c3 a4 n4 c4 a5 n5 c5 x wd (H.out.kept HBd.out) HBG.out HBH.out).mono ?_; unfold TStp; rw [hv]; (simp only [if_true]); rintro e we ⟨A, c, rfl, hl, b1⟩; have HPL := Lib.hid hl; have HBe := Lib.hid (below_then HBd.out b1); have HSe := Lib.hid (HSd.out.kept b1); clear b1 hl)
        | ((with_reducible show wpList _ _ _ (⟨some 25, _, _, _, _, _⟩ :: _) _ _); refine wpList_loadv _ rfl 26 (.tmp 1) rfl 7 (by kernel_rfl) w.heap.size 0 _ rfl (BL.all HSe.out) rfl ?_)
        | (go_at_call 12; (with_reducible show Calls _ _ _ we _); refine (to_any a0 n0 c0 a1 n1 c1 a2 n2 c2 a3 n3 c3 a4 n4 c4 a5 n5 c5 x.pct we).mono ?_; rintro e wf ⟨rfl, b1⟩; have HXf := Lib.hid b1; have HBf := Lib.hid (below_then HBe.out b1); clear b1)
        | (go_at_call 24; refine (safe_any a0 n0 c0 a1 n1 c1 a2 n2 c2 a3 n3 c3 a4 n4 c4 a5 n5 c5 x wf (H.out.kept HBf.out) HBG.out A _ c (planL x) (HPL.out.kept stay_stp HXf.out)).mono ?_; rintro e wg ⟨rfl, b1⟩; rw [HR.out]; have HBg := Lib.hid (below_then HBf.out b1); clear b1))
      go_ret
      exact ⟨rfl, HBg.out⟩
end Go.Proofs.Ytboglaokdgnpaaa
