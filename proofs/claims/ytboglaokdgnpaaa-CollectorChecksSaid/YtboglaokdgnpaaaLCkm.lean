/- The law CollectorChecks: its walk. -/
import Derived.Test.YtboglaokdgnpaaaA30
import Derived.Test.YtboglaokdgnpaaaA31
namespace Go.Proofs.Ytboglaokdgnpaaa
open Go Go.RowKit Gf Sha

def unK (x : Si) (l : List Sp) : List (List UInt8) := (l.filter fun s => unneedB x s).map (·.id)
def spK (x : Si) (l : List Sp) : List (List UInt8) := (l.filter fun s => sparseB x s).map (·.id)
theorem unK_step {x : Si} {l : List Sp} {k : Nat} {s : Sp} (h : l[k]? = some s) : unK x (l.take (k + 1)) = unK x (l.take k) ++ (if unneedB x s then [s.id] else []) := filtmap_step h
theorem spK_step {x : Si} {l : List Sp} {k : Nat} {s : Sp} (h : l[k]? = some s) : spK x (l.take (k + 1)) = spK x (l.take k) ++ (if sparseB x s then [s.id] else []) := filtmap_step h
theorem un_sp {x : Si} {s : Sp} (h : unneedB x s = true) : sparseB x s = false := by
  simp only [unneedB, Bool.and_eq_true] at h
  simp [sparseB, h.2]
theorem siB_szOk {x : Si} {s : Sp} (hv : siB x = true) (hs : s ∈ x.sp) : szOk s.refs := by
  obtain ⟨k, hk⟩ := List.mem_iff_getElem?.1 hs
  obtain ⟨h1, _, h2⟩ := spB_refs (okB_at (siB_sp hv) hk)
  exact szOk_of (by omega) h2
/-- Two lists of names, each in a block of its own. -/
structure O2 (w0 w : World) (v9 v10 : Value) (L M : List (List UInt8)) : Prop where
  a : OL rStr 1 9 w0 w v9 L
  b : OL rStr 1 9 w0 w v10 M
  ne : ∀ b, v9.ownBlock = some b → ¬ v10.ownBlock = some b
theorem O2.kept {w0 w w' : World} {v9 v10 : Value} {L M : List (List UInt8)} (h : O2 w0 w v9 v10 L M) (hb : Below w.heap.size w w') : O2 w0 w' v9 v10 L M := ⟨h.a.kept hb, h.b.kept hb, h.ne⟩
theorem O2.pushA {w0 w w9 : World} {v v10 v' : Value} {L M : List (List UInt8)} {l xs : List Value} {nf : Nat} (h : O2 w0 w v v10 L M) (ap : AppR w 9 1 v nf 1 l xs v' w9) {N : List (List UInt8)} (hn : OL rStr 1 9 w0 w9 v' N) : O2 w0 w9 v' v10 N M :=
  ⟨hn, h.b.kp ap.kp (fun b e1 e2 => h.ne b e2 e1), fun b e1 e2 => (ap.own b e1).elim (fun h9 => h.ne b h9 e2) (fun h9 => by
    obtain ⟨_, r⟩ := h.b.row
    have := r.lt e2
    omega)⟩
theorem O2.pushB {w0 w w9 : World} {v v9 v' : Value} {L M : List (List UInt8)} {l xs : List Value} {nf : Nat} (h : O2 w0 w v9 v L M) (ap : AppR w 9 1 v nf 1 l xs v' w9) {N : List (List UInt8)} (hn : OL rStr 1 9 w0 w9 v' N) : O2 w0 w9 v9 v' L N :=
  ⟨h.a.kp ap.kp h.ne, hn, fun b e1 e2 => (ap.own b e2).elim (h.ne b e1) (fun h9 => by
    obtain ⟨_, r⟩ := h.a.row
    have := r.lt e1
    omega)⟩
set_option maxRecDepth 100000 in
set_option maxHeartbeats 8000000 in
theorem checks_walk (cx : List Value) (x : Si) (w : World) (hx : rSi w cx x) :
    Calls Try.prog 8 #[.agg cx.toArray] w fun e w' => e = .returned (.bool true) ∧ Below w.heap.size w w' := by
  obtain ⟨a0, n0, c0, a1, n1, c1, a2, n2, c2, a3, n3, c3, a4, n4, c4, a5, n5, c5, rfl, hq⟩ := hx
  have hn := hq.sp.len_le
  have H := Lib.hid hq
  have HL := Lib.hid hq.sp.1
  clear hq
  cases hlg : largeB x with
  | true =>
    go_enter Try.func8, Try.ntmps8
    go_wp2_with (first
      | ((with_reducible show wpList _ _ _ (⟨some 1, _, _, _, _, _⟩ :: _) _ _); refine wpList_box _ rfl 26 (.tmp 0) rfl (siC a0 n0 c0 a1 n1 c1 a2 n2 c2 a3 n3 c3 a4 n4 c4 a5 n5 c5 x.pct) rfl ?_; intro wa y1 y2 y3; have HBa := Lib.hid y2; have HSa := Lib.hid y1; clear y1 y2 y3)
      | (go_at_call 9; refine (awake_any wa).mono ?_; rintro e wb ⟨rfl, b1⟩; have HBb := Lib.hid (below_then HBa.out b1); have HSb := Lib.hid (HSa.out.kept b1); clear b1)
      | ((with_reducible show wpList _ _ _ (⟨some 15, _, _, _, _, _⟩ :: _) _ _); refine wpList_loadv _ rfl 26 (.tmp 1) rfl 7 (by kernel_rfl) w.heap.size 0 _ rfl (BL.all HSb.out) rfl ?_)
      | (go_at_call 10; refine (large_any _ x _ (show rSi wb _ _ from ⟨a0, n0, c0, a1, n1, c1, a2, n2, c2, a3, n3, c3, a4, n4, c4, a5, n5, c5, rfl, H.out.kept HBb.out⟩)).mono ?_; rintro e wc ⟨rfl, b1⟩; rw [hlg]; have HBc := Lib.hid (below_then HBb.out b1); have HSc := Lib.hid (HSb.out.kept b1); clear b1)
      | fail)
    go_ret
    exact ⟨rfl, HBc.out⟩
  | false =>
    have HLG := Lib.hid (large_no hlg)
    have HBG : Hid (x.sp.length ≤ 1000) := Lib.hid (by have := HLG.out; omega)
    cases hv : siB x with
    | false =>
      go_enter Try.func8, Try.ntmps8
      go_wp2_with (first
        | ((with_reducible show wpList _ _ _ (⟨some 1, _, _, _, _, _⟩ :: _) _ _); refine wpList_box _ rfl 26 (.tmp 0) rfl (siC a0 n0 c0 a1 n1 c1 a2 n2 c2 a3 n3 c3 a4 n4 c4 a5 n5 c5 x.pct) rfl ?_; intro wa y1 y2 y3; have HBa := Lib.hid y2; have HSa := Lib.hid y1; clear y1 y2 y3)
        | (go_at_call 9; refine (awake_any wa).mono ?_; rintro e wb ⟨rfl, b1⟩; have HBb := Lib.hid (below_then HBa.out b1); have HSb := Lib.hid (HSa.out.kept b1); clear b1)
        | ((with_reducible show wpList _ _ _ (⟨some 15, _, _, _, _, _⟩ :: _) _ _); refine wpList_loadv _ rfl 26 (.tmp 1) rfl 7 (by kernel_rfl) w.heap.size 0 _ rfl (BL.all HSb.out) rfl ?_)
        | (go_at_call 10; refine (large_any _ x _ (show rSi wb _ _ from ⟨a0, n0, c0, a1, n1, c1, a2, n2, c2, a3, n3, c3, a4, n4, c4, a5, n5, c5, rfl, H.out.kept HBb.out⟩)).mono ?_; rintro e wc ⟨rfl, b1⟩; rw [hlg]; have HBc := Lib.hid (below_then HBb.out b1); have HSc := Lib.hid (HSb.out.kept b1); clear b1)
        | ((with_reducible show wpList _ _ _ (⟨some 18, _, _, _, _, _⟩ :: _) _ _); refine wpList_loadv _ rfl 26 (.tmp 1) rfl 7 (by kernel_rfl) w.heap.size 0 _ rfl (BL.all HSc.out) rfl ?_)
        | (go_at_call 12; (with_reducible show Calls _ _ _ wc _); refine (to_any a0 n0 c0 a1 n1 c1 a2 n2 c2 a3 n3 c3 a4 n4 c4 a5 n5 c5 x.pct wc).mono ?_; rintro e wd ⟨rfl, b1⟩; have HBd := Lib.hid (below_then HBc.out b1); have HSd := Lib.hid (HSc.out.kept b1); clear b1)
        | (go_at_call 31; refine (uncovered_any a0 n0 c0 a1 n1 c1 a2 n2 c2 a3 n3 c3 a4 n4 c4 a5 n5 c5 x wd (H.out.kept HBd.out) HBG.out).mono ?_; unfold TStr; rw [hv]; (simp only [Bool.false_eq_true, if_false]); rintro e we ⟨rfl, b1⟩; have HBe := Lib.hid (below_then HBd.out b1); have HSe := Lib.hid (HSd.out.kept b1); clear b1)
        | ((with_reducible show wpList _ _ _ (⟨some 24, _, _, _, _, _⟩ :: _) _ _); refine wpList_loadv _ rfl 26 (.tmp 1) rfl 7 (by kernel_rfl) w.heap.size 0 _ rfl (BL.all HSe.out) rfl ?_)
        | (go_at_call 12; (with_reducible show Calls _ _ _ we _); refine (to_any a0 n0 c0 a1 n1 c1 a2 n2 c2 a3 n3 c3 a4 n4 c4 a5 n5 c5 x.pct we).mono ?_; rintro e wf ⟨rfl, b1⟩; have HXf := Lib.hid b1; have HBf := Lib.hid (below_then HBe.out b1); have HSf := Lib.hid (HSe.out.kept b1); clear b1)
        | (go_at_call 25; refine (unneeded_any a0 n0 c0 a1 n1 c1 a2 n2 c2 a3 n3 c3 a4 n4 c4 a5 n5 c5 x wf (H.out.kept HBf.out) HBG.out).mono ?_; unfold TStr; rw [hv]; (simp only [Bool.false_eq_true, if_false]); rintro e wg ⟨rfl, b1⟩; have HBg := Lib.hid (below_then HBf.out b1); have HSg := Lib.hid (HSf.out.kept b1); clear b1)
        | ((with_reducible show wpList _ _ _ (⟨some 30, _, _, _, _, _⟩ :: _) _ _); refine wpList_loadv _ rfl 26 (.tmp 1) rfl 7 (by kernel_rfl) w.heap.size 0 _ rfl (BL.all HSg.out) rfl ?_)
        | (go_at_call 12; (with_reducible show Calls _ _ _ wg _); refine (to_any a0 n0 c0 a1 n1 c1 a2 n2 c2 a3 n3 c3 a4 n4 c4 a5 n5 c5 x.pct wg).mono ?_; rintro e wh ⟨rfl, b1⟩; have HXh := Lib.hid b1; have HBh := Lib.hid (below_then HBg.out b1); have HSh := Lib.hid (HSg.out.kept b1); clear b1)
        | (go_at_call 32; refine (sparse_any a0 n0 c0 a1 n1 c1 a2 n2 c2 a3 n3 c3 a4 n4 c4 a5 n5 c5 x wh (H.out.kept HBh.out) HBG.out).mono ?_; unfold TStr; rw [hv]; (simp only [Bool.false_eq_true, if_false]); rintro e wi ⟨rfl, b1⟩; have HBi := Lib.hid (below_then HBh.out b1); have HSi := Lib.hid (HSh.out.kept b1); clear b1)
        | ((with_reducible show wpList _ _ _ (⟨some 35, _, _, _, _, _⟩ :: _) _ _); refine wpList_loadv _ rfl 26 (.tmp 1) rfl 7 (by kernel_rfl) w.heap.size 0 _ rfl (BL.all HSi.out) rfl ?_)
        | (go_at_call 13; refine (sivalid_any _ x _ (show rSi wi _ _ from ⟨a0, n0, c0, a1, n1, c1, a2, n2, c2, a3, n3, c3, a4, n4, c4, a5, n5, c5, rfl, H.out.kept HBi.out⟩)).mono ?_; rintro e wj ⟨rfl, b1⟩; rw [hv]; have HXj := Lib.hid b1; have HBj := Lib.hid (below_then HBi.out b1); have HSj := Lib.hid (HSi.out.kept b1); have q0 := (HSi.out.kept b1).get (j := 0) rfl; clear b1)
        | ((with_reducible show wpList _ _ _ (⟨some 38, _, _, _, _, _⟩ :: _) _ _); refine wpList_loadv _ rfl 26 (.tmp 1) rfl 7 (by kernel_rfl) w.heap.size 0 _ rfl (BL.all HSj.out) rfl ?_)
        | (go_at_call 12; (with_reducible show Calls _ _ _ wj _); refine (to_any a0 n0 c0 a1 n1 c1 a2 n2 c2 a3 n3 c3 a4 n4 c4 a5 n5 c5 x.pct wj).mono ?_; rintro e wk ⟨rfl, b1⟩; have HBk := Lib.hid (below_then HBj.out b1); clear b1)
        | (go_at_call 23; refine (ccheck_any _ x _ (show rSi wk _ _ from ⟨a0, n0, c0, a1, n1, c1, a2, n2, c2, a3, n3, c3, a4, n4, c4, a5, n5, c5, rfl, H.out.kept HBk.out⟩)).mono ?_; rintro e wl ⟨rfl, b1⟩; rw [hv]; have HBl := Lib.hid (below_then HBk.out b1); clear b1))
      go_ret
      exact ⟨rfl, HBl.out⟩
    | true =>
      have HPC := Lib.hid (siB_pct hv)
      go_enter Try.func8, Try.ntmps8
      go_wp2_with (first
        | ((with_reducible show wpList _ _ _ (⟨some 1, _, _, _, _, _⟩ :: _) _ _); refine wpList_box _ rfl 26 (.tmp 0) rfl (siC a0 n0 c0 a1 n1 c1 a2 n2 c2 a3 n3 c3 a4 n4 c4 a5 n5 c5 x.pct) rfl ?_; intro wa y1 y2 y3; have HBa := Lib.hid y2; have HSa := Lib.hid y1; clear y1 y2 y3)
        | (go_at_call 9; refine (awake_any wa).mono ?_; rintro e wb ⟨rfl, b1⟩; have HBb := Lib.hid (below_then HBa.out b1); have HSb := Lib.hid (HSa.out.kept b1); clear b1)
        | ((with_reducible show wpList _ _ _ (⟨some 15, _, _, _, _, _⟩ :: _) _ _); refine wpList_loadv _ rfl 26 (.tmp 1) rfl 7 (by kernel_rfl) w.heap.size 0 _ rfl (BL.all HSb.out) rfl ?_)
        | (go_at_call 10; refine (large_any _ x _ (show rSi wb _ _ from ⟨a0, n0, c0, a1, n1, c1, a2, n2, c2, a3, n3, c3, a4, n4, c4, a5, n5, c5, rfl, H.out.kept HBb.out⟩)).mono ?_; rintro e wc ⟨rfl, b1⟩; rw [hlg]; have HBc := Lib.hid (below_then HBb.out b1); have HSc := Lib.hid (HSb.out.kept b1); clear b1)
        | ((with_reducible show wpList _ _ _ (⟨some 18, _, _, _, _, _⟩ :: _) _ _); refine wpList_loadv _ rfl 26 (.tmp 1) rfl 7 (by kernel_rfl) w.heap.size 0 _ rfl (BL.all HSc.out) rfl ?_)
        | (go_at_call 12; (with_reducible show Calls _ _ _ wc _); refine (to_any a0 n0 c0 a1 n1 c1 a2 n2 c2 a3 n3 c3 a4 n4 c4 a5 n5 c5 x.pct wc).mono ?_; rintro e wd ⟨rfl, b1⟩; have HBd := Lib.hid (below_then HBc.out b1); have HSd := Lib.hid (HSc.out.kept b1); clear b1)
        | (go_at_call 31; refine (uncovered_any a0 n0 c0 a1 n1 c1 a2 n2 c2 a3 n3 c3 a4 n4 c4 a5 n5 c5 x wd (H.out.kept HBd.out) HBG.out).mono ?_; unfold TStr; rw [hv]; (simp only [if_true]); rintro e we ⟨Aa, ca, rfl, la, b1⟩; have HLa := Lib.hid la; have HBe := Lib.hid (below_then HBd.out b1); have HSe := Lib.hid (HSd.out.kept b1); clear b1 la)
        | ((with_reducible show wpList _ _ _ (⟨some 24, _, _, _, _, _⟩ :: _) _ _); refine wpList_loadv _ rfl 26 (.tmp 1) rfl 7 (by kernel_rfl) w.heap.size 0 _ rfl (BL.all HSe.out) rfl ?_)
        | (go_at_call 12; (with_reducible show Calls _ _ _ we _); refine (to_any a0 n0 c0 a1 n1 c1 a2 n2 c2 a3 n3 c3 a4 n4 c4 a5 n5 c5 x.pct we).mono ?_; rintro e wf ⟨rfl, b1⟩; have HXf := Lib.hid b1; have HBf := Lib.hid (below_then HBe.out b1); have HSf := Lib.hid (HSe.out.kept b1); clear b1)
        | (go_at_call 25; refine (unneeded_any a0 n0 c0 a1 n1 c1 a2 n2 c2 a3 n3 c3 a4 n4 c4 a5 n5 c5 x wf (H.out.kept HBf.out) HBG.out).mono ?_; unfold TStr; rw [hv]; (simp only [if_true]); rintro e wg ⟨Ab, cb, rfl, lb, b1⟩; have HLb := Lib.hid lb; have HBg := Lib.hid (below_then HBf.out b1); have HXg := Lib.hid (below_then HXf.out b1); have HSg := Lib.hid (HSf.out.kept b1); clear b1 lb)
        | ((with_reducible show wpList _ _ _ (⟨some 30, _, _, _, _, _⟩ :: _) _ _); refine wpList_loadv _ rfl 26 (.tmp 1) rfl 7 (by kernel_rfl) w.heap.size 0 _ rfl (BL.all HSg.out) rfl ?_)
        | (go_at_call 12; (with_reducible show Calls _ _ _ wg _); refine (to_any a0 n0 c0 a1 n1 c1 a2 n2 c2 a3 n3 c3 a4 n4 c4 a5 n5 c5 x.pct wg).mono ?_; rintro e wh ⟨rfl, b1⟩; have HXh := Lib.hid b1; have HBh := Lib.hid (below_then HBg.out b1); have HSh := Lib.hid (HSg.out.kept b1); clear b1)
        | (go_at_call 32; refine (sparse_any a0 n0 c0 a1 n1 c1 a2 n2 c2 a3 n3 c3 a4 n4 c4 a5 n5 c5 x wh (H.out.kept HBh.out) HBG.out).mono ?_; unfold TStr; rw [hv]; (simp only [if_true]); rintro e wi ⟨Ac, cc, rfl, lc, b1⟩; have HLc := Lib.hid lc; have HBi := Lib.hid (below_then HBh.out b1); have HXi := Lib.hid (below_then HXh.out b1); have HSi := Lib.hid (HSh.out.kept b1); clear b1 lc)
        | ((with_reducible show wpList _ _ _ (⟨some 35, _, _, _, _, _⟩ :: _) _ _); refine wpList_loadv _ rfl 26 (.tmp 1) rfl 7 (by kernel_rfl) w.heap.size 0 _ rfl (BL.all HSi.out) rfl ?_)
        | (go_at_call 13; refine (sivalid_any _ x _ (show rSi wi _ _ from ⟨a0, n0, c0, a1, n1, c1, a2, n2, c2, a3, n3, c3, a4, n4, c4, a5, n5, c5, rfl, H.out.kept HBi.out⟩)).mono ?_; rintro e wj ⟨rfl, b1⟩; rw [hv]; have HXj := Lib.hid b1; have HBj := Lib.hid (below_then HBi.out b1); have HSj := Lib.hid (HSi.out.kept b1); have q0 := (HSi.out.kept b1).get (j := 0) rfl; clear b1)
        | fail)
      have HXhg : Hid (Below wg.heap.size wg wj) := Lib.hid (below_thenB HXi.out HXi.out.size HXj.out)
      have HXfe : Hid (Below we.heap.size we wj) := Lib.hid (below_thenB HXg.out HXg.out.size HXhg.out)
      clear q0
      go_loopw [9, 10, 68] (fun v9 v10 iv wr => ∃ k : Nat, k ≤ n0 ∧ iv = .int .i64 (k : Int) ∧ Hid (O2 wj wr v9 v10 (unK x (x.sp.take k)) (spK x (x.sp.take k))) ∧ Hid (Below wj.heap.size wj wr)) (fun _ _ iv _ => n0 - (intOf iv).toNat)
      case atStart => exact ⟨0, by omega, rfl, Lib.hid ⟨OL.nil _ _ _ _ _, OL.nil _ _ _ _ _, fun b e => by cases e⟩, Lib.hid (Below.refl _ _)⟩
      case round =>
        obtain ⟨k, hk, rfl, ho, hb⟩ := hrel
        obtain ⟨wx, hwx⟩ : ∃ x, x = wr := ⟨_, rfl⟩
        rw [← hwx] at ho hb ⊢
        clear hwx
        have HBx := Lib.hid (below_thenB HBj.out HBj.out.size hb.out)
        have HSx := Lib.hid (HSj.out.kept hb.out)
        by_cases hlt : k < n0
        · obtain ⟨s, g, o, cs, hs, rfl, hat, hsp⟩ := H.out.sp.at_ stay_sp (Below.refl _ _) hlt
          have HSP := Lib.hid hsp
          obtain ⟨A, m, c, rfl, _, hid, _⟩ := hsp
          have HA := Lib.hid (hat.kept HBx.out)
          have HX := Lib.hid hs
          have HID := Lib.hid hid
          have HSZ := Lib.hid (siB_szOk hv (List.mem_of_getElem? hs))
          clear hs hat hid
          cases h1 : unneedB x s with
          | true =>
            have h2 := un_sp h1
            have HF1 : Hid (unK x (x.sp.take (k + 1)) = unK x (x.sp.take k) ++ [s.id]) := Lib.hid (by rw [unK_step HX.out, h1]; rfl)
            have HF2 : Hid (spK x (x.sp.take (k + 1)) = spK x (x.sp.take k)) := Lib.hid (by rw [spK_step HX.out, h2]; simp)
            have HFL : Hid ((unK x (x.sp.take k)).length ≤ k) := Lib.hid (by rw [unK, List.length_map]; exact Nat.le_trans (List.length_filter_le _ _) (by rw [List.length_take]; omega))
            have HOA := Lib.hid ho.out.a
            obtain ⟨nf, hnf⟩ : ∃ nf, (unK x (x.sp.take k)).length = nf := ⟨_, rfl⟩
            obtain ⟨css, hc1, hc2, hc3, hc4, hc5⟩ := (HOA).out
            rw [hnf] at hc4
            have HNF : Hid (nf ≤ k) := Lib.hid (by rw [← hnf]; exact HFL.out)
            have HN := Lib.hid hnf
            have HC1 := Lib.hid hc1
            have HC2 := Lib.hid hc2
            have HC3 := Lib.hid hc3
            have HC4 := Lib.hid hc4
            have HC5 := Lib.hid hc5
            clear hnf hc1 hc2 hc3 hc4 hc5
            go_wp2_with (first
              | ((with_reducible show wpList _ _ _ (⟨some 71, _, _, _, _, _⟩ :: _) _ _); refine wpList_loadv _ rfl 61 (.tmp 70) rfl 6 (by kernel_rfl) g (o + k * 6) (spC s A m c) (by go_simp) HA.out rfl ?_)
              | ((with_reducible show wpList _ _ _ (⟨some 12, _, _, _, _, _⟩ :: _) _ _); refine wpList_alloc _ rfl 61 rfl spZ spZero ?_; intro w3 a1 a2 a3; have HV3 := Lib.hid a1; have HX3 := Lib.hid a2; clear a1 a2 a3)
              | ((with_reducible show wpList _ _ _ (⟨none, _, _, _, _, _⟩ :: _) _ _); refine wpList_storev _ rfl 61 (.tmp 12) (.tmp 71) rfl 6 (by kernel_rfl) wx.heap.size 0 _ spZ (spC s A m c) rfl rfl HV3.out rfl (one_sp s A m c) (by decide) ?_; intro w4 a1 a2 a3; have HV4 : Hid (BL w4 wx.heap.size 61 (spC s A m c)) := Lib.hid a1; have HX4 : Hid (Below wx.heap.size wx w4) := Lib.hid (((Kp.of_below (S := fun _ => False) HX3.out).after a2 (fun i hi e => by omega)).below (Nat.le_refl _) (fun _ h => h.elim)); clear a1 a2 a3; have HSy := Lib.hid (HSx.out.kept HX4.out); have r0 := HV4.out.get (j := 0) rfl)
              | ((with_reducible show wpList _ _ _ (⟨some 72, _, _, _, _, _⟩ :: _) _ _); refine wpList_loadv _ rfl 26 (.tmp 1) rfl 7 (by kernel_rfl) w.heap.size 0 _ rfl (BL.all HSy.out) rfl ?_)
              | ((with_reducible show wpList _ _ _ (⟨some 73, _, _, _, _, _⟩ :: _) _ _); refine wpList_loadv _ rfl 61 (.tmp 12) rfl 6 (by kernel_rfl) wx.heap.size 0 (spC s A m c) rfl (BL.all HV4.out) rfl ?_)
              | (go_at_call 33; refine (isun_any _ _ x s _ (show rSi w4 _ _ from ⟨_, _, _, _, _, _, _, _, _, _, _, _, _, _, _, _, _, _, rfl, H.out.kept (below_thenB HBx.out HBx.out.size HX4.out)⟩) (stay_sp _ _ _ _ HSP.out (below_thenB HBx.out HBx.out.size HX4.out))).mono ?_; rintro e w5 ⟨rfl, b5⟩; rw [h1]; have HX5 := Lib.hid (below_thenB HX4.out HX4.out.size b5); have HV5 := Lib.hid (HV4.out.kept b5); have HSz := Lib.hid (HSy.out.kept b5); have p0 := (HV4.out.kept b5).get (j := 0) rfl; clear b5 r0)
              | ((with_reducible show wpList _ _ _ (⟨some 78, _, _, _, _, _⟩ :: _) _ _); refine wpList_bslice _ rfl 23 9 1 _ rfl #[(0, .string (strB s.id))] (by rw [List.map_toArray]; rfl) [.string (strB s.id)] (bslStr s.id _) ?_; intro w8 y1 y2 y3; have HG8 := Lib.hid y1; have HX8 := Lib.hid (below_thenB HX5.out HX5.out.size y2); have HV8 := Lib.hid (HV5.out.kept y2); have HS8 := Lib.hid (HSz.out.kept y2); clear y1 y2 y3)
              | ((with_reducible show wpList _ _ _ (⟨some 79, _, _, _, _, _⟩ :: _) _ _); obtain ⟨iS, i1, i2, i3, i4⟩ := info_some infoStr; refine wpList_appRW _ rfl (.tmp 75) (.tmp 78) 23 9 1 iS _ rfl Try.underlying23 i1 i2 i3 rfl _ nf _ rfl (HC4.out.kept HX8.out) w5.heap.size _ rfl HG8.out rfl (one_str s.id) (by rw [i4]; have := HNF.out; omega) (by have := HNF.out; omega) ?_; intro v' w9 y1; have HR9 := Lib.hid y1; have HV9 := Lib.hid (y1.bl (HC4.out.kept HX8.out) HV8.out (by decide)); have HS9 := Lib.hid (y1.bl (HC4.out.kept HX8.out) HS8.out (by decide)); have HY9 : Hid (Below wj.heap.size wj w9) := Lib.hid (((Kp.of_below (S := fun _ => False) (below_thenB hb.out hb.out.size HX8.out)).after y1.kp (fun i hi e => by have := HC5.out i e; omega)).below (Nat.le_refl _) (fun _ h => h.elim)); have HB9 := Lib.hid (below_thenB HBj.out HBj.out.size HY9.out); clear y1 i1 i2 i3 i4)
              | ((with_reducible show wpList _ _ _ (⟨some 80, _, _, _, _, _⟩ :: _) _ _); refine wpList_loadv _ rfl 26 (.tmp 1) rfl 7 (by kernel_rfl) w.heap.size 0 _ rfl (BL.all HS9.out) rfl ?_)
              | ((with_reducible show wpList _ _ _ (⟨some 81, _, _, _, _, _⟩ :: _) _ _); refine wpList_loadv _ rfl 61 (.tmp 12) rfl 6 (by kernel_rfl) wx.heap.size 0 (spC s A m c) rfl (BL.all HV9.out) rfl ?_)
              | (go_at_call 34; refine (issp_any _ _ x s _ (show rSi w9 _ _ from ⟨_, _, _, _, _, _, _, _, _, _, _, _, _, _, _, _, _, _, rfl, H.out.kept HB9.out⟩) (stay_sp _ _ _ _ HSP.out HB9.out) HSZ.out HPC.out).mono ?_; rintro e w6 ⟨rfl, b6⟩; rw [h2]; have HY6 := Lib.hid b6; have HV6 := Lib.hid (HV9.out.kept b6); have p0 := (HV9.out.kept b6).get (j := 0) rfl; clear b6)
              | fail)
            have HO9 : Hid (O2 wj w9 v' u10 (unK x (x.sp.take (k + 1))) (spK x (x.sp.take (k + 1)))) := Lib.hid (by
              rw [HF1.out, HF2.out]
              exact (ho.out.kept HX8.out).pushA HR9.out (OL.push HC1.out HC2.out HC3.out HC5.out HN.out rfl ⟨rfl, HID.out⟩ (by have := hb.out.size; have := HX8.out.size; omega) HR9.out))
            go_roundw
            case rel => exact ⟨k + 1, by omega, by go_num, Lib.hid (HO9.out.kept HY6.out), Lib.hid (below_thenB HY9.out HY9.out.size HY6.out)⟩
            case measure => simp [intOf]; omega
          | false =>
            have HF1 : Hid (unK x (x.sp.take (k + 1)) = unK x (x.sp.take k)) := Lib.hid (by rw [unK_step HX.out, h1]; simp)
            cases h2 : sparseB x s with
            | false =>
              have HF2 : Hid (spK x (x.sp.take (k + 1)) = spK x (x.sp.take k)) := Lib.hid (by rw [spK_step HX.out, h2]; simp)
              go_wp2_with (first
                | ((with_reducible show wpList _ _ _ (⟨some 71, _, _, _, _, _⟩ :: _) _ _); refine wpList_loadv _ rfl 61 (.tmp 70) rfl 6 (by kernel_rfl) g (o + k * 6) (spC s A m c) (by go_simp) HA.out rfl ?_)
                | ((with_reducible show wpList _ _ _ (⟨some 12, _, _, _, _, _⟩ :: _) _ _); refine wpList_alloc _ rfl 61 rfl spZ spZero ?_; intro w3 a1 a2 a3; have HV3 := Lib.hid a1; have HX3 := Lib.hid a2; clear a1 a2 a3)
                | ((with_reducible show wpList _ _ _ (⟨none, _, _, _, _, _⟩ :: _) _ _); refine wpList_storev _ rfl 61 (.tmp 12) (.tmp 71) rfl 6 (by kernel_rfl) wx.heap.size 0 _ spZ (spC s A m c) rfl rfl HV3.out rfl (one_sp s A m c) (by decide) ?_; intro w4 a1 a2 a3; have HV4 : Hid (BL w4 wx.heap.size 61 (spC s A m c)) := Lib.hid a1; have HX4 : Hid (Below wx.heap.size wx w4) := Lib.hid (((Kp.of_below (S := fun _ => False) HX3.out).after a2 (fun i hi e => by omega)).below (Nat.le_refl _) (fun _ h => h.elim)); clear a1 a2 a3; have HSy := Lib.hid (HSx.out.kept HX4.out); have r0 := HV4.out.get (j := 0) rfl)
                | ((with_reducible show wpList _ _ _ (⟨some 72, _, _, _, _, _⟩ :: _) _ _); refine wpList_loadv _ rfl 26 (.tmp 1) rfl 7 (by kernel_rfl) w.heap.size 0 _ rfl (BL.all HSy.out) rfl ?_)
                | ((with_reducible show wpList _ _ _ (⟨some 73, _, _, _, _, _⟩ :: _) _ _); refine wpList_loadv _ rfl 61 (.tmp 12) rfl 6 (by kernel_rfl) wx.heap.size 0 (spC s A m c) rfl (BL.all HV4.out) rfl ?_)
                | (go_at_call 33; refine (isun_any _ _ x s _ (show rSi w4 _ _ from ⟨_, _, _, _, _, _, _, _, _, _, _, _, _, _, _, _, _, _, rfl, H.out.kept (below_thenB HBx.out HBx.out.size HX4.out)⟩) (stay_sp _ _ _ _ HSP.out (below_thenB HBx.out HBx.out.size HX4.out))).mono ?_; rintro e w5 ⟨rfl, b5⟩; rw [h1]; have HX5 := Lib.hid (below_thenB HX4.out HX4.out.size b5); have HV5 := Lib.hid (HV4.out.kept b5); have HSz := Lib.hid (HSy.out.kept b5); have p0 := (HV4.out.kept b5).get (j := 0) rfl; clear b5 r0)
                | ((with_reducible show wpList _ _ _ (⟨some 80, _, _, _, _, _⟩ :: _) _ _); refine wpList_loadv _ rfl 26 (.tmp 1) rfl 7 (by kernel_rfl) w.heap.size 0 _ rfl (BL.all HSz.out) rfl ?_)
                | ((with_reducible show wpList _ _ _ (⟨some 81, _, _, _, _, _⟩ :: _) _ _); refine wpList_loadv _ rfl 61 (.tmp 12) rfl 6 (by kernel_rfl) wx.heap.size 0 (spC s A m c) rfl (BL.all HV5.out) rfl ?_)
                | (go_at_call 34; refine (issp_any _ _ x s _ (show rSi w5 _ _ from ⟨_, _, _, _, _, _, _, _, _, _, _, _, _, _, _, _, _, _, rfl, H.out.kept (below_thenB HBx.out HBx.out.size HX5.out)⟩) (stay_sp _ _ _ _ HSP.out (below_thenB HBx.out HBx.out.size HX5.out)) HSZ.out HPC.out).mono ?_; rintro e w6 ⟨rfl, b6⟩; rw [h2]; have HY6 := Lib.hid b6; have HV6 := Lib.hid (HV5.out.kept b6); have p0 := (HV5.out.kept b6).get (j := 0) rfl; clear b6)
                | fail)
              have HX6 := Lib.hid (below_thenB HX5.out HX5.out.size HY6.out)
              go_roundw
              case rel => exact ⟨k + 1, by omega, by go_num, Lib.hid (by rw [HF1.out, HF2.out]; exact ho.out.kept HX6.out), Lib.hid (below_thenB hb.out hb.out.size HX6.out)⟩
              case measure => simp [intOf]; omega
            | true =>
              have HF2 : Hid (spK x (x.sp.take (k + 1)) = spK x (x.sp.take k) ++ [s.id]) := Lib.hid (by rw [spK_step HX.out, h2]; rfl)
              have HFL : Hid ((spK x (x.sp.take k)).length ≤ k) := Lib.hid (by rw [spK, List.length_map]; exact Nat.le_trans (List.length_filter_le _ _) (by rw [List.length_take]; omega))
              have HOA := Lib.hid ho.out.b
              obtain ⟨nf, hnf⟩ : ∃ nf, (spK x (x.sp.take k)).length = nf := ⟨_, rfl⟩
              obtain ⟨css, hc1, hc2, hc3, hc4, hc5⟩ := (HOA).out
              rw [hnf] at hc4
              have HNF : Hid (nf ≤ k) := Lib.hid (by rw [← hnf]; exact HFL.out)
              have HN := Lib.hid hnf
              have HC1 := Lib.hid hc1
              have HC2 := Lib.hid hc2
              have HC3 := Lib.hid hc3
              have HC4 := Lib.hid hc4
              have HC5 := Lib.hid hc5
              clear hnf hc1 hc2 hc3 hc4 hc5
              go_wp2_with (first
                | ((with_reducible show wpList _ _ _ (⟨some 71, _, _, _, _, _⟩ :: _) _ _); refine wpList_loadv _ rfl 61 (.tmp 70) rfl 6 (by kernel_rfl) g (o + k * 6) (spC s A m c) (by go_simp) HA.out rfl ?_)
                | ((with_reducible show wpList _ _ _ (⟨some 12, _, _, _, _, _⟩ :: _) _ _); refine wpList_alloc _ rfl 61 rfl spZ spZero ?_; intro w3 a1 a2 a3; have HV3 := Lib.hid a1; have HX3 := Lib.hid a2; clear a1 a2 a3)
                | ((with_reducible show wpList _ _ _ (⟨none, _, _, _, _, _⟩ :: _) _ _); refine wpList_storev _ rfl 61 (.tmp 12) (.tmp 71) rfl 6 (by kernel_rfl) wx.heap.size 0 _ spZ (spC s A m c) rfl rfl HV3.out rfl (one_sp s A m c) (by decide) ?_; intro w4 a1 a2 a3; have HV4 : Hid (BL w4 wx.heap.size 61 (spC s A m c)) := Lib.hid a1; have HX4 : Hid (Below wx.heap.size wx w4) := Lib.hid (((Kp.of_below (S := fun _ => False) HX3.out).after a2 (fun i hi e => by omega)).below (Nat.le_refl _) (fun _ h => h.elim)); clear a1 a2 a3; have HSy := Lib.hid (HSx.out.kept HX4.out); have r0 := HV4.out.get (j := 0) rfl)
                | ((with_reducible show wpList _ _ _ (⟨some 72, _, _, _, _, _⟩ :: _) _ _); refine wpList_loadv _ rfl 26 (.tmp 1) rfl 7 (by kernel_rfl) w.heap.size 0 _ rfl (BL.all HSy.out) rfl ?_)
                | ((with_reducible show wpList _ _ _ (⟨some 73, _, _, _, _, _⟩ :: _) _ _); refine wpList_loadv _ rfl 61 (.tmp 12) rfl 6 (by kernel_rfl) wx.heap.size 0 (spC s A m c) rfl (BL.all HV4.out) rfl ?_)
                | (go_at_call 33; refine (isun_any _ _ x s _ (show rSi w4 _ _ from ⟨_, _, _, _, _, _, _, _, _, _, _, _, _, _, _, _, _, _, rfl, H.out.kept (below_thenB HBx.out HBx.out.size HX4.out)⟩) (stay_sp _ _ _ _ HSP.out (below_thenB HBx.out HBx.out.size HX4.out))).mono ?_; rintro e w5 ⟨rfl, b5⟩; rw [h1]; have HX5 := Lib.hid (below_thenB HX4.out HX4.out.size b5); have HV5 := Lib.hid (HV4.out.kept b5); have HSz := Lib.hid (HSy.out.kept b5); have p0 := (HV4.out.kept b5).get (j := 0) rfl; clear b5 r0)
                | ((with_reducible show wpList _ _ _ (⟨some 80, _, _, _, _, _⟩ :: _) _ _); refine wpList_loadv _ rfl 26 (.tmp 1) rfl 7 (by kernel_rfl) w.heap.size 0 _ rfl (BL.all HSz.out) rfl ?_)
                | ((with_reducible show wpList _ _ _ (⟨some 81, _, _, _, _, _⟩ :: _) _ _); refine wpList_loadv _ rfl 61 (.tmp 12) rfl 6 (by kernel_rfl) wx.heap.size 0 (spC s A m c) rfl (BL.all HV5.out) rfl ?_)
                | (go_at_call 34; refine (issp_any _ _ x s _ (show rSi w5 _ _ from ⟨_, _, _, _, _, _, _, _, _, _, _, _, _, _, _, _, _, _, rfl, H.out.kept (below_thenB HBx.out HBx.out.size HX5.out)⟩) (stay_sp _ _ _ _ HSP.out (below_thenB HBx.out HBx.out.size HX5.out)) HSZ.out HPC.out).mono ?_; rintro e w6 ⟨rfl, b6⟩; rw [h2]; have HY6 := Lib.hid b6; have HV6 := Lib.hid (HV5.out.kept b6); have p0 := (HV5.out.kept b6).get (j := 0) rfl; clear b6)
                | ((with_reducible show wpList _ _ _ (⟨some 86, _, _, _, _, _⟩ :: _) _ _); refine wpList_bslice _ rfl 23 9 1 _ rfl #[(0, .string (strB s.id))] (by rw [List.map_toArray]; rfl) [.string (strB s.id)] (bslStr s.id _) ?_; intro w8 y1 y2 y3; have HG8 := Lib.hid y1; have HX8 := Lib.hid (below_thenB (below_thenB HX5.out HX5.out.size HY6.out) (below_thenB HX5.out HX5.out.size HY6.out).size y2); have HV8 := Lib.hid (HV6.out.kept y2); have HS8 := Lib.hid ((HSz.out.kept HY6.out).kept y2); clear y1 y2 y3)
                | ((with_reducible show wpList _ _ _ (⟨some 87, _, _, _, _, _⟩ :: _) _ _); obtain ⟨iS, i1, i2, i3, i4⟩ := info_some infoStr; refine wpList_appRW _ rfl (.tmp 83) (.tmp 86) 23 9 1 iS _ rfl Try.underlying23 i1 i2 i3 rfl _ nf _ rfl (HC4.out.kept HX8.out) w6.heap.size _ rfl HG8.out rfl (one_str s.id) (by rw [i4]; have := HNF.out; omega) (by have := HNF.out; omega) ?_; intro v' w9 y1; have HR9 := Lib.hid y1; have HV9 := Lib.hid (y1.bl (HC4.out.kept HX8.out) HV8.out (by decide)); have HS9 := Lib.hid (y1.bl (HC4.out.kept HX8.out) HS8.out (by decide)); have HY9 : Hid (Below wj.heap.size wj w9) := Lib.hid (((Kp.of_below (S := fun _ => False) (below_thenB hb.out hb.out.size HX8.out)).after y1.kp (fun i hi e => by have := HC5.out i e; omega)).below (Nat.le_refl _) (fun _ h => h.elim)); have HB9 := Lib.hid (below_thenB HBj.out HBj.out.size HY9.out); clear y1 i1 i2 i3 i4)
                | fail)
              have HO9 : Hid (O2 wj w9 u9 v' (unK x (x.sp.take (k + 1))) (spK x (x.sp.take (k + 1)))) := Lib.hid (by
                rw [HF1.out, HF2.out]
                exact (ho.out.kept HX8.out).pushB HR9.out (OL.push HC1.out HC2.out HC3.out HC5.out HN.out rfl ⟨rfl, HID.out⟩ (by have := hb.out.size; have := HX8.out.size; omega) HR9.out))
              go_roundw
              case rel => exact ⟨k + 1, by omega, by go_num, HO9, HY9⟩
              case measure => simp [intOf]; omega
        · obtain rfl : n0 = k := by omega
          have ho9 := ho.out
          rw [take_end HL.out] at ho9
          have HLU : Hid ((unneedL x).length * 16 ≤ lim ∧ (sparseL x).length * 16 ≤ lim) := Lib.hid (by
            have h1 : (unneedL x).length ≤ x.sp.length := by rw [unneedL, List.length_map]; exact List.length_filter_le _ _
            have h2 : (sparseL x).length ≤ x.sp.length := by rw [sparseL, List.length_map]; exact List.length_filter_le _ _
            have := HBG.out
            unfold lim
            omega)
          obtain ⟨A9, c9, e9, l9⟩ := OL.ls (b := 16) (L := unneedL x) ho9.a stay_str hb.out HLU.out.1
          obtain ⟨A10, c10, e10, l10⟩ := OL.ls (b := 16) (L := sparseL x) ho9.b stay_str hb.out HLU.out.2
          subst e9
          subst e10
          have L9 := Lib.hid l9
          have L10 := Lib.hid l10
          clear l9 l10 ho ho9
          go_wp2_with (first
            | ((with_reducible show wpList _ _ _ (⟨some 89, _, _, _, _, _⟩ :: _) _ _); refine wpList_loadv _ rfl 26 (.tmp 1) rfl 7 (by kernel_rfl) w.heap.size 0 _ rfl (BL.all HSx.out) rfl ?_)
            | (go_at_call 12; (with_reducible show Calls _ _ _ wx _); refine (to_any a0 n0 c0 a1 n1 c1 a2 n2 c2 a3 n3 c3 a4 n4 c4 a5 n5 c5 x.pct wx).mono ?_; rintro e wk ⟨rfl, b1⟩; have HXk := Lib.hid b1; have HSk := Lib.hid (HSx.out.kept b1); clear b1)
            | (go_at_call 23; refine (ccheck_any _ x _ (show rSi wk _ _ from ⟨a0, n0, c0, a1, n1, c1, a2, n2, c2, a3, n3, c3, a4, n4, c4, a5, n5, c5, rfl, H.out.kept (below_then HBx.out HXk.out)⟩)).mono ?_; rintro e wl ⟨rfl, b1⟩; rw [hv]; have HXl := Lib.hid (below_then HXk.out b1); have HSl := Lib.hid (HSk.out.kept b1); clear b1)
            | ((with_reducible show wpList _ _ _ (⟨some 107, _, _, _, _, _⟩ :: _) _ _); refine wpList_loadvg _ rfl 26 (.tmp 1) rfl 7 (by kernel_rfl) w.heap.size 0 _ rfl (BL.all HSl.out) rfl ?_)
            | (go_at_call 36; refine (uncov_any _ x wl (show rSi wl _ _ from ⟨a0, n0, c0, a1, n1, c1, a2, n2, c2, a3, n3, c3, a4, n4, c4, a5, n5, c5, rfl, H.out.kept (below_then HBx.out HXl.out)⟩)).mono ?_; rintro e wm ⟨Au, cu, rfl, lu, b1⟩; have HLu := Lib.hid lu; have HXm := Lib.hid (below_then HXl.out b1); clear b1 lu)
            | (go_at_call 35; (with_reducible show Calls _ _ _ wm _); refine (same_any _ _ _ (uncov x) _ _ _ (uncov x) wm (HLa.out.kept stay_str (below_thenB HXfe.out HXfe.out.size (below_then hb.out HXm.out))) HLu.out).mono ?_; rintro e wn ⟨rfl, b1⟩; rw [decide_eq_true (rfl : uncov x = uncov x)]; have HXn := Lib.hid (below_then HXm.out b1); clear b1)
            | (go_at_call 35; (with_reducible show Calls _ _ _ wn _); refine (same_any _ _ _ (unneedL x) _ _ _ (unneedL x) wn (HLb.out.kept stay_str (below_thenB HXhg.out HXhg.out.size (below_then hb.out HXn.out))) (L9.out.kept stay_str HXn.out)).mono ?_; rintro e wo ⟨rfl, b1⟩; rw [decide_eq_true (rfl : unneedL x = unneedL x)]; have HXo := Lib.hid (below_then HXn.out b1); clear b1)
            | (go_at_call 35; (with_reducible show Calls _ _ _ wo _); refine (same_any _ _ _ (sparseL x) _ _ _ (sparseL x) wo (HLc.out.kept stay_str (below_thenB HXj.out HXj.out.size (below_then hb.out HXo.out))) (L10.out.kept stay_str HXo.out)).mono ?_; rintro e wp ⟨rfl, b1⟩; rw [decide_eq_true (rfl : sparseL x = sparseL x)]; have HXp := Lib.hid (below_then HXo.out b1); clear b1))
          go_ret
          exact ⟨rfl, below_then HBx.out HXp.out⟩
end Go.Proofs.Ytboglaokdgnpaaa
