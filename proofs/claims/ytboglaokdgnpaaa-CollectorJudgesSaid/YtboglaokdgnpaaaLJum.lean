/- The law CollectorJudges: its walk. -/
import Derived.Test.YtboglaokdgnpaaaA30
import Derived.Test.YtboglaokdgnpaaaA31
import Derived.Test.YtboglaokdgnpaaaWlm
import Derived.Test.YtboglaokdgnpaaaWom
import Derived.Test.YtboglaokdgnpaaaWpm
import Derived.Test.YtboglaokdgnpaaaWqm
import Derived.Test.YtboglaokdgnpaaaWtm
import Derived.Test.YtboglaokdgnpaaaWvm
import Derived.Test.YtboglaokdgnpaaaA25
namespace Go.Proofs.Ytboglaokdgnpaaa
open Go Go.RowKit Gf Sha

theorem rSi_len {w : World} {cs : List Value} {y : Si} (h : rSi w cs y) : cs.length = 7 := by
 obtain ⟨a0, n0, c0, a1, n1, c1, a2, n2, c2, a3, n3, c3, a4, n4, c4, a5, n5, c5, rfl, _⟩ := h; rfl
theorem rSi_one {w : World} {cs : List Value} {y : Si} (h : rSi w cs y) : ∀ v ∈ cs, v.oneCell' = true := by
 obtain ⟨a0, n0, c0, a1, n1, c1, a2, n2, c2, a3, n3, c3, a4, n4, c4, a5, n5, c5, rfl, _⟩ := h; exact one_si _ _ _ _ _ _ _ _ _ _ _ _ _ _ _ _ _ _ _
theorem rSi_kept {w w' : World} {cs : List Value} {y : Si} (h : rSi w cs y) (hb : Below w.heap.size w w') : rSi w' cs y := by
 obtain ⟨a0, n0, c0, a1, n1, c1, a2, n2, c2, a3, n3, c3, a4, n4, c4, a5, n5, c5, rfl, hq⟩ := h; exact ⟨a0, n0, c0, a1, n1, c1, a2, n2, c2, a3, n3, c3, a4, n4, c4, a5, n5, c5, rfl, hq.kept hb⟩
theorem rSi_put {g : Nat} {w w' w1 : World} {t : TypeId} {cs c0 : List Value} {y y0 : Si} (h : rSi w cs y) (h0 : rSi w1 c0 y0) (hk : Kp (· = g) w w') (hb : BL w g t c0) : rSi w' cs y := by
 obtain ⟨a0, n0, c0, a1, n1, c1, a2, n2, c2, a3, n3, c3, a4, n4, c4, a5, n5, c5, rfl, hq⟩ := h
 obtain ⟨_, _, _, _, _, _, _, _, _, _, _, _, _, _, _, _, _, _, rfl, _⟩ := h0
 exact ⟨a0, n0, c0, a1, n1, c1, a2, n2, c2, a3, n3, c3, a4, n4, c4, a5, n5, c5, rfl, hq.put hk hb⟩
theorem splice_full (l vs : List Value) (h : vs.length = l.length) : splice l 0 vs = vs := by simp [splice, h]
theorem rafter_safe (cx : List Value) (y : Si) (w : World) (hx : rSi w cx y) (cs : List Value) (s : Stp) (hs : rStp w cs s) (h : rSafe y s = true) (hk : s.kind ≠ 1) (hbd : y.cond.length + s.sts.length ≤ 100000) :
  Calls Try.prog 22 #[.agg cx.toArray, .agg cs.toArray, .slice none 0 0] w (AfterR (rAfter y s) 0 w) := by
 unfold rSafe at h
 unfold rAfter
 by_cases h3 : s.kind = 3
 ·
  rw [if_pos h3] at h ⊢
  rw [Bool.and_eq_true] at h
  exact rafter3 cx y w hx cs s hs none 0 0 h3 rfl h.1
 rw [if_neg h3] at h ⊢
 by_cases h4 : s.kind = 4
 ·
  rw [if_pos h4] at h ⊢
  have h5 := List.all_eq_true.1 h
  refine rafter4 cx y w hx cs s hs none 0 0 h4 rfl (List.all_eq_true.2 fun id hid => ?_) (List.all_eq_true.2 fun id hid => ?_)
  ·
   have := h5 id hid
   unfold fg2 at this
   exact (Bool.and_eq_true_iff.1 this).1
  ·
   have := h5 id hid
   unfold fg2 at this
   exact (Bool.and_eq_true_iff.1 this).2
 rw [if_neg h4] at h ⊢
 rw [if_neg hk] at h
 by_cases h2 : s.kind = 2
 ·
  rw [if_pos h2] at h ⊢
  rw [Bool.and_eq_true] at h
  have h5 := List.all_eq_true.1 h.1
  refine rafter2 cx y w hx cs s hs none 0 0 h2 rfl (List.all_eq_true.2 fun id hid => ?_) hbd
  have := h5 id hid
  unfold lv2 at this
  exact (Bool.and_eq_true_iff.1 this).1
 ·
  rw [if_neg h2] at h; cases h
set_option maxRecDepth 100000 in
set_option maxHeartbeats 8000000 in
theorem judges_walk (cx : List Value) (x : Si) (A : Option Addr) (n c : Nat) (l : List Stp) (w : World) (hx : rSi w cx x) (hl : LS rStp 5 80 w A n c l) :
  Calls Try.prog 7 #[.agg cx.toArray, .slice A n c] w fun e w' => e = .returned (.bool true) ∧ Below w.heap.size w w' := by
 obtain ⟨a0, n0, c0, a1, n1, c1, a2, n2, c2, a3, n3, c3, a4, n4, c4, a5, n5, c5, rfl, hq⟩ := hx
 have H := Lib.hid hq
 have HL := Lib.hid hl
 have HN := Lib.hid hl.1
 have hn := hl.len_le
 clear hq hl
 cases hlg : largeB x with
 | true =>
  go_enter Try.func7, Try.ntmps7
  go_wp2_with (first
   | ((with_reducible show OpW 2); refine wpList_box _ rfl 26 (.tmp 0) rfl (siC a0 n0 c0 a1 n1 c1 a2 n2 c2 a3 n3 c3 a4 n4 c4 a5 n5 c5 x.pct) rfl ?_; intro wa y1 y2 y3; have HBa := Lib.hid y2; have HSa := Lib.hid y1; clear y1 y2 y3)
   | (go_at_call 9; refine (awake_any wa).mono ?_; rintro e wb ⟨rfl, b1⟩; have HBb := Lib.hid (below_then HBa.out b1); have HSb := Lib.hid (HSa.out.kept b1); clear b1)
   | ((with_reducible show OpW 13); refine wpList_loadv _ rfl 26 (.tmp 2) rfl 7 (by kernel_rfl) w.heap.size 0 _ rfl (BL.all HSb.out) rfl ?_)
   | (go_at_call 10; refine (large_any _ x _ (show rSi wb _ _ from ⟨a0, n0, c0, a1, n1, c1, a2, n2, c2, a3, n3, c3, a4, n4, c4, a5, n5, c5, rfl, H.out.kept HBb.out⟩)).mono ?_; rintro e wc ⟨rfl, b1⟩; rw [hlg]; have HBc := Lib.hid (below_then HBb.out b1); have HSc := Lib.hid (HSb.out.kept b1); clear b1)
   | fail)
  go_ret
  exact ⟨rfl, HBc.out⟩
 | false =>
  cases hwd : wideB l with
  | true =>
   go_enter Try.func7, Try.ntmps7
   go_wp2_with (first
    | ((with_reducible show OpW 2); refine wpList_box _ rfl 26 (.tmp 0) rfl (siC a0 n0 c0 a1 n1 c1 a2 n2 c2 a3 n3 c3 a4 n4 c4 a5 n5 c5 x.pct) rfl ?_; intro wa y1 y2 y3; have HBa := Lib.hid y2; have HSa := Lib.hid y1; clear y1 y2 y3)
    | (go_at_call 9; refine (awake_any wa).mono ?_; rintro e wb ⟨rfl, b1⟩; have HBb := Lib.hid (below_then HBa.out b1); have HSb := Lib.hid (HSa.out.kept b1); clear b1)
    | ((with_reducible show OpW 13); refine wpList_loadv _ rfl 26 (.tmp 2) rfl 7 (by kernel_rfl) w.heap.size 0 _ rfl (BL.all HSb.out) rfl ?_)
    | (go_at_call 10; refine (large_any _ x _ (show rSi wb _ _ from ⟨a0, n0, c0, a1, n1, c1, a2, n2, c2, a3, n3, c3, a4, n4, c4, a5, n5, c5, rfl, H.out.kept HBb.out⟩)).mono ?_; rintro e wc ⟨rfl, b1⟩; rw [hlg]; have HBc := Lib.hid (below_then HBb.out b1); have HSc := Lib.hid (HSb.out.kept b1); clear b1)
    | (go_at_call 17; refine (wide_any A n c l wc (HL.out.kept stay_stp HBc.out)).mono ?_; rintro e wd ⟨rfl, b1⟩; rw [hwd]; have HBd := Lib.hid (below_then HBc.out b1); have HSd := Lib.hid (HSc.out.kept b1); clear b1)
    | fail)
   go_ret
   exact ⟨rfl, HBd.out⟩
  | false =>
   have HLG := Lib.hid (large_no hlg)
   have HWD := Lib.hid (wide_no hwd)
   have HN1 : Hid (n ≤ 1000) := Lib.hid (by have := HWD.out.1; have := HN.out; omega)
   have HN4 : Hid (n ≤ 40) := Lib.hid (by have := HWD.out.1; have := HN.out; omega)
   have HBG : Hid (x.sp.length ≤ 1000) := Lib.hid (by have := HLG.out; omega)
   cases hv : siB x with
   | false =>
    have HRS : Hid (safeV x l = .tuple #[.bool false, .int .i64 1]) := Lib.hid (by rw [safeV, hv]; rfl)
    have HRF : Hid (freedV x l = .tuple #[.int .i64 0, .int .i64 1]) := Lib.hid (by rw [freedV, hv]; rfl)
    go_enter Try.func7, Try.ntmps7
    go_wp2_with (first
     | ((with_reducible show OpW 2); refine wpList_box _ rfl 26 (.tmp 0) rfl (siC a0 n0 c0 a1 n1 c1 a2 n2 c2 a3 n3 c3 a4 n4 c4 a5 n5 c5 x.pct) rfl ?_; intro wa y1 y2 y3; have HBa := Lib.hid y2; have HSa := Lib.hid y1; clear y1 y2 y3)
     | (go_at_call 9; refine (awake_any wa).mono ?_; rintro e wb ⟨rfl, b1⟩; have HBb := Lib.hid (below_then HBa.out b1); have HSb := Lib.hid (HSa.out.kept b1); clear b1)
     | ((with_reducible show OpW 13); refine wpList_loadv _ rfl 26 (.tmp 2) rfl 7 (by kernel_rfl) w.heap.size 0 _ rfl (BL.all HSb.out) rfl ?_)
     | (go_at_call 10; refine (large_any _ x _ (show rSi wb _ _ from ⟨a0, n0, c0, a1, n1, c1, a2, n2, c2, a3, n3, c3, a4, n4, c4, a5, n5, c5, rfl, H.out.kept HBb.out⟩)).mono ?_; rintro e wc ⟨rfl, b1⟩; rw [hlg]; have HBc := Lib.hid (below_then HBb.out b1); have HSc := Lib.hid (HSb.out.kept b1); clear b1)
     | (go_at_call 17; refine (wide_any A n c l wc (HL.out.kept stay_stp HBc.out)).mono ?_; rintro e wd ⟨rfl, b1⟩; rw [hwd]; have HBd := Lib.hid (below_then HBc.out b1); have HSd := Lib.hid (HSc.out.kept b1); clear b1)
     | ((with_reducible show OpW 20); refine wpList_loadv _ rfl 26 (.tmp 2) rfl 7 (by kernel_rfl) w.heap.size 0 _ rfl (BL.all HSd.out) rfl ?_)
     | (go_at_call 12; (with_reducible show Calls _ _ _ wd _); refine (to_any a0 n0 c0 a1 n1 c1 a2 n2 c2 a3 n3 c3 a4 n4 c4 a5 n5 c5 x.pct wd).mono ?_; rintro e we ⟨rfl, b1⟩; have HBe := Lib.hid (below_then HBd.out b1); have HSe := Lib.hid (HSd.out.kept b1); clear b1)
     | (go_at_call 27; (with_reducible show Calls _ _ _ we _); refine (steps_any A n c l we (HL.out.kept stay_stp HBe.out) HN1.out).mono ?_; rintro e wf ⟨As, ds, rfl, hl', b1⟩; have HLf := Lib.hid hl'; have HBf := Lib.hid (below_then HBe.out b1); have HSf := Lib.hid (HSe.out.kept b1); clear b1 hl')
     | (go_at_call 24; refine (safe_any a0 n0 c0 a1 n1 c1 a2 n2 c2 a3 n3 c3 a4 n4 c4 a5 n5 c5 x wf (H.out.kept HBf.out) HBG.out As n ds l HLf.out).mono ?_; rintro e wg ⟨rfl, b1⟩; rw [HRS.out]; have HBg := Lib.hid (below_then HBf.out b1); have HSg := Lib.hid (HSf.out.kept b1); clear b1)
     | ((with_reducible show OpW 28); refine wpList_loadv _ rfl 26 (.tmp 2) rfl 7 (by kernel_rfl) w.heap.size 0 _ rfl (BL.all HSg.out) rfl ?_)
     | (go_at_call 12; (with_reducible show Calls _ _ _ wg _); refine (to_any a0 n0 c0 a1 n1 c1 a2 n2 c2 a3 n3 c3 a4 n4 c4 a5 n5 c5 x.pct wg).mono ?_; rintro e wh ⟨rfl, b1⟩; have HBh := Lib.hid (below_then HBg.out b1); have HSh := Lib.hid (HSg.out.kept b1); clear b1)
     | (go_at_call 27; (with_reducible show Calls _ _ _ wh _); refine (steps_any A n c l wh (HL.out.kept stay_stp HBh.out) HN1.out).mono ?_; rintro e wi ⟨As', ds', rfl, hl', b1⟩; have HLi := Lib.hid hl'; have HBi := Lib.hid (below_then HBh.out b1); have HSi := Lib.hid (HSh.out.kept b1); clear b1 hl')
     | (go_at_call 28; refine (freed_any a0 n0 c0 a1 n1 c1 a2 n2 c2 a3 n3 c3 a4 n4 c4 a5 n5 c5 x wi (H.out.kept HBi.out) HBG.out As' n ds' l HLi.out HN1.out).mono ?_; rintro e wj ⟨rfl, b1⟩; rw [HRF.out]; have HBj := Lib.hid (below_then HBi.out b1); have HSj := Lib.hid (HSi.out.kept b1); clear b1)
     | ((with_reducible show OpW 35); refine wpList_loadv _ rfl 26 (.tmp 2) rfl 7 (by kernel_rfl) w.heap.size 0 _ rfl (BL.all HSj.out) rfl ?_)
     | (go_at_call 13; refine (sivalid_any _ x _ (show rSi wj _ _ from ⟨a0, n0, c0, a1, n1, c1, a2, n2, c2, a3, n3, c3, a4, n4, c4, a5, n5, c5, rfl, H.out.kept HBj.out⟩)).mono ?_; rintro e wk ⟨rfl, b1⟩; rw [hv]; have HBk := Lib.hid (below_then HBj.out b1); have HSk := Lib.hid (HSj.out.kept b1); clear b1)
     | fail)
    go_ret
    exact ⟨rfl, HBk.out⟩
   | true =>
    obtain ⟨sv, hsv⟩ : ∃ b, b = safeB x (st0 x) l := ⟨_, rfl⟩
    obtain ⟨fd, hfd⟩ : ∃ z, z = fdL x l := ⟨_, rfl⟩
    have HSV := Lib.hid hsv
    have HFD := Lib.hid hfd
    have HVL := Lib.hid hv
    have HRS : Hid (safeV x l = .tuple #[.bool sv, .int .i64 0]) := Lib.hid (by rw [safeV, hv, hsv]; rfl)
    have HRF : Hid (freedV x l = .tuple #[.int .i64 fd, .int .i64 0]) := Lib.hid (by rw [freedV, hv, hfd]; rfl)
    have ef : (fd != fd) = false := by simp
    clear hsv hfd
    go_enter Try.func7, Try.ntmps7
    go_wp2_with (first
     | ((with_reducible show OpW 2); refine wpList_box _ rfl 26 (.tmp 0) rfl (siC a0 n0 c0 a1 n1 c1 a2 n2 c2 a3 n3 c3 a4 n4 c4 a5 n5 c5 x.pct) rfl ?_; intro wa y1 y2 y3; have HBa := Lib.hid y2; have HSa := Lib.hid y1; clear y1 y2 y3)
     | (go_at_call 9; refine (awake_any wa).mono ?_; rintro e wb ⟨rfl, b1⟩; have HBb := Lib.hid (below_then HBa.out b1); have HSb := Lib.hid (HSa.out.kept b1); clear b1)
     | ((with_reducible show OpW 13); refine wpList_loadv _ rfl 26 (.tmp 2) rfl 7 (by kernel_rfl) w.heap.size 0 _ rfl (BL.all HSb.out) rfl ?_)
     | (go_at_call 10; refine (large_any _ x _ (show rSi wb _ _ from ⟨a0, n0, c0, a1, n1, c1, a2, n2, c2, a3, n3, c3, a4, n4, c4, a5, n5, c5, rfl, H.out.kept HBb.out⟩)).mono ?_; rintro e wc ⟨rfl, b1⟩; rw [hlg]; have HBc := Lib.hid (below_then HBb.out b1); have HSc := Lib.hid (HSb.out.kept b1); clear b1)
     | (go_at_call 17; refine (wide_any A n c l wc (HL.out.kept stay_stp HBc.out)).mono ?_; rintro e wd ⟨rfl, b1⟩; rw [hwd]; have HBd := Lib.hid (below_then HBc.out b1); have HSd := Lib.hid (HSc.out.kept b1); clear b1)
     | ((with_reducible show OpW 20); refine wpList_loadv _ rfl 26 (.tmp 2) rfl 7 (by kernel_rfl) w.heap.size 0 _ rfl (BL.all HSd.out) rfl ?_)
     | (go_at_call 12; (with_reducible show Calls _ _ _ wd _); refine (to_any a0 n0 c0 a1 n1 c1 a2 n2 c2 a3 n3 c3 a4 n4 c4 a5 n5 c5 x.pct wd).mono ?_; rintro e we ⟨rfl, b1⟩; have HBe := Lib.hid (below_then HBd.out b1); have HSe := Lib.hid (HSd.out.kept b1); clear b1)
     | (go_at_call 27; (with_reducible show Calls _ _ _ we _); refine (steps_any A n c l we (HL.out.kept stay_stp HBe.out) HN1.out).mono ?_; rintro e wf ⟨As, ds, rfl, hl', b1⟩; have HLf := Lib.hid hl'; have HBf := Lib.hid (below_then HBe.out b1); have HSf := Lib.hid (HSe.out.kept b1); clear b1 hl')
     | (go_at_call 24; refine (safe_any a0 n0 c0 a1 n1 c1 a2 n2 c2 a3 n3 c3 a4 n4 c4 a5 n5 c5 x wf (H.out.kept HBf.out) HBG.out As n ds l HLf.out).mono ?_; rintro e wg ⟨rfl, b1⟩; rw [HRS.out]; have HBg := Lib.hid (below_then HBf.out b1); have HSg := Lib.hid (HSf.out.kept b1); clear b1)
     | ((with_reducible show OpW 28); refine wpList_loadv _ rfl 26 (.tmp 2) rfl 7 (by kernel_rfl) w.heap.size 0 _ rfl (BL.all HSg.out) rfl ?_)
     | (go_at_call 12; (with_reducible show Calls _ _ _ wg _); refine (to_any a0 n0 c0 a1 n1 c1 a2 n2 c2 a3 n3 c3 a4 n4 c4 a5 n5 c5 x.pct wg).mono ?_; rintro e wh ⟨rfl, b1⟩; have HBh := Lib.hid (below_then HBg.out b1); have HSh := Lib.hid (HSg.out.kept b1); clear b1)
     | (go_at_call 27; (with_reducible show Calls _ _ _ wh _); refine (steps_any A n c l wh (HL.out.kept stay_stp HBh.out) HN1.out).mono ?_; rintro e wi ⟨As', ds', rfl, hl', b1⟩; have HLi := Lib.hid hl'; have HBi := Lib.hid (below_then HBh.out b1); have HSi := Lib.hid (HSh.out.kept b1); clear b1 hl')
     | (go_at_call 28; refine (freed_any a0 n0 c0 a1 n1 c1 a2 n2 c2 a3 n3 c3 a4 n4 c4 a5 n5 c5 x wi (H.out.kept HBi.out) HBG.out As' n ds' l HLi.out HN1.out).mono ?_; rintro e wj ⟨rfl, b1⟩; rw [HRF.out]; have HBj := Lib.hid (below_then HBi.out b1); have HSj := Lib.hid (HSi.out.kept b1); clear b1)
     | ((with_reducible show OpW 35); refine wpList_loadv _ rfl 26 (.tmp 2) rfl 7 (by kernel_rfl) w.heap.size 0 _ rfl (BL.all HSj.out) rfl ?_)
     | (go_at_call 13; refine (sivalid_any _ x _ (show rSi wj _ _ from ⟨a0, n0, c0, a1, n1, c1, a2, n2, c2, a3, n3, c3, a4, n4, c4, a5, n5, c5, rfl, H.out.kept HBj.out⟩)).mono ?_; rintro e wk ⟨rfl, b1⟩; rw [hv]; have HBk := Lib.hid (below_then HBj.out b1); have HSk := Lib.hid (HSj.out.kept b1); clear b1)
     | ((with_reducible show OpW 56); refine wpList_loadvg _ rfl 26 (.tmp 2) rfl 7 (by kernel_rfl) w.heap.size 0 _ rfl (BL.all HSk.out) rfl ?_)
     | (go_at_call 29; refine (rfreed_any _ x _ (show rSi wk _ _ from ⟨a0, n0, c0, a1, n1, c1, a2, n2, c2, a3, n3, c3, a4, n4, c4, a5, n5, c5, rfl, H.out.kept HBk.out⟩) HVL.out A n c l (HL.out.kept stay_stp HBk.out) HN1.out).mono ?_; rintro e wl ⟨rfl, b1⟩; rw [← HFD.out]; have HBl := Lib.hid (below_then HBk.out b1); have HSl := Lib.hid (HSk.out.kept b1); clear b1))
    clear hv
    go_loopw [67] (fun iv wr => ∃ (k : Nat) (y : Si) (cy : List Value), k ≤ n ∧ iv = .int .i64 (k : Int) ∧ Hid (rSi wr cy y) ∧ Hid (BL wr w.heap.size 26 cy) ∧ Hid (Rel x (safeRun x (st0 x) (l.take k)) y) ∧ Hid (safeB x (st0 x) (l.take k) = true) ∧ Hid (y.cond.length ≤ 40 + 40 * k) ∧ Hid (Below w.heap.size w wr)) (fun iv _ => n - (intOf iv).toNat)
    case atStart => exact ⟨0, x, _, by omega, rfl, Lib.hid ⟨a0, n0, c0, a1, n1, c1, a2, n2, c2, a3, n3, c3, a4, n4, c4, a5, n5, c5, rfl, H.out.kept HBl.out⟩, HSl, Lib.hid (Rel.start x), Lib.hid rfl, Lib.hid (by have := HLG.out; omega), HBl⟩
    case round =>
     obtain ⟨k, y, cy, hk, rfl, hy, hSx, hrl, hsf, hcb, hb⟩ := hrel
     obtain ⟨wx, hwx⟩ : ∃ x, x = wr := ⟨_, rfl⟩
     rw [← hwx] at hy hSx hb ⊢
     clear hwx
     have HBx := hb
     have HSx := hSx
     clear hb hSx
     by_cases hlt : k < n
     ·
      obtain ⟨t, g, o, cs, hs, ea, hat, hrt⟩ := HL.out.at_ stay_stp (Below.refl _ _) hlt
      have HT := Lib.hid hrt
      obtain ⟨B0, p0, d0, B1, p1, d1, rfl, _⟩ := hrt
      have HA := Lib.hid (hat.kept HBx.out)
      have HX := Lib.hid hs
      have HLEN := Lib.hid (rSi_len hy.out)
      have HTK : Hid (safeRun x (st0 x) (l.take (k + 1)) = takeS x (safeRun x (st0 x) (l.take k)) t) := Lib.hid (by rw [take_next HX.out, safeRun_step])
      have HTB := Lib.hid (Rel.take HVL.out hrl.out t)
      have HST : Hid (t.sts.length ≤ 40) := Lib.hid (HWD.out.2 t (List.mem_of_getElem? hs)).1
      have HBD : Hid (y.cond.length + t.sts.length ≤ 100000) := Lib.hid (by have := HST.out; have := hcb.out; have := HN4.out; omega)
      subst ea
      clear hs hat
      cases h1 : rSafe y t with
      | false =>
       obtain rfl : sv = false := by rw [HSV.out]; exact safeB_bad x HX.out (by rw [HTB.out, h1])
       go_wp2_with (first
        | ((with_reducible show OpW 70); refine wpList_loadv _ rfl 42 (.tmp 69) rfl 5 (by kernel_rfl) g (o + k * 5) (stC2 t B0 p0 d0 B1 p1 d1) (by go_simp) HA.out rfl ?_)
        | ((with_reducible show OpW 10); refine wpList_alloc _ rfl 42 rfl stpZ stqZero ?_; intro w3 a1 a2 a3; have HV3 := Lib.hid a1; have HX3 := Lib.hid a2; clear a1 a2 a3)
        | ((with_reducible show OpN); refine wpList_storev _ rfl 42 (.tmp 10) (.tmp 70) rfl 5 (by kernel_rfl) wx.heap.size 0 _ stpZ (stC2 t B0 p0 d0 B1 p1 d1) rfl rfl HV3.out rfl (one_val _ rfl) (by decide) ?_; intro w4 a1 a2 a3; have HV4 : Hid (BL w4 wx.heap.size 42 (stC2 t B0 p0 d0 B1 p1 d1)) := Lib.hid a1; have HX4 : Hid (Below wx.heap.size wx w4) := Lib.hid (((Kp.of_below (S := fun _ => False) HX3.out).after a2 (fun i hi e => by omega)).below (Nat.le_refl _) (fun _ h => h.elim)); clear a1 a2 a3; have r0 := HV4.out.get (j := 0) rfl; have HS4 := Lib.hid (HSx.out.kept HX4.out); have HY4 := Lib.hid (rSi_kept hy.out HX4.out); have HT4 := Lib.hid (stay_stp _ _ _ _ HT.out (below_thenB HBx.out HBx.out.size HX4.out)); have HB4 := Lib.hid (below_thenB HBx.out HBx.out.size HX4.out))
        | ((with_reducible show OpW 71); refine wpList_loadv _ rfl 26 (.tmp 2) rfl 7 (by kernel_rfl) w.heap.size 0 cy rfl (BL.all HS4.out) HLEN.out ?_)
        | ((with_reducible show OpW 72); refine wpList_loadv _ rfl 42 (.tmp 10) rfl 5 (by kernel_rfl) wx.heap.size 0 (stC2 t B0 p0 d0 B1 p1 d1) rfl (BL.all HV4.out) rfl ?_)
        | (go_at_call 30; refine (issafe_any cy _ y t w4 HY4.out HT4.out HBD.out).mono ?_; rintro e w5 ⟨rfl, b1⟩; rw [h1]; have HX5 := Lib.hid (below_thenB HX4.out HX4.out.size b1); have HS5 := Lib.hid (HS4.out.kept b1); have HY5 := Lib.hid (rSi_kept HY4.out b1); have HB5 := Lib.hid (below_then HB4.out b1); have HT5 := Lib.hid (stay_stp _ _ _ _ HT.out HB5.out); have HV5 := Lib.hid (HV4.out.kept b1); have s0 := (HV4.out.kept b1).get (j := 0) rfl; clear b1)
        )
       go_ret
       exact ⟨rfl, HB5.out⟩
      | true =>
       have HF : Hid (safeB x (st0 x) (l.take (k + 1)) = true) := Lib.hid (safeB_take HX.out hsf.out (by rw [HTB.out, h1]))
       have HRL : Hid (Rel x (safeRun x (st0 x) (l.take (k + 1))) (rAfter y t)) := Lib.hid (by rw [HTK.out]; exact Rel.after HVL.out hrl.out (by rw [HTB.out, h1]))
       have HCB : Hid ((rAfter y t).cond.length ≤ 40 + 40 * (k + 1)) := Lib.hid (by have := rAfter_len y t; have := hcb.out; have := HST.out; omega)
       by_cases hk1 : t.kind = 1
       ·
        have f1 : (t.kind != 1) = false := by rw [hk1]; rfl
        have HRA : Hid (rAfter y t = y) := Lib.hid (by rw [rAfter, if_neg (by omega), if_neg (by omega), if_neg (by omega)])
        clear hk1
        go_wp2_with (first
         | ((with_reducible show OpW 70); refine wpList_loadv _ rfl 42 (.tmp 69) rfl 5 (by kernel_rfl) g (o + k * 5) (stC2 t B0 p0 d0 B1 p1 d1) (by go_simp) HA.out rfl ?_)
         | ((with_reducible show OpW 10); refine wpList_alloc _ rfl 42 rfl stpZ stqZero ?_; intro w3 a1 a2 a3; have HV3 := Lib.hid a1; have HX3 := Lib.hid a2; clear a1 a2 a3)
         | ((with_reducible show OpN); refine wpList_storev _ rfl 42 (.tmp 10) (.tmp 70) rfl 5 (by kernel_rfl) wx.heap.size 0 _ stpZ (stC2 t B0 p0 d0 B1 p1 d1) rfl rfl HV3.out rfl (one_val _ rfl) (by decide) ?_; intro w4 a1 a2 a3; have HV4 : Hid (BL w4 wx.heap.size 42 (stC2 t B0 p0 d0 B1 p1 d1)) := Lib.hid a1; have HX4 : Hid (Below wx.heap.size wx w4) := Lib.hid (((Kp.of_below (S := fun _ => False) HX3.out).after a2 (fun i hi e => by omega)).below (Nat.le_refl _) (fun _ h => h.elim)); clear a1 a2 a3; have r0 := HV4.out.get (j := 0) rfl; have HS4 := Lib.hid (HSx.out.kept HX4.out); have HY4 := Lib.hid (rSi_kept hy.out HX4.out); have HT4 := Lib.hid (stay_stp _ _ _ _ HT.out (below_thenB HBx.out HBx.out.size HX4.out)); have HB4 := Lib.hid (below_thenB HBx.out HBx.out.size HX4.out))
         | ((with_reducible show OpW 71); refine wpList_loadv _ rfl 26 (.tmp 2) rfl 7 (by kernel_rfl) w.heap.size 0 cy rfl (BL.all HS4.out) HLEN.out ?_)
         | ((with_reducible show OpW 72); refine wpList_loadv _ rfl 42 (.tmp 10) rfl 5 (by kernel_rfl) wx.heap.size 0 (stC2 t B0 p0 d0 B1 p1 d1) rfl (BL.all HV4.out) rfl ?_)
         | (go_at_call 30; refine (issafe_any cy _ y t w4 HY4.out HT4.out HBD.out).mono ?_; rintro e w5 ⟨rfl, b1⟩; rw [h1]; have HX5 := Lib.hid (below_thenB HX4.out HX4.out.size b1); have HS5 := Lib.hid (HS4.out.kept b1); have HY5 := Lib.hid (rSi_kept HY4.out b1); have HB5 := Lib.hid (below_then HB4.out b1); have HT5 := Lib.hid (stay_stp _ _ _ _ HT.out HB5.out); have HV5 := Lib.hid (HV4.out.kept b1); have s0 := (HV4.out.kept b1).get (j := 0) rfl; clear b1)
         )
        go_roundw
        case rel => exact ⟨k + 1, y, cy, by omega, by go_num, HY5, HS5, Lib.hid (by rw [← HRA.out]; exact HRL.out), HF, Lib.hid (by rw [← HRA.out]; exact HCB.out), HB5⟩
        case measure => simp [intOf]; omega
       ·
        have f1 : (t.kind != 1) = true := by simpa using hk1
        have HK1 := Lib.hid hk1
        have HSA := Lib.hid h1
        clear hk1
        go_wp2_with (first
         | ((with_reducible show OpW 70); refine wpList_loadv _ rfl 42 (.tmp 69) rfl 5 (by kernel_rfl) g (o + k * 5) (stC2 t B0 p0 d0 B1 p1 d1) (by go_simp) HA.out rfl ?_)
         | ((with_reducible show OpW 10); refine wpList_alloc _ rfl 42 rfl stpZ stqZero ?_; intro w3 a1 a2 a3; have HV3 := Lib.hid a1; have HX3 := Lib.hid a2; clear a1 a2 a3)
         | ((with_reducible show OpN); refine wpList_storev _ rfl 42 (.tmp 10) (.tmp 70) rfl 5 (by kernel_rfl) wx.heap.size 0 _ stpZ (stC2 t B0 p0 d0 B1 p1 d1) rfl rfl HV3.out rfl (one_val _ rfl) (by decide) ?_; intro w4 a1 a2 a3; have HV4 : Hid (BL w4 wx.heap.size 42 (stC2 t B0 p0 d0 B1 p1 d1)) := Lib.hid a1; have HX4 : Hid (Below wx.heap.size wx w4) := Lib.hid (((Kp.of_below (S := fun _ => False) HX3.out).after a2 (fun i hi e => by omega)).below (Nat.le_refl _) (fun _ h => h.elim)); clear a1 a2 a3; have r0 := HV4.out.get (j := 0) rfl; have HS4 := Lib.hid (HSx.out.kept HX4.out); have HY4 := Lib.hid (rSi_kept hy.out HX4.out); have HT4 := Lib.hid (stay_stp _ _ _ _ HT.out (below_thenB HBx.out HBx.out.size HX4.out)); have HB4 := Lib.hid (below_thenB HBx.out HBx.out.size HX4.out))
         | ((with_reducible show OpW 71); refine wpList_loadv _ rfl 26 (.tmp 2) rfl 7 (by kernel_rfl) w.heap.size 0 cy rfl (BL.all HS4.out) HLEN.out ?_)
         | ((with_reducible show OpW 72); refine wpList_loadv _ rfl 42 (.tmp 10) rfl 5 (by kernel_rfl) wx.heap.size 0 (stC2 t B0 p0 d0 B1 p1 d1) rfl (BL.all HV4.out) rfl ?_)
         | (go_at_call 30; refine (issafe_any cy _ y t w4 HY4.out HT4.out HBD.out).mono ?_; rintro e w5 ⟨rfl, b1⟩; rw [h1]; have HX5 := Lib.hid (below_thenB HX4.out HX4.out.size b1); have HS5 := Lib.hid (HS4.out.kept b1); have HY5 := Lib.hid (rSi_kept HY4.out b1); have HB5 := Lib.hid (below_then HB4.out b1); have HT5 := Lib.hid (stay_stp _ _ _ _ HT.out HB5.out); have HV5 := Lib.hid (HV4.out.kept b1); have s0 := (HV4.out.kept b1).get (j := 0) rfl; clear b1)
         | ((with_reducible show OpW 81); refine wpList_loadv _ rfl 26 (.tmp 2) rfl 7 (by kernel_rfl) w.heap.size 0 cy rfl (BL.all HS5.out) HLEN.out ?_) | ((with_reducible show OpW 82); refine wpList_loadv _ rfl 42 (.tmp 10) rfl 5 (by kernel_rfl) wx.heap.size 0 (stC2 t B0 p0 d0 B1 p1 d1) rfl (BL.all HV5.out) rfl ?_) | (go_at_call 22; refine (rafter_safe cy y w5 HY5.out _ t HT5.out HSA.out HK1.out HBD.out).mono ?_; rintro e w6 ⟨cz, rfl, hz, b1⟩; have HZ6 := Lib.hid hz; have HS6 := Lib.hid (HS5.out.kept b1); have HB6 := Lib.hid (below_then HB5.out b1); clear hz b1) | ((with_reducible show OpN); refine wpList_storev _ rfl 26 (.tmp 2) (.tmp 84) rfl 7 (by kernel_rfl) w.heap.size 0 _ cy cz rfl rfl HS6.out (rSi_len HZ6.out) (rSi_one HZ6.out) (by rw [HLEN.out]; decide) ?_; intro w7 y1 y2 y3; rw [splice_full cy cz (by rw [HLEN.out, rSi_len HZ6.out])] at y1; have HS7 := Lib.hid y1; have HK7 := Lib.hid y2; clear y1 y2 y3))
        have HY7 := Lib.hid (rSi_put HZ6.out hy.out HK7.out HS6.out)
        have HB7 : Hid (Below w.heap.size w w7) := Lib.hid (((Kp.of_below (S := fun _ => False) HB6.out).after HK7.out (fun i hi e => by omega)).below (Nat.le_refl _) (fun _ h => h.elim))
        go_roundw
        case rel => exact ⟨k + 1, rAfter y t, cz, by omega, by go_num, HY7, HS7, HRL, HF, HCB, HB7⟩
        case measure => simp [intOf]; omega
     ·
      obtain rfl : k = n := by omega
      obtain rfl : sv = true := by
       have h9 := hsf.out
       rw [take_end HN.out] at h9
       rw [HSV.out, h9]
      go_wp2_with fail
      go_ret
      exact ⟨rfl, HBx.out⟩
end Go.Proofs.Ytboglaokdgnpaaa
