/- The law CollectorSteps: its walk. -/
import Derived.Test.YtboglaokdgnpaaaA30
import Derived.Test.YtboglaokdgnpaaaB1
import Derived.Test.YtboglaokdgnpaaaB7
import Derived.Test.YtboglaokdgnpaaaB8
import Derived.Test.YtboglaokdgnpaaaA7
import Derived.Deep.DeepCutAuto
namespace Go.Proofs.Ytboglaokdgnpaaa
open Go Go.RowKit Gf Sha

section
variable {P : Program} (w : World) {ops : Array Oper} {rest : List Oper} {o : Oper} {a : Act} {Q : Exit → Act → World → Prop}
theorem wpList_bsliceg (hw : Region.wanted o (yielded ops a.tmps) = true) (t te : TypeId) (n : Nat) (parts : Array (Nat × Operand)) (hop : o.op = .buildSlice t n parts) (ps : Array (Nat × Value)) (hps : (parts.map fun (i, x) => (i, a.eval x)) = ps) (l : List Value)
  (hr : (Instr.buildSlice t n ps).run P w = .ok (.slice (some ⟨w.heap.size, 0, none⟩) n n) (w.alloc (.cells l.toArray te)))
  (h : ∀ w', BL w' w.heap.size te l → Below w.heap.size w w' → w'.heap.size = w.heap.size + 1 → wpList P ops Q rest (a.put o.dst (.slice (some ⟨w.heap.size, 0, none⟩) n n)) w') : wpList P ops Q (o :: rest) a w :=
 wpList_want w hw fun K hK => by
  unfold Oper.wp execOp
  simp only [hop, hps]
  simp [hr, Result.andThen]
  exact hK _ _ (h _ (BL.new w te l) ((Below.refl _ _).alloc (Nat.le_refl _) _) (by simp))
theorem wpList_buildg (hw : Region.wanted o (yielded ops a.tmps) = true) (t : TypeId) (parts : Array (Nat × Operand)) (hop : o.op = .build t parts) (ps : Array (Nat × Value)) (hps : (parts.map fun (i, x) => (i, a.eval x)) = ps) (v : Value) (hr : (Instr.build t ps).run P w = .ok v w)
  (h : wpList P ops Q rest (a.put o.dst v) w) : wpList P ops Q (o :: rest) a w :=
 wpList_want w hw fun K hK => by
  unfold Oper.wp execOp
  simp only [hop, hps]
  simp [hr, Result.andThen]
  exact hK _ _ h
end
theorem bslStpQ (s : Stp) (B0 : Option Addr) (p0 d0 : Nat) (B1 : Option Addr) (p1 d1 : Nat) (w : World) : (Instr.buildSlice 35 1 #[(0, .agg (stC s B0 p0 d0 B1 p1 d1).toArray)]).run Try.prog w = .ok (.slice (some ⟨w.heap.size, 0, none⟩) 1 1) (w.alloc (.cells (stC s B0 p0 d0 B1 p1 d1).toArray 42)) := by kernel_rfl
/-- A situation of stripes alone. -/
def siM (made : List Sp) : Si := ⟨made, [], [], [], [], [], 0⟩
theorem bldSiM (B : Option Addr) (l d : Nat) (w : World) : (Instr.build 26 #[(0, .slice B l d)]).run Try.prog w = .ok (.agg (siC B l d none 0 0 none 0 0 none 0 0 none 0 0 none 0 0 0).toArray) w := by kernel_rfl
theorem bldSiQ0 (w : World) : (Instr.build 26 #[]).run Try.prog w = .ok (.agg siZ.toArray) w := by kernel_rfl
theorem rSi_made {w : World} {B : Option Addr} {l d : Nat} {made : List Sp} (h : LS rSp 6 72 w B l d made) : rSi w (siC B l d none 0 0 none 0 0 none 0 0 none 0 0 none 0 0 0) (siM made) :=
 ⟨B, l, d, none, 0, 0, none, 0, 0, none, 0, 0, none, 0, 0, none, 0, 0, rfl, ⟨h, LS.nil, LS.nil, LS.nil, LS.nil, LS.nil, by rfl⟩⟩
theorem large_refs {made : List Sp} (h : largeB (siM made) = false) : made.length ≤ 20 ∧ ∀ t ∈ made, t.refs.length ≤ 10 := by
 refine ⟨(large_no h).1, fun t ht => ?_⟩
 simp only [largeB, Bool.or_eq_false_iff] at h
 have h1 := List.any_eq_false.1 h.1 t ht
 have : ¬ 10 < t.refs.length := by simpa using h1
 omega
theorem rStp_list {w : World} {g : Nat} {cs : List Value} {s : Stp} (h : BL w g 42 cs) (hs : rStp w cs s) (hl : cs.length = 5) : LS rStp 5 80 w (some ⟨g, 0, none⟩) 1 1 [s] :=
 LS.of_bl (te := 42) (css := [cs]) (by rw [List.flatten_cons, List.flatten_nil, List.append_nil]; exact h) (fun c hc => by rw [List.mem_singleton.1 hc]; exact hl) rfl (fun k hk hk' => by
  have e : k = 0 := by rw [List.length_singleton] at hk; omega
  subst e; exact hs) rfl (by decide)
theorem rSi_len {w : World} {cs : List Value} {y : Si} (h : rSi w cs y) : cs.length = 7 := by
 obtain ⟨a0, n0, c0, a1, n1, c1, a2, n2, c2, a3, n3, c3, a4, n4, c4, a5, n5, c5, rfl, _⟩ := h; rfl
theorem rSi_one {w : World} {cs : List Value} {y : Si} (h : rSi w cs y) : ∀ v ∈ cs, v.oneCell' = true := by
 obtain ⟨a0, n0, c0, a1, n1, c1, a2, n2, c2, a3, n3, c3, a4, n4, c4, a5, n5, c5, rfl, _⟩ := h; exact one_val _ rfl
theorem rSi_kept {w w' : World} {cs : List Value} {y : Si} (h : rSi w cs y) (hb : Below w.heap.size w w') : rSi w' cs y := by
 obtain ⟨a0, n0, c0, a1, n1, c1, a2, n2, c2, a3, n3, c3, a4, n4, c4, a5, n5, c5, rfl, hq⟩ := h; exact ⟨a0, n0, c0, a1, n1, c1, a2, n2, c2, a3, n3, c3, a4, n4, c4, a5, n5, c5, rfl, hq.kept hb⟩
theorem rSi_put {g : Nat} {w w' w1 : World} {t : TypeId} {cs c0 : List Value} {y y0 : Si} (h : rSi w cs y) (h0 : rSi w1 c0 y0) (hk : Kp (· = g) w w') (hb : BL w g t c0) : rSi w' cs y := by
 obtain ⟨a0, n0, c0, a1, n1, c1, a2, n2, c2, a3, n3, c3, a4, n4, c4, a5, n5, c5, rfl, hq⟩ := h
 obtain ⟨_, _, _, _, _, _, _, _, _, _, _, _, _, _, _, _, _, _, rfl, _⟩ := h0
 exact ⟨a0, n0, c0, a1, n1, c1, a2, n2, c2, a3, n3, c3, a4, n4, c4, a5, n5, c5, rfl, hq.put hk hb⟩
theorem splice_full (l vs : List Value) (h : vs.length = l.length) : splice l 0 vs = vs := by simp [splice, h]
set_option maxRecDepth 100000 in
set_option maxHeartbeats 8000000 in
theorem steps_walk (cx : List Value) (x : Si) (cs : List Value) (s : Stp) (B : Option Addr) (l d : Nat) (made : List Sp) (w : World) (hx : rSi w cx x) (hs : rStp w cs s) (hm : LS rSp 6 72 w B l d made) :
  Calls Try.prog 4 #[.agg cx.toArray, .agg cs.toArray, .slice B l d] w fun e w' => e = .returned (.bool true) ∧ Below w.heap.size w w' := by
 have HSTP := Lib.hid hs
 obtain ⟨a0, n0, c0, a1, n1, c1, a2, n2, c2, a3, n3, c3, a4, n4, c4, a5, n5, c5, rfl, hq⟩ := hx
 obtain ⟨A0, m0, p0, A1, m1, p1, rfl, _⟩ := hs
 have H := Lib.hid hq
 have HM := Lib.hid hm
 clear hq hm
 cases hlg : largeB x with
 | true =>
  go_enter Try.func4, Try.ntmps4
  go_wp2_with (first
   | ((with_reducible show OpW 3); refine wpList_box _ rfl 26 (.tmp 0) rfl (siC a0 n0 c0 a1 n1 c1 a2 n2 c2 a3 n3 c3 a4 n4 c4 a5 n5 c5 x.pct) rfl ?_; intro w1 y1 y2 y3; have HB1 := Lib.hid y2; have HS1 := Lib.hid y1; clear y1 y2 y3)
   | ((with_reducible show OpW 4); refine wpList_box _ rfl 42 (.tmp 1) rfl (stC s A0 m0 p0 A1 m1 p1) rfl ?_; intro w2 y1 y2 y3; have HT2 := Lib.hid y1; have HB2 := Lib.hid (below_then HB1.out y2); have HS2 := Lib.hid (HS1.out.kept y2); clear y1 y2 y3)
   | (go_at_call 9; refine (awake_any w2).mono ?_; rintro e wb ⟨rfl, bl⟩; have HBb := Lib.hid (below_then HB2.out bl); have HSb := Lib.hid (HS2.out.kept bl); have HTb := Lib.hid (HT2.out.kept bl); clear bl)
   | ((with_reducible show OpW 13); refine wpList_loadv _ rfl 26 (.tmp 3) rfl 7 (by kernel_rfl) w.heap.size 0 _ rfl (BL.all HSb.out) rfl ?_)
   | (go_at_call 10; (with_reducible show Calls _ _ _ wb _); refine (large_any _ x _ (show rSi wb _ _ from ⟨a0, n0, c0, a1, n1, c1, a2, n2, c2, a3, n3, c3, a4, n4, c4, a5, n5, c5, rfl, H.out.kept HBb.out⟩)).mono ?_; rintro e wc ⟨rfl, bl⟩; rw [hlg]; have HBc := Lib.hid (below_then HBb.out bl); have HSc := Lib.hid (HSb.out.kept bl); have HTc := Lib.hid (HTb.out.kept bl); clear bl)
   | fail)
  go_ret
  exact ⟨rfl, HBc.out⟩
 | false =>
  cases hwd : wideB [s] with
  | true =>
   go_enter Try.func4, Try.ntmps4
   go_wp2_with (first
    | ((with_reducible show OpW 3); refine wpList_box _ rfl 26 (.tmp 0) rfl (siC a0 n0 c0 a1 n1 c1 a2 n2 c2 a3 n3 c3 a4 n4 c4 a5 n5 c5 x.pct) rfl ?_; intro w1 y1 y2 y3; have HB1 := Lib.hid y2; have HS1 := Lib.hid y1; clear y1 y2 y3)
    | ((with_reducible show OpW 4); refine wpList_box _ rfl 42 (.tmp 1) rfl (stC s A0 m0 p0 A1 m1 p1) rfl ?_; intro w2 y1 y2 y3; have HT2 := Lib.hid y1; have HB2 := Lib.hid (below_then HB1.out y2); have HS2 := Lib.hid (HS1.out.kept y2); clear y1 y2 y3)
    | (go_at_call 9; refine (awake_any w2).mono ?_; rintro e wb ⟨rfl, bl⟩; have HBb := Lib.hid (below_then HB2.out bl); have HSb := Lib.hid (HS2.out.kept bl); have HTb := Lib.hid (HT2.out.kept bl); clear bl)
    | ((with_reducible show OpW 13); refine wpList_loadv _ rfl 26 (.tmp 3) rfl 7 (by kernel_rfl) w.heap.size 0 _ rfl (BL.all HSb.out) rfl ?_)
    | (go_at_call 10; (with_reducible show Calls _ _ _ wb _); refine (large_any _ x _ (show rSi wb _ _ from ⟨a0, n0, c0, a1, n1, c1, a2, n2, c2, a3, n3, c3, a4, n4, c4, a5, n5, c5, rfl, H.out.kept HBb.out⟩)).mono ?_; rintro e wc ⟨rfl, bl⟩; rw [hlg]; have HBc := Lib.hid (below_then HBb.out bl); have HSc := Lib.hid (HSb.out.kept bl); have HTc := Lib.hid (HTb.out.kept bl); clear bl)
    | ((with_reducible show OpW 16); refine wpList_loadvg _ rfl 42 (.tmp 4) rfl 5 (by kernel_rfl) w1.heap.size 0 (stC s A0 m0 p0 A1 m1 p1) rfl (BL.all HTc.out) rfl ?_)
    | ((with_reducible show OpW 17); refine wpList_bsliceg _ rfl 35 42 1 _ rfl #[(0, .agg (stC s A0 m0 p0 A1 m1 p1).toArray)] (by rw [List.map_toArray]; rfl) (stC s A0 m0 p0 A1 m1 p1) (bslStpQ s _ _ _ _ _ _ _) ?_; intro wd y1 y2 y3; have HLd := Lib.hid (rStp_list y1 (stay_stp _ _ _ _ HSTP.out (below_then HBc.out y2)) rfl); have HBd := Lib.hid (below_then HBc.out y2); have HSd := Lib.hid (HSc.out.kept y2); have HTd := Lib.hid (HTc.out.kept y2); clear y1 y2 y3)
    | (go_at_call 17; refine (wide_any _ _ _ [s] wd HLd.out).mono ?_; rintro e we ⟨rfl, bl⟩; rw [hwd]; have HBe := Lib.hid (below_then HBd.out bl); have HSe := Lib.hid (HSd.out.kept bl); have HTe := Lib.hid (HTd.out.kept bl); clear bl)
    | fail)
   go_ret
   exact ⟨rfl, HBe.out⟩
  | false =>
   cases hl2 : largeB (siM made) with
   | true =>
    go_enter Try.func4, Try.ntmps4
    go_wp2_with (first
     | ((with_reducible show OpW 3); refine wpList_box _ rfl 26 (.tmp 0) rfl (siC a0 n0 c0 a1 n1 c1 a2 n2 c2 a3 n3 c3 a4 n4 c4 a5 n5 c5 x.pct) rfl ?_; intro w1 y1 y2 y3; have HB1 := Lib.hid y2; have HS1 := Lib.hid y1; clear y1 y2 y3)
     | ((with_reducible show OpW 4); refine wpList_box _ rfl 42 (.tmp 1) rfl (stC s A0 m0 p0 A1 m1 p1) rfl ?_; intro w2 y1 y2 y3; have HT2 := Lib.hid y1; have HB2 := Lib.hid (below_then HB1.out y2); have HS2 := Lib.hid (HS1.out.kept y2); clear y1 y2 y3)
     | (go_at_call 9; refine (awake_any w2).mono ?_; rintro e wb ⟨rfl, bl⟩; have HBb := Lib.hid (below_then HB2.out bl); have HSb := Lib.hid (HS2.out.kept bl); have HTb := Lib.hid (HT2.out.kept bl); clear bl)
     | ((with_reducible show OpW 13); refine wpList_loadv _ rfl 26 (.tmp 3) rfl 7 (by kernel_rfl) w.heap.size 0 _ rfl (BL.all HSb.out) rfl ?_)
     | (go_at_call 10; (with_reducible show Calls _ _ _ wb _); refine (large_any _ x _ (show rSi wb _ _ from ⟨a0, n0, c0, a1, n1, c1, a2, n2, c2, a3, n3, c3, a4, n4, c4, a5, n5, c5, rfl, H.out.kept HBb.out⟩)).mono ?_; rintro e wc ⟨rfl, bl⟩; rw [hlg]; have HBc := Lib.hid (below_then HBb.out bl); have HSc := Lib.hid (HSb.out.kept bl); have HTc := Lib.hid (HTb.out.kept bl); clear bl)
     | ((with_reducible show OpW 16); refine wpList_loadvg _ rfl 42 (.tmp 4) rfl 5 (by kernel_rfl) w1.heap.size 0 (stC s A0 m0 p0 A1 m1 p1) rfl (BL.all HTc.out) rfl ?_)
     | ((with_reducible show OpW 17); refine wpList_bsliceg _ rfl 35 42 1 _ rfl #[(0, .agg (stC s A0 m0 p0 A1 m1 p1).toArray)] (by rw [List.map_toArray]; rfl) (stC s A0 m0 p0 A1 m1 p1) (bslStpQ s _ _ _ _ _ _ _) ?_; intro wd y1 y2 y3; have HLd := Lib.hid (rStp_list y1 (stay_stp _ _ _ _ HSTP.out (below_then HBc.out y2)) rfl); have HBd := Lib.hid (below_then HBc.out y2); have HSd := Lib.hid (HSc.out.kept y2); have HTd := Lib.hid (HTc.out.kept y2); clear y1 y2 y3)
     | (go_at_call 17; refine (wide_any _ _ _ [s] wd HLd.out).mono ?_; rintro e we ⟨rfl, bl⟩; rw [hwd]; have HBe := Lib.hid (below_then HBd.out bl); have HSe := Lib.hid (HSd.out.kept bl); have HTe := Lib.hid (HTd.out.kept bl); clear bl)
     | ((with_reducible show OpW 22); refine wpList_buildg _ rfl 26 #[(0, .tmp 21)] rfl #[(0, .slice B l d)] (by rw [List.map_toArray]; rfl) (.agg (siC B l d none 0 0 none 0 0 none 0 0 none 0 0 none 0 0 0).toArray) (bldSiM _ _ _ _) ?_)
     | (go_at_call 10; (with_reducible show Calls _ _ _ we _); refine (large_any _ (siM made) _ (rSi_made (HM.out.kept stay_sp HBe.out))).mono ?_; rintro e wf ⟨rfl, bl⟩; rw [hl2]; have HBf := Lib.hid (below_then HBe.out bl); have HSf := Lib.hid (HSe.out.kept bl); have HTf := Lib.hid (HTe.out.kept bl); clear bl)
     | fail)
    go_ret
    exact ⟨rfl, HBf.out⟩
   | false =>
    have HLG := Lib.hid (large_no hlg)
    have HLR := Lib.hid (large_refs hl2)
    have HST : Hid (s.sts.length ≤ 40) := Lib.hid ((wide_no hwd).2 s (by simp)).1
    have HBG : Hid (x.sp.length ≤ 1000) := Lib.hid (by have := HLG.out; omega)
    have HLM : Hid (l ≤ 1000) := Lib.hid (by have := HLR.out.1; have h9 := HM.out.1; omega)
    have HBD : Hid (x.cond.length + s.sts.length ≤ 100000) := Lib.hid (by have := HLG.out; have := HST.out; omega)
    obtain ⟨RES, hres⟩ : ∃ R, R = if siB x then aftY x s made else siE := ⟨_, rfl⟩
    obtain ⟨ERR, herr⟩ : ∃ E, E = if siB x then aftE x s made else 1 := ⟨_, rfl⟩
    have HRES := Lib.hid hres
    have HERR := Lib.hid herr
    have HAF : Hid (∀ (w' : World) (cs : List Value), Below w.heap.size w w' → rStp w' cs s → Calls Try.prog 18 #[.agg (siC a0 n0 c0 a1 n1 c1 a2 n2 c2 a3 n3 c3 a4 n4 c4 a5 n5 c5 x.pct).toArray, .agg cs.toArray, .slice B l d] w' (AfterR RES ERR w')) := Lib.hid (fun w' cs hb hs => by
     rw [HRES.out, HERR.out]
     cases hv : siB x with
     | true => exact after_all a0 n0 c0 a1 n1 c1 a2 n2 c2 a3 n3 c3 a4 n4 c4 a5 n5 c5 x w' (H.out.kept hb) HBG.out hv s cs hs B l d made (HM.out.kept stay_sp hb) HLM.out HBD.out
     | false => exact after_inv a0 n0 c0 a1 n1 c1 a2 n2 c2 a3 n3 c3 a4 n4 c4 a5 n5 c5 x w' (H.out.kept hb) HBG.out hv s cs hs B l d)
    have fe : (ERR == ERR) = true := by simp
    clear hres herr
    go_enter Try.func4, Try.ntmps4
    go_wp2_with (first
     | ((with_reducible show OpW 3); refine wpList_box _ rfl 26 (.tmp 0) rfl (siC a0 n0 c0 a1 n1 c1 a2 n2 c2 a3 n3 c3 a4 n4 c4 a5 n5 c5 x.pct) rfl ?_; intro w1 y1 y2 y3; have HB1 := Lib.hid y2; have HS1 := Lib.hid y1; clear y1 y2 y3)
     | ((with_reducible show OpW 4); refine wpList_box _ rfl 42 (.tmp 1) rfl (stC s A0 m0 p0 A1 m1 p1) rfl ?_; intro w2 y1 y2 y3; have HT2 := Lib.hid y1; have HB2 := Lib.hid (below_then HB1.out y2); have HS2 := Lib.hid (HS1.out.kept y2); clear y1 y2 y3)
     | (go_at_call 9; refine (awake_any w2).mono ?_; rintro e wb ⟨rfl, bl⟩; have HBb := Lib.hid (below_then HB2.out bl); have HSb := Lib.hid (HS2.out.kept bl); have HTb := Lib.hid (HT2.out.kept bl); clear bl)
     | ((with_reducible show OpW 13); refine wpList_loadv _ rfl 26 (.tmp 3) rfl 7 (by kernel_rfl) w.heap.size 0 _ rfl (BL.all HSb.out) rfl ?_)
     | (go_at_call 10; (with_reducible show Calls _ _ _ wb _); refine (large_any _ x _ (show rSi wb _ _ from ⟨a0, n0, c0, a1, n1, c1, a2, n2, c2, a3, n3, c3, a4, n4, c4, a5, n5, c5, rfl, H.out.kept HBb.out⟩)).mono ?_; rintro e wc ⟨rfl, bl⟩; rw [hlg]; have HBc := Lib.hid (below_then HBb.out bl); have HSc := Lib.hid (HSb.out.kept bl); have HTc := Lib.hid (HTb.out.kept bl); clear bl)
     | ((with_reducible show OpW 16); refine wpList_loadvg _ rfl 42 (.tmp 4) rfl 5 (by kernel_rfl) w1.heap.size 0 (stC s A0 m0 p0 A1 m1 p1) rfl (BL.all HTc.out) rfl ?_)
     | ((with_reducible show OpW 17); refine wpList_bsliceg _ rfl 35 42 1 _ rfl #[(0, .agg (stC s A0 m0 p0 A1 m1 p1).toArray)] (by rw [List.map_toArray]; rfl) (stC s A0 m0 p0 A1 m1 p1) (bslStpQ s _ _ _ _ _ _ _) ?_; intro wd y1 y2 y3; have HLd := Lib.hid (rStp_list y1 (stay_stp _ _ _ _ HSTP.out (below_then HBc.out y2)) rfl); have HBd := Lib.hid (below_then HBc.out y2); have HSd := Lib.hid (HSc.out.kept y2); have HTd := Lib.hid (HTc.out.kept y2); clear y1 y2 y3)
     | (go_at_call 17; refine (wide_any _ _ _ [s] wd HLd.out).mono ?_; rintro e we ⟨rfl, bl⟩; rw [hwd]; have HBe := Lib.hid (below_then HBd.out bl); have HSe := Lib.hid (HSd.out.kept bl); have HTe := Lib.hid (HTd.out.kept bl); clear bl)
     | ((with_reducible show OpW 22); refine wpList_buildg _ rfl 26 #[(0, .tmp 21)] rfl #[(0, .slice B l d)] (by rw [List.map_toArray]; rfl) (.agg (siC B l d none 0 0 none 0 0 none 0 0 none 0 0 none 0 0 0).toArray) (bldSiM _ _ _ _) ?_)
     | (go_at_call 10; (with_reducible show Calls _ _ _ we _); refine (large_any _ (siM made) _ (rSi_made (HM.out.kept stay_sp HBe.out))).mono ?_; rintro e wf ⟨rfl, bl⟩; rw [hl2]; have HBf := Lib.hid (below_then HBe.out bl); have HSf := Lib.hid (HSe.out.kept bl); have HTf := Lib.hid (HTe.out.kept bl); clear bl)
     | fail)
    clear HBb HBc HBd HBe HSb HSc HSd HSe HTb HTc HTd HTe HLd HS1 HS2 HB2 HT2
    go_simp
    go_cut [7, 8] (fun s7 s8 wx => ∃ gy : Nat, s7 = .pointer (some ⟨gy, 0, none⟩) ∧ s8 = .int .i64 ERR ∧ Hid (∃ cy, BL wx gy 33 cy ∧ rSi wx cy RES) ∧ Hid (Below wf.heap.size wf wx) ∧ Hid (wf.heap.size ≤ gy))
    case first =>
     refine Text.wp_region_bt (fun w' => Below wf.heap.size wf w') (.still 0 0 (.still 2 0 (.still 4 4 (.br 1 (.br 3 (.br 5 (.still 6 4 (.still 7 4 (.still 8 4 (.eff 9 (.eff 10 (.still 11 4 .leaf)))))) 9 (.eff 5 (.still 6 4 (.still 7 4 (.still 8 4 (.eff 10 (.still 11 4 .leaf))))))) 9 (.eff 3 (.eff 5 (.still 6 4 (.still 7 4 (.still 8 4 (.eff 10 (.still 11 4 .leaf)))))))) 9 (.eff 1 (.eff 3 (.eff 5 (.still 6 4 (.still 7 4 (.still 8 4 (.eff 10 (.still 11 4 .leaf)))))))))))) (by kernel_rfl) (by kernel_rfl) (fun _ _ _ _ _ h => h) ((Below.refl _ _).drew) ?_
     refine Text.bheldk rfl rfl (fun K hK => ⟨_, fun w' hw' => exec_loadv 26 (.tmp 3) rfl 7 (by kernel_rfl) w.heap.size 0 _ rfl (BL.all (HSf.out.kept hw')) rfl, ?_⟩)
     go_simp
     refine hK _ ?_
     clear hK K
     refine Text.bheldk rfl rfl (fun K hK => ⟨_, fun w' hw' => exec_loadv 42 (.tmp 4) rfl 5 (by kernel_rfl) w1.heap.size 0 _ rfl (BL.all (HTf.out.kept hw')) rfl, ?_⟩)
     go_simp
     refine hK _ ?_
     clear hK K
     (refine Text.bpurek rfl rfl (fun K hK => ⟨_, fun w' => by go_simp <;> rfl, ?_⟩); go_simp; refine hK _ ?_; clear hK K)
     have HD : Hid (Below wf.heap.size wf wf.drew) := Lib.hid (Below.refl _ _).drew
     refine Text.bfork ?_ ?_
     ·
      refine Text.beff rfl rfl (fun K hK => ?_)
      go_simp
      refine (to_any a0 n0 c0 a1 n1 c1 a2 n2 c2 a3 n3 c3 a4 n4 c4 a5 n5 c5 x.pct _).mono ?_
      rintro e wg ⟨rfl, b9⟩
      have HBwg := Lib.hid b9
      have HXwg : Hid (Below wf.heap.size wf wg) := Lib.hid (below_thenB (HD).out (by have := (HD).out.size; exact this) b9)
      refine hK _ _ HXwg.out ?_
      clear hK K b9
      refine Text.bfork ?_ ?_
      ·
       refine Text.beff rfl rfl (fun K hK => ?_)
       go_simp
       refine (step_any _ s _ (stay_stp _ _ _ _ HSTP.out (below_thenB HBf.out HBf.out.size (HXwg).out))).mono ?_
       rintro e wh ⟨rfl, b9⟩
       have HBwh := Lib.hid b9
       have HXwh : Hid (Below wf.heap.size wf wh) := Lib.hid (below_thenB (HXwg).out (by have := (HXwg).out.size; exact this) b9)
       refine hK _ _ HXwh.out ?_
       clear hK K b9
       refine Text.bfork ?_ ?_
       ·
        refine Text.beff rfl rfl (fun K hK => ?_)
        go_simp
        refine (HAF.out _ _ (below_thenB HBf.out HBf.out.size (HXwh).out) (stay_stp _ _ _ _ HSTP.out (below_thenB HBf.out HBf.out.size (HXwh).out))).mono ?_
        rintro e wi ⟨cy, rfl, hcy, b9⟩
        have HBwi := Lib.hid b9
        have HXwi : Hid (Below wf.heap.size wf wi) := Lib.hid (below_thenB (HXwh).out (by have := (HXwh).out.size; exact this) b9)
        refine hK _ _ HXwi.out ?_
        clear hK K b9
        iterate 3 (refine Text.bpurek rfl rfl (fun K hK => ⟨_, fun w' => by go_simp <;> rfl, ?_⟩); go_simp; refine hK _ ?_; clear hK K)
        refine Text.beff rfl rfl (fun K hK => ?_)
        refine wp_alloc 33 rfl siZ siZero ?_
        intro wj a1 a2 a3
        have HBwj := Lib.hid a2
        have HXwj : Hid (Below wf.heap.size wf wj) := Lib.hid (below_thenB (HXwi).out (by have := (HXwi).out.size; exact this) a2)
        have HGwj := Lib.hid a1
        have HLwj : Hid (wf.heap.size ≤ wi.heap.size) := Lib.hid (by have := (HXwi).out.size; exact this)
        refine hK _ _ HXwj.out ?_
        clear hK K a1 a2 a3
        have hcy9 := rSi_kept hcy HBwj.out
        refine Text.beff rfl rfl (fun K hK => ?_)
        refine wp_storev 33 (.tmp 7) (.tmp 32) rfl 7 (by kernel_rfl) wi.heap.size 0 _ siZ cy rfl rfl HGwj.out (rSi_len hcy) (rSi_one hcy) (by decide) ?_
        intro wz z1 z2 z3
        rw [splice_full siZ cy (rSi_len hcy)] at z1
        have hbz : BL wz wi.heap.size 33 cy := z1
        have hsz := rSi_put hcy9 (rSi_zeroE wf) z2 HGwj.out
        have HXz : Hid (Below wf.heap.size wf wz) := Lib.hid (((Kp.of_below (S := fun _ => False) (HXwj).out).after z2 (fun i hi e => by have := (HLwj).out; omega)).below (Nat.le_refl _) (fun _ h => h.elim))
        refine hK _ _ HXz.out ?_
        clear hK K z1 z2 z3
        (refine Text.bpurek rfl rfl (fun K hK => ⟨_, fun w' => by go_simp <;> rfl, ?_⟩); go_simp; refine hK _ ?_; clear hK K)
        refine Text.bdone ?_
        go_wp2_with fail
        go_meet
        exact ⟨_, rfl, rfl, Lib.hid ⟨cy, hbz, hsz⟩, HXz, HLwj⟩
       ·
        refine Text.beff rfl rfl (fun K hK => ?_)
        refine wp_alloc 33 rfl siZ siZero ?_
        intro wi a1 a2 a3
        have HBwi := Lib.hid a2
        have HXwi : Hid (Below wf.heap.size wf wi) := Lib.hid (below_thenB (HXwh).out (by have := (HXwh).out.size; exact this) a2)
        have HGwi := Lib.hid a1
        have HLwi : Hid (wf.heap.size ≤ wh.heap.size) := Lib.hid (by have := (HXwh).out.size; exact this)
        refine hK _ _ HXwi.out ?_
        clear hK K a1 a2 a3
        refine Text.beff rfl rfl (fun K hK => ?_)
        go_simp
        refine (HAF.out _ _ (below_thenB HBf.out HBf.out.size (HXwi).out) (stay_stp _ _ _ _ HSTP.out (below_thenB HBf.out HBf.out.size (HXwi).out))).mono ?_
        rintro e wj ⟨cy, rfl, hcy, b9⟩
        have HBwj := Lib.hid b9
        have HXwj : Hid (Below wf.heap.size wf wj) := Lib.hid (below_thenB (HXwi).out (by have := (HXwi).out.size; exact this) b9)
        refine hK _ _ HXwj.out ?_
        clear hK K b9
        iterate 3 (refine Text.bpurek rfl rfl (fun K hK => ⟨_, fun w' => by go_simp <;> rfl, ?_⟩); go_simp; refine hK _ ?_; clear hK K)
        have hcy9 := hcy
        refine Text.beff rfl rfl (fun K hK => ?_)
        refine wp_storev 33 (.tmp 7) (.tmp 32) rfl 7 (by kernel_rfl) wh.heap.size 0 _ siZ cy rfl rfl (HGwi.out.kept HBwj.out) (rSi_len hcy) (rSi_one hcy) (by decide) ?_
        intro wz z1 z2 z3
        rw [splice_full siZ cy (rSi_len hcy)] at z1
        have hbz : BL wz wh.heap.size 33 cy := z1
        have hsz := rSi_put hcy9 (rSi_zeroE wf) z2 (HGwi.out.kept HBwj.out)
        have HXz : Hid (Below wf.heap.size wf wz) := Lib.hid (((Kp.of_below (S := fun _ => False) (HXwj).out).after z2 (fun i hi e => by have := (HLwi).out; omega)).below (Nat.le_refl _) (fun _ h => h.elim))
        refine hK _ _ HXz.out ?_
        clear hK K z1 z2 z3
        (refine Text.bpurek rfl rfl (fun K hK => ⟨_, fun w' => by go_simp <;> rfl, ?_⟩); go_simp; refine hK _ ?_; clear hK K)
        refine Text.bdone ?_
        go_wp2_with fail
        go_meet
        exact ⟨_, rfl, rfl, Lib.hid ⟨cy, hbz, hsz⟩, HXz, HLwi⟩
      ·
       refine Text.beff rfl rfl (fun K hK => ?_)
       refine wp_alloc 33 rfl siZ siZero ?_
       intro wh a1 a2 a3
       have HBwh := Lib.hid a2
       have HXwh : Hid (Below wf.heap.size wf wh) := Lib.hid (below_thenB (HXwg).out (by have := (HXwg).out.size; exact this) a2)
       have HGwh := Lib.hid a1
       have HLwh : Hid (wf.heap.size ≤ wg.heap.size) := Lib.hid (by have := (HXwg).out.size; exact this)
       refine hK _ _ HXwh.out ?_
       clear hK K a1 a2 a3
       refine Text.beff rfl rfl (fun K hK => ?_)
       go_simp
       refine (step_any _ s _ (stay_stp _ _ _ _ HSTP.out (below_thenB HBf.out HBf.out.size (HXwh).out))).mono ?_
       rintro e wi ⟨rfl, b9⟩
       have HBwi := Lib.hid b9
       have HXwi : Hid (Below wf.heap.size wf wi) := Lib.hid (below_thenB (HXwh).out (by have := (HXwh).out.size; exact this) b9)
       refine hK _ _ HXwi.out ?_
       clear hK K b9
       refine Text.beff rfl rfl (fun K hK => ?_)
       go_simp
       refine (HAF.out _ _ (below_thenB HBf.out HBf.out.size (HXwi).out) (stay_stp _ _ _ _ HSTP.out (below_thenB HBf.out HBf.out.size (HXwi).out))).mono ?_
       rintro e wj ⟨cy, rfl, hcy, b9⟩
       have HBwj := Lib.hid b9
       have HXwj : Hid (Below wf.heap.size wf wj) := Lib.hid (below_thenB (HXwi).out (by have := (HXwi).out.size; exact this) b9)
       refine hK _ _ HXwj.out ?_
       clear hK K b9
       iterate 3 (refine Text.bpurek rfl rfl (fun K hK => ⟨_, fun w' => by go_simp <;> rfl, ?_⟩); go_simp; refine hK _ ?_; clear hK K)
       have hcy9 := hcy
       refine Text.beff rfl rfl (fun K hK => ?_)
       refine wp_storev 33 (.tmp 7) (.tmp 32) rfl 7 (by kernel_rfl) wg.heap.size 0 _ siZ cy rfl rfl ((HGwh.out.kept HBwi.out).kept HBwj.out) (rSi_len hcy) (rSi_one hcy) (by decide) ?_
       intro wz z1 z2 z3
       rw [splice_full siZ cy (rSi_len hcy)] at z1
       have hbz : BL wz wg.heap.size 33 cy := z1
       have hsz := rSi_put hcy9 (rSi_zeroE wf) z2 ((HGwh.out.kept HBwi.out).kept HBwj.out)
       have HXz : Hid (Below wf.heap.size wf wz) := Lib.hid (((Kp.of_below (S := fun _ => False) (HXwj).out).after z2 (fun i hi e => by have := (HLwh).out; omega)).below (Nat.le_refl _) (fun _ h => h.elim))
       refine hK _ _ HXz.out ?_
       clear hK K z1 z2 z3
       (refine Text.bpurek rfl rfl (fun K hK => ⟨_, fun w' => by go_simp <;> rfl, ?_⟩); go_simp; refine hK _ ?_; clear hK K)
       refine Text.bdone ?_
       go_wp2_with fail
       go_meet
       exact ⟨_, rfl, rfl, Lib.hid ⟨cy, hbz, hsz⟩, HXz, HLwh⟩
     ·
      refine Text.beff rfl rfl (fun K hK => ?_)
      refine wp_alloc 33 rfl siZ siZero ?_
      intro wg a1 a2 a3
      have HBwg := Lib.hid a2
      have HXwg : Hid (Below wf.heap.size wf wg) := Lib.hid (below_thenB (HD).out (by have := (HD).out.size; exact this) a2)
      have HGwg := Lib.hid a1
      have HLwg : Hid (wf.heap.size ≤ wf.heap.size) := Lib.hid (by have := (HD).out.size; exact this)
      refine hK _ _ HXwg.out ?_
      clear hK K a1 a2 a3
      refine Text.beff rfl rfl (fun K hK => ?_)
      go_simp
      refine (to_any a0 n0 c0 a1 n1 c1 a2 n2 c2 a3 n3 c3 a4 n4 c4 a5 n5 c5 x.pct _).mono ?_
      rintro e wh ⟨rfl, b9⟩
      have HBwh := Lib.hid b9
      have HXwh : Hid (Below wf.heap.size wf wh) := Lib.hid (below_thenB (HXwg).out (by have := (HXwg).out.size; exact this) b9)
      refine hK _ _ HXwh.out ?_
      clear hK K b9
      refine Text.beff rfl rfl (fun K hK => ?_)
      go_simp
      refine (step_any _ s _ (stay_stp _ _ _ _ HSTP.out (below_thenB HBf.out HBf.out.size (HXwh).out))).mono ?_
      rintro e wi ⟨rfl, b9⟩
      have HBwi := Lib.hid b9
      have HXwi : Hid (Below wf.heap.size wf wi) := Lib.hid (below_thenB (HXwh).out (by have := (HXwh).out.size; exact this) b9)
      refine hK _ _ HXwi.out ?_
      clear hK K b9
      refine Text.beff rfl rfl (fun K hK => ?_)
      go_simp
      refine (HAF.out _ _ (below_thenB HBf.out HBf.out.size (HXwi).out) (stay_stp _ _ _ _ HSTP.out (below_thenB HBf.out HBf.out.size (HXwi).out))).mono ?_
      rintro e wj ⟨cy, rfl, hcy, b9⟩
      have HBwj := Lib.hid b9
      have HXwj : Hid (Below wf.heap.size wf wj) := Lib.hid (below_thenB (HXwi).out (by have := (HXwi).out.size; exact this) b9)
      refine hK _ _ HXwj.out ?_
      clear hK K b9
      iterate 3 (refine Text.bpurek rfl rfl (fun K hK => ⟨_, fun w' => by go_simp <;> rfl, ?_⟩); go_simp; refine hK _ ?_; clear hK K)
      have hcy9 := hcy
      refine Text.beff rfl rfl (fun K hK => ?_)
      refine wp_storev 33 (.tmp 7) (.tmp 32) rfl 7 (by kernel_rfl) wf.heap.size 0 _ siZ cy rfl rfl (((HGwg.out.kept HBwh.out).kept HBwi.out).kept HBwj.out) (rSi_len hcy) (rSi_one hcy) (by decide) ?_
      intro wz z1 z2 z3
      rw [splice_full siZ cy (rSi_len hcy)] at z1
      have hbz : BL wz wf.heap.size 33 cy := z1
      have hsz := rSi_put hcy9 (rSi_zeroE wf) z2 (((HGwg.out.kept HBwh.out).kept HBwi.out).kept HBwj.out)
      have HXz : Hid (Below wf.heap.size wf wz) := Lib.hid (((Kp.of_below (S := fun _ => False) (HXwj).out).after z2 (fun i hi e => by have := (HLwg).out; omega)).below (Nat.le_refl _) (fun _ h => h.elim))
      refine hK _ _ HXz.out ?_
      clear hK K z1 z2 z3
      (refine Text.bpurek rfl rfl (fun K hK => ⟨_, fun w' => by go_simp <;> rfl, ?_⟩); go_simp; refine hK _ ?_; clear hK K)
      refine Text.bdone ?_
      go_wp2_with fail
      go_meet
      exact ⟨_, rfl, rfl, Lib.hid ⟨cy, hbz, hsz⟩, HXz, HLwg⟩
    case rest =>
     obtain ⟨gy, rfl, rfl, hyy, hb, hg⟩ := hcut
     obtain ⟨cy, hy1, hy2⟩ := hyy.out
     have HBx := Lib.hid (below_thenB HBf.out HBf.out.size hb.out)
     have HSx := Lib.hid (HSf.out.kept hb.out)
     have HTx := Lib.hid (HTf.out.kept hb.out)
     have HRY := Lib.hid hy2
     obtain ⟨b0, k0, d0, b1, k1, d1, b2, k2, d2, b3, k3, d3, b4, k4, d4, b5, k5, d5, rfl, _⟩ := hy2
     have HY := Lib.hid hy1
     clear hyy hy1 hb hg HSf HTf
     cases hv : siB x with
     | false =>
      obtain rfl : RES = siE := by rw [HRES.out, hv]; rfl
      obtain rfl : ERR = 1 := by rw [HERR.out, hv]; rfl
      go_wp2_with (first
       | ((with_reducible show OpW 34); refine wpList_loadv _ rfl 26 (.tmp 3) rfl 7 (by kernel_rfl) w.heap.size 0 _ rfl (BL.all HSx.out) rfl ?_)
       | (go_at_call 13; refine (sivalid_any _ x _ (show rSi wc _ _ from ⟨a0, n0, c0, a1, n1, c1, a2, n2, c2, a3, n3, c3, a4, n4, c4, a5, n5, c5, rfl, H.out.kept HBx.out⟩)).mono ?_; rintro e wk ⟨rfl, bl⟩; rw [hv]; have HXk := Lib.hid bl; have HBk := Lib.hid (below_then HBx.out bl); clear bl)
       | ((with_reducible show OpW 40); refine wpList_loadvg _ rfl 33 (.tmp 7) rfl 7 (by kernel_rfl) gy 0 (siC b0 k0 d0 b1 k1 d1 b2 k2 d2 b3 k3 d3 b4 k4 d4 b5 k5 d5 siE.pct) rfl (BL.all (HY.out.kept HXk.out)) rfl ?_)
       | (go_at_call 21; refine (from_any b0 k0 d0 b1 k1 d1 b2 k2 d2 b3 k3 d3 b4 k4 d4 b5 k5 d5 siE.pct _).mono ?_; rintro e wl ⟨rfl, bl⟩; have HXl := Lib.hid (below_thenB HXk.out HXk.out.size bl); have HBl := Lib.hid (below_then HBk.out bl); clear bl)
       | ((with_reducible show OpW 42); refine wpList_buildg _ rfl 26 #[] rfl #[] (by rfl) (.agg siZ.toArray) (bldSiQ0 _) ?_)
       | (go_at_call 20; refine (rsame_refl _ siZ siE _ (rSi_kept HRY.out HXl.out) (rSi_zeroE _)).mono ?_; rintro e wm ⟨rfl, bl⟩; have HBm := Lib.hid (below_then HBl.out bl); clear bl))
      go_ret
      exact ⟨rfl, HBm.out⟩
     | true =>
      have HAR : Hid (∀ (w' : World) (c1 c2 : List Value), Below w.heap.size w w' → rSi w' c1 x → rStp w' c2 s → Calls Try.prog 22 #[.agg c1.toArray, .agg c2.toArray, .slice B l d] w' (AfterR RES ERR w')) := Lib.hid (fun w' c1 c2 hb h1 h2 => by
       rw [HRES.out, HERR.out, hv]
       exact rafter_all c1 x w' h1 HBG.out c2 s h2 B l d made (HM.out.kept stay_sp hb) HLM.out HLR.out.2 HBD.out)
      go_wp2_with (first
       | ((with_reducible show OpW 34); refine wpList_loadv _ rfl 26 (.tmp 3) rfl 7 (by kernel_rfl) w.heap.size 0 _ rfl (BL.all HSx.out) rfl ?_)
       | (go_at_call 13; refine (sivalid_any _ x _ (show rSi wc _ _ from ⟨a0, n0, c0, a1, n1, c1, a2, n2, c2, a3, n3, c3, a4, n4, c4, a5, n5, c5, rfl, H.out.kept HBx.out⟩)).mono ?_; rintro e wk ⟨rfl, bl⟩; rw [hv]; have HXk := Lib.hid bl; have HBk := Lib.hid (below_then HBx.out bl); have HSk := Lib.hid (HSx.out.kept bl); have HTk := Lib.hid (HTx.out.kept bl); clear bl)
       | ((with_reducible show OpW 46); refine wpList_loadv _ rfl 26 (.tmp 3) rfl 7 (by kernel_rfl) w.heap.size 0 _ rfl (BL.all HSk.out) rfl ?_)
       | ((with_reducible show OpW 47); refine wpList_loadv _ rfl 42 (.tmp 4) rfl 5 (by kernel_rfl) w1.heap.size 0 _ rfl (BL.all HTk.out) rfl ?_)
       | (go_at_call 22; refine (HAR.out wk _ _ HBk.out (show rSi wk _ _ from ⟨a0, n0, c0, a1, n1, c1, a2, n2, c2, a3, n3, c3, a4, n4, c4, a5, n5, c5, rfl, H.out.kept HBk.out⟩) (stay_stp _ _ _ _ HSTP.out HBk.out)).mono ?_; rintro e wm ⟨cz, rfl, hz, bl⟩; have HZm := Lib.hid hz; have HXm := Lib.hid (below_thenB HXk.out HXk.out.size bl); have HBm := Lib.hid (below_then HBk.out bl); clear hz bl)
       | ((with_reducible show OpW 9); refine wpList_alloc _ rfl 26 rfl siZ siqZero ?_; intro wn y1 y2 y3; have HVn := Lib.hid y1; have HXn := Lib.hid (below_thenB HXm.out HXm.out.size y2); have HBn := Lib.hid (below_then HBm.out y2); have HZn := Lib.hid (rSi_kept HZm.out y2); clear y1 y2 y3)
       | ((with_reducible show OpN); refine wpList_storev _ rfl 26 (.tmp 9) (.tmp 50) rfl 7 (by kernel_rfl) wm.heap.size 0 _ siZ cz rfl rfl HVn.out (rSi_len HZn.out) (rSi_one HZn.out) (by decide) ?_; intro wo y1 y2 y3; rw [splice_full siZ cz (rSi_len HZn.out)] at y1; have HVo := Lib.hid y1; have HZo := Lib.hid (rSi_put HZn.out (rSi_zeroE w) y2 HVn.out); have HXo : Hid (Below wc.heap.size wc wo) := Lib.hid (((Kp.of_below (S := fun _ => False) HXn.out).after y2 (fun i hi e => by have := HXm.out.size; omega)).below (Nat.le_refl _) (fun _ h => h.elim)); have HBo := Lib.hid (below_thenB HBx.out HBx.out.size HXo.out); clear y1 y2 y3))
      have HLZ := Lib.hid (rSi_len HZo.out)
      refine Text.wp_region_text (fun w' => Below wo.heap.size wo w') [(0, 4), (1, 4), (2, 4), (3, 4), (4, 0), (6, 0), (5, 2), (7, 2), (8, 4), (9, 4)] (by kernel_rfl) (by kernel_rfl) (fun _ _ _ _ _ h => h) ((Below.refl _ _).drew) ?_
      iterate 4 (refine Text.purek rfl rfl (fun K hK => ⟨_, fun w' => by go_simp <;> rfl, ?_⟩); go_simp; refine hK _ ?_; clear hK K)
      refine Text.heldk rfl rfl (fun K hK => ?_)
      refine ⟨_, fun w' hw' => exec_loadv 33 (.tmp 7) rfl 7 (by kernel_rfl) gy 0 (siC b0 k0 d0 b1 k1 d1 b2 k2 d2 b3 k3 d3 b4 k4 d4 b5 k5 d5 RES.pct) rfl (BL.all ((HY.out.kept HXo.out).kept hw')) rfl, ?_⟩
      go_simp
      refine hK _ ?_
      clear hK K
      refine Text.heldk rfl rfl (fun K hK => ?_)
      refine ⟨_, fun w' hw' => exec_loadv 26 (.tmp 9) rfl 7 (by kernel_rfl) wm.heap.size 0 cz rfl (BL.all (HVo.out.kept hw')) HLZ.out, ?_⟩
      go_simp
      refine hK _ ?_
      clear hK K
      refine Text.effw rfl rfl (fun K hK => ?_)
      go_simp
      refine (from_any b0 k0 d0 b1 k1 d1 b2 k2 d2 b3 k3 d3 b4 k4 d4 b5 k5 d5 RES.pct _).mono ?_
      rintro e wp ⟨rfl, bl⟩
      have HXp : Hid (Below wo.heap.size wo wp) := Lib.hid (below_ofDrew bl)
      refine hK _ _ HXp.out ?_
      clear hK K bl
      refine Text.effw rfl rfl (fun K hK => ?_)
      go_simp
      refine (rsame_refl _ cz RES _ (rSi_kept (rSi_kept HRY.out HXo.out) HXp.out) (rSi_kept HZo.out HXp.out)).mono ?_
      rintro e wq ⟨rfl, bl⟩
      have HXq : Hid (Below wo.heap.size wo wq) := Lib.hid (below_thenB HXp.out HXp.out.size bl)
      refine hK _ _ HXq.out ?_
      clear hK K bl
      iterate 2 (refine Text.purek rfl rfl (fun K hK => ⟨_, fun w' => by go_simp <;> rfl, ?_⟩); go_simp; refine hK _ ?_; clear hK K)
      refine Text.done ?_
      go_wp2_with fail
      go_ret
      exact ⟨rfl, below_thenB HBo.out HBo.out.size HXq.out⟩
end Go.Proofs.Ytboglaokdgnpaaa
