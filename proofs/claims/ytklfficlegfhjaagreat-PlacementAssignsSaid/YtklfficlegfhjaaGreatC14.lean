/- Several texts in one: Jc, Jd. -/
import Derived.Test.YtklfficlegfhjaaGreatC13
/- look: a range over choices; the induction. -/
namespace Go.Proofs.YtklfficlegfhjaaGreat
open Go Go.RowKit Go.Shelf Go.WideMaps Go.ChangeMaps Gf Sha
attribute [local go_sem] Oper.semAt_some

theorem choices_any (g : Nat) (i : Int) (w : World) :
  Calls Tryz.prog 72 #[.pointer (some ⟨g, 0, none⟩), .int .i64 i] w fun e w' => ∃ s' i', e = .returned (.func (.func 83) #[] #[.pointer (some ⟨s', 0, none⟩), .pointer (some ⟨i', 0, none⟩)]) ∧
   BL w' s' 94 [.pointer (some ⟨g, 0, none⟩)] ∧ BL w' i' 3 [.int .i64 i] ∧ Below w.heap.size w w' := by
 go_enter Tryz.func72, Tryz.ntmps72
 go_wp2_with (first
  | ((with_reducible show OpW 2); refine wpList_box1 _ rfl 94 (.tmp 0) rfl _ rfl rfl ?_; intro w1 a1 a2 a3; have HV1 := Lib.hid a1; have HX1 := Lib.hid a2; have HZ1 := Lib.hid a3; clear a1 a2 a3)
  | ((with_reducible show OpW 3); refine wpList_box1 _ rfl 3 (.tmp 1) rfl _ rfl rfl ?_; intro w2 a1 a2 a3; have HV2 := Lib.hid a1; have HX2 := Lib.hid a2; have HZ2 := Lib.hid a3; clear a1 a2 a3))
 go_ret
 exact ⟨_, _, rfl, HV1.out.kept HX2.out, HV2.out, HX1.out.trans (HX2.out.mono (by have := HX1.out.size; omega))⟩
/-- The search's state between two rounds. -/
structure LkS {σ : Type} (W0 W A : World) (T : Nat → Prop) (x : SX) (ws : List Wt) (hs : List Hd) (gw : Nat) (X : σ → (Nat → Prop) → World → Prop) (cs : List (List Int)) (left : List Int) (R : Nat → Prop) (s : PS σ) : Prop where
 v : SrV W0 A T x ws hs left s.n
 c : Chs A x.gc ws.length R cs
 x : X s.x R A
 w : BL A gw 4 [.bool s.wi]
 k : Kp T W A
theorem LkS.kp {σ : Type} {W0 W A A' : World} {T S : Nat → Prop} {x : SX} {ws : List Wt} {hs : List Hd} {gw : Nat} {X : σ → (Nat → Prop) → World → Prop} {cs : List (List Int)} {left : List Int} {R : Nat → Prop} {s : PS σ} (h : LkS W0 W A T x ws hs gw X cs left R s)
  (hxk : ∀ (s : σ) (R S : Nat → Prop) (W W' : World), X s R W → Kp S W W' → (∀ b, R b → ¬ S b) → X s R W') (hk : Kp S A A') (h0 : W0.heap.size ≤ W.heap.size) (hlt : gw < W.heap.size ∧ x.gc < W.heap.size ∧ x.g < W.heap.size ∧ ∀ b, x.vl.ownBlock = some b → b < W.heap.size) (h1 : ∀ b, S b → W.heap.size ≤ b) (h2 : ∀ b, R b → ¬ S b) :
  LkS W0 W A' T x ws hs gw X cs left R s :=
 ⟨h.v.kp' hk (fun b hb e => by have := h1 b e; omega) (fun e => by have := h1 _ e; have := hlt.2.2.1; omega) (fun b hb e => by have := h1 b e; have := hlt.2.2.2 b hb; omega), h.c.kp hk (fun e => by have := h1 _ e; have := hlt.2.1; omega) h2, hxk _ _ _ _ _ h.x hk h2,
  hk.bl h.w (fun e => by have := h1 _ e; have := hlt.1; omega), h.k.after hk (fun b hb e => by have := h1 b e; omega)⟩
theorem LkS.fin {σ : Type} {W0 W A : World} {T : Nat → Prop} {x : SX} {ws : List Wt} {hs : List Hd} {gw budget : Nat} {X : σ → (Nat → Prop) → World → Prop} {cs : List (List Int)} {left : List Int} {R R' : Nat → Prop} {s : PS σ} (h : LkS W0 W A T x ws hs gw X cs left R' s)
  (hxm : ∀ (s : σ) (R R' : Nat → Prop) (W : World), X s R W → (∀ b, R b → b < W.heap.size → R' b) → X s R' W) (hR : ∀ b, R' b → R b ∨ W.heap.size ≤ b) {p : Bool × PS σ} {b : Bool} (hp : p = (b, s)) (hb : b = true → s.n ≤ budget) : LkP W0 T x ws hs gw budget X cs left R W p (.returned (.bool b)) A := by
 subst hp
 exact ⟨rfl, h.v, h.c.mono (fun b h _ => hR b h), hxm _ _ _ _ h.x (fun b hb _ => hR b hb), h.w, h.k, hb⟩
theorem pgo_drop {σ : Type} {f : List Int → PS σ → Bool × PS σ} {xs : List (List Int)} {k : Nat} {c : List Int} {s s0 : PS σ} (hk : xs[k]? = some c) (h : pgo f (xs.drop k) s = pgo f xs s0) : (if (f c s).1 then pgo f (xs.drop (k + 1)) (f c s).2 else (false, (f c s).2)) = pgo f xs s0 := by
 obtain ⟨hl, rfl⟩ := List.getElem?_eq_some_iff.1 hk
 rw [← h, List.drop_eq_getElem_cons hl, pgo]
section
variable {σ : Type} {W0 : World} {T : Nat → Prop} {x : SX} {ws : List Wt} {hs : List Hd} {ps : List Pl} {ex : Option Int} {sb bb gw lb budget : Nat} {fsz : FuncId} {lbs : Array Value} {ffd : FuncId} {lbf : Array Value} {fd : List (List Int) → σ → Bool × σ} {X : σ → (Nat → Prop) → World → Prop} {Tx : Nat → Prop}
set_option maxRecDepth 100000
set_option maxHeartbeats 8000000
theorem look_range (h : LkC W0 T x ws hs ps ex sb bb gw lb budget fsz lbs ffd lbf fd X Tx) (r' : List Wt) (i : Nat) (w : Wt) (hi : ws[i]? = some w) (cs : List (List Int)) (left : List Int) (st : PS σ) (R : Nat → Prop) (W : World) (hcl : cs.length = i) (hlo : LOk left) (hV : SrV W0 W T x ws hs left st.n) (hCs : Chs W x.gc ws.length R cs) (hX : X st.x R W) (hw : BL W gw 4 [.bool st.wi])
  (hR : ∀ b, R b → b < W.heap.size ∧ ¬ T1 x gw b) (hb : st.n + 1 ≤ budget)
  (ih : ∀ (cs : List (List Int)) (left : List Int) (st : PS σ) (R : Nat → Prop) (W : World), cs.length = i + 1 → LOk left → st.n ≤ budget → SrV W0 W T x ws hs left st.n → Chs W x.gc ws.length R cs → X st.x R W → BL W gw 4 [.bool st.wi] → (∀ b, R b → b < W.heap.size ∧ ¬ T1 x gw b) →
   Calls Tryz.prog 71 #[.int .i64 ((i : Int) + 1), .pointer (some ⟨sb, 0, none⟩), .pointer (some ⟨bb, 0, none⟩), .pointer (some ⟨gw, 0, none⟩), .pointer (some ⟨lb, 0, none⟩)] W fun e W' =>
    LkP W0 T x ws hs gw budget X cs left R W (plook (choP hs ps ex) fd budget r' cs left st) e W') :
  Calls Tryz.prog 71 #[.int .i64 (i : Int), .pointer (some ⟨sb, 0, none⟩), .pointer (some ⟨bb, 0, none⟩), .pointer (some ⟨gw, 0, none⟩), .pointer (some ⟨lb, 0, none⟩)] W fun e W' =>
   LkP W0 T x ws hs gw budget X cs left R W (pgo (fun c s => plook (choP hs ps ex) fd budget r' (cs ++ [c]) (takeL left c w.sz) s) (choP hs ps ex left w) ⟨st.n + 1, st.wi, st.x⟩) e W' := by
 obtain ⟨xg, Aw, cw, Ah, ch, vl, bm, Am, cm, gc, cc, vs, vf⟩ := x
 obtain ⟨gA, oA, ea, hin, _⟩ := LS.wt_at (h.c.w W hV.kp) (Below.refl _ _) hi
 dsimp only at ea
 subst ea
 have hiI : ((i : Int) == (ws.length : Int)) = false := by rw [beq_eq_false_iff_ne]; omega
 have hinI : (i : Int) < (ws.length : Int) := by omega
 have HI := Lib.hid hi
 have HL := Lib.hid h
 have HV := Lib.hid hV
 have HCS := Lib.hid hCs
 have HX := Lib.hid hX
 have HW := Lib.hid hw
 have HR := Lib.hid hR
 have HCL := Lib.hid hcl
 have HLO := Lib.hid hlo
 have HIH := Lib.hid ih
 have hbu := h.bu
 have HWZ := Lib.hid (h.wz w (List.mem_of_getElem? hi))
 clear h hV hCs hX hw hR hi hcl hlo ih
 obtain ⟨f, hf⟩ : ∃ f, f = (fun (c : List Int) (s : PS σ) => plook (choP hs ps ex) fd budget r' (cs ++ [c]) (takeL left c w.sz) s) := ⟨_, rfl⟩
 obtain ⟨xs, hxs⟩ : ∃ xs, xs = choP hs ps ex left w := ⟨_, rfl⟩
 rw [← hf, ← hxs]
 have HF : Hid (∀ c s, f c s = plook (choP hs ps ex) fd budget r' (cs ++ [c]) (takeL left c w.sz) s) := Lib.hid (fun c s => by rw [hf])
 have HXS := Lib.hid hxs
 clear hf hxs
 have hws : IntKind.i64.wrap ((st.n : Int) + 1) = (st.n : Int) + 1 := IntWalk.i64_in _ (by omega)
 refine calls_fw (ro := none) (n := 3) ?_
 have f1 : decide ((st.n : Int) + 1 > (budget : Int)) = false := decide_eq_false (by omega)
 refine callsIn_of_wp_marks (F := Fence.wide) Tryz.func71 rfl trivial ?_ rfl
 simp only [Tryz.ntmps71, List.size_toArray, List.length_cons, List.length_nil, Nat.reduceAdd, Nat.reduceSub, Array.replicate_succ, Array.replicate_zero, List.push_toArray, List.append_toArray, List.nil_append, List.cons_append]
 gi_wp2_with (first
  | ((with_reducible show wpListIn _ _ _ _ _ (⟨some 5, _, _, _, _, _⟩ :: _) _ _); refine fw_list (by intro c h; cases h) ?_; refine wpList_box1 _ rfl 3 (.tmp 0) rfl _ rfl rfl ?_; intro w1 a1 a2 a3; have HV1 := Lib.hid a1; have HX1 := Lib.hid a2; have HZ1 := Lib.hid a3; clear a1 a2 a3; refine fw_back ?_)
  | ((with_reducible show wpListIn _ _ _ _ _ (⟨some 6, _, _, _, _, _⟩ :: _) _ _); refine fw_list (by intro c h; cases h) ?_; refine wpList_alloc1 _ rfl 4 rfl (.bool false) boolZ1 rfl ?_; intro w2 a1 a2 a3; have HV2 := Lib.hid a1; have HX2 : Hid (Below W.heap.size W w2) := Lib.hid (HX1.out.trans (a2.mono HX1.out.size)); have HI2 := Lib.hid (HV1.out.kept a2); rw [HZ1.out] at HV2 ⊢; have HZ2 : Hid (w2.heap.size = W.heap.size + 2) := Lib.hid (by rw [a3, HZ1.out]); have s0 := (HL.out.psb w2 (HV.out.kp.then HX2.out)).get (j := 0) rfl; have s8 := (HV.out.kept HX2.out).bg.get (j := 8) rfl; clear a1 a2 a3; refine fw_back ?_)
  | ((with_reducible show wpListIn _ _ _ _ _ (⟨none, _, _, _, _, _⟩ :: _) _ _); refine fw_list (by intro c h; cases h) ?_; refine wpList_store1 _ rfl 3 (.tmp 15) (.tmp 13) rfl (sz1 _ (by kernel_rfl) _) xg 8 _ _ (.int .i64 ((st.n : Int) + 1)) rfl rfl (HV.out.kept HX2.out).bg rfl rfl (by simp) ?_; intro w3 a1 a2 a3; have HV3 : Hid (BL w3 xg 100 (sxL ⟨xg, (some ⟨gA, oA, none⟩), cw, Ah, ch, vl, bm, Am, cm, gc, cc, vs, vf⟩ ws.length hs.length (st.n + 1))) := Lib.hid a1; have HK3 := Lib.hid a2; have HZ3 : Hid (w3.heap.size = W.heap.size + 2) := Lib.hid (by rw [a3, HZ2.out]); clear a1 a2 a3 s0 s8; refine fw_back ?_))
 have HSV : Hid (SrV W0 w3 T ⟨xg, (some ⟨gA, oA, none⟩), cw, Ah, ch, vl, bm, Am, cm, gc, cc, vs, vf⟩ ws hs left (st.n + 1)) := Lib.hid ((HV.out.kept HX2.out).upd HL.out.c.tg HV3.out HK3.out)
 have hgl : xg < W.heap.size := HV.out.bg.lt
 have HV0 : Hid (W0.heap.size ≤ W.heap.size) := Lib.hid HV.out.kp.size
 have HNG : Hid (∀ b, R b → ¬ b = xg) := Lib.hid (fun b h e => (HR.out b h).2 (.inl e))
 have HCS3 : Hid (Chs w3 gc ws.length R cs) := Lib.hid ((HCS.out.kp (S := fun _ => False) (Kp.of_below HX2.out) (fun h => h) (fun _ _ h => h)).kp HK3.out (fun e => by obtain ⟨csv, hb, _⟩ := HCS.out; have := (hb.kept HX2.out).ty (by rw [show gc = xg from e]; exact HV.out.bg.kept HX2.out); exact absurd this (by decide)) HNG.out)
 have HX3 : Hid (X st.x R w3) := Lib.hid (HL.out.xk _ _ _ _ _ (HL.out.xk _ _ (fun _ => False) _ _ HX.out (Kp.of_below HX2.out) (fun _ _ h => h)) HK3.out HNG.out)
 have HW3 : Hid (BL w3 gw 4 [.bool st.wi]) := Lib.hid (HK3.out.bl (HW.out.kept HX2.out) (fun e => by have := HW.out.ty (by rw [show gw = xg from e]; exact HV.out.bg); exact absurd this (by decide)))
 have HI3 : Hid (BL w3 W.heap.size 3 [.int .i64 (i : Int)]) := Lib.hid (HK3.out.bl HI2.out (fun e => by omega))
 have HG3 : Hid (BL w3 (W.heap.size + 1) 4 [.bool false]) := Lib.hid (HK3.out.bl HV2.out (fun e => by omega))
 have HKT : Hid (Kp T W w3) := Lib.hid (((Kp.of_below HX2.out)).after HK3.out (fun b _ e => by subst e; exact HL.out.c.tg))
 have r1 := (HL.out.psb w3 HSV.out.kp).drew.get (j := 0) rfl
 have r2 := (HL.out.pbb w3 HSV.out.kp).drew.get (j := 0) rfl
 have r3 := HSV.out.bg.drew.get (j := 8) rfl
 dsimp only at r1 r3
 have HGW : Hid (gw < W.heap.size ∧ gc < W.heap.size ∧ xg < W.heap.size ∧ ∀ b, vl.ownBlock = some b → b < W.heap.size) := Lib.hid ⟨HW.out.lt, by obtain ⟨csv, hb, _⟩ := HCS.out; exact hb.lt, hgl, fun b hb => HV.out.l.lt hb⟩
 have HNE : Hid (gw ≠ xg ∧ gw ≠ gc ∧ (∀ b, vl.ownBlock = some b → b ≠ gw ∧ b ≠ xg ∧ b ≠ gc) ∧ gc ≠ xg) := Lib.hid ⟨fun e => absurd (HW.out.ty (by rw [e]; exact HV.out.bg)) (by decide), fun e => by obtain ⟨csv, hb, _⟩ := HCS.out; exact absurd (HW.out.ty (by rw [e]; exact hb)) (by decide),
  fun b hb => ⟨fun e => HV.out.l.ne_bl HW.out (by decide) b hb e, fun e => HV.out.l.ne_bl HV.out.bg (by decide) b hb e, fun e => by obtain ⟨csv, hc, _⟩ := HCS.out; exact HV.out.l.ne_bl hc (by decide) b hb e⟩, fun e => by obtain ⟨csv, hb, _⟩ := HCS.out; exact absurd (hb.ty (by rw [e]; exact HV.out.bg)) (by decide)⟩
 clear HCS HX HW HV3 HK3 HV1 HI2 HV2 HV HX1 HZ1 HX2 HZ2 hgl
 refine Text.wp_region_text_in (fun _ => True) [(0, 1), (1, 4), (2, 4), (3, 1), (4, 1), (5, 4)] (by kernel_rfl) (by kernel_rfl) (nodef rfl) (trivial) ?_
 (refine Text.readk rfl rfl (fun K hK => ⟨_, by go_simp <;> rfl, ?_⟩); go_simp; refine hK _ ?_; clear hK K)
 iterate 2 (refine Text.purek rfl rfl (fun K hK => ⟨_, fun w' => by go_simp <;> rfl, ?_⟩); go_simp; refine hK _ ?_; clear hK K)
 iterate 2 (refine Text.readk rfl rfl (fun K hK => ⟨_, by go_simp <;> rfl, ?_⟩); go_simp; refine hK _ ?_; clear hK K)
 (refine Text.purek rfl rfl (fun K hK => ⟨_, fun w' => by go_simp <;> rfl, ?_⟩); go_simp; refine hK _ ?_; clear hK K)
 refine Text.done ⟨rfl, ?_⟩
 gi_wp2_with fail
 have r4 := HI3.out.drew.drew.get (j := 0) rfl
 have r5 := HSV.out.bg.drew.drew.get (j := 0) rfl
 have r6 := (HL.out.psb w3 HSV.out.kp).drew.drew.get (j := 0) rfl
 dsimp only at r5 r6
 refine Text.wp_region_text_in (fun _ => True) [(0, 1), (1, 1), (2, 4), (3, 4), (4, 1), (5, 4), (6, 4)] (by kernel_rfl) (by kernel_rfl) (nodef rfl) (trivial) ?_
 iterate 2 (refine Text.readk rfl rfl (fun K hK => ⟨_, by go_simp <;> rfl, ?_⟩); go_simp; refine hK _ ?_; clear hK K)
 iterate 2 (refine Text.purek rfl rfl (fun K hK => ⟨_, fun w' => by go_simp <;> rfl, ?_⟩); go_simp; refine hK _ ?_; clear hK K)
 (refine Text.readk rfl rfl (fun K hK => ⟨_, by go_simp <;> rfl, ?_⟩); go_simp; refine hK _ ?_; clear hK K)
 iterate 2 (refine Text.purek rfl rfl (fun K hK => ⟨_, fun w' => by go_simp <;> rfl, ?_⟩); go_simp; refine hK _ ?_; clear hK K)
 refine Text.done ⟨rfl, ?_⟩
 gi_wp2_with fail
 refine ⟨trivial, (fw_calls (ro := none) (n := 2) (choices_any xg (i : Int) w3.drew.drew)).mono ?_⟩
 rintro e w4 ⟨s2, i2, rfl, b1, b2, b3⟩
 have HS2 := Lib.hid b1
 have HI2 := Lib.hid b2
 have HB4 : Hid (Below w3.heap.size w3 w4) := Lib.hid (((Below.refl _ w3).drew.drew).trans b3)
 clear b1 b2 b3 r1 r2 r3 r4 r5 r6
 gi_wp2_with fail
 have hnone : ∀ b, R b → ¬ False := fun _ _ h => h
 have HST : Hid (LkS W0 W w4 T ⟨xg, some ⟨gA, oA, none⟩, cw, Ah, ch, vl, bm, Am, cm, gc, cc, vs, vf⟩ ws hs gw X cs left R ⟨st.n + 1, st.wi, st.x⟩) := Lib.hid
  ⟨HSV.out.kept HB4.out, HCS3.out.kp (S := fun _ => False) (Kp.of_below HB4.out) (fun h => h) hnone, HL.out.xk _ _ (fun _ => False) _ _ HX3.out (Kp.of_below HB4.out) hnone, HW3.out.kept HB4.out, HKT.out.then HB4.out⟩
 have HI4 : Hid (BL w4 W.heap.size 3 [.int .i64 (i : Int)]) := Lib.hid (HI3.out.kept HB4.out)
 have HG4 : Hid (BL w4 (W.heap.size + 1) 4 [.bool false]) := Lib.hid (HG3.out.kept HB4.out)
 have HZ4 : Hid (W.heap.size + 1 < w4.heap.size) := Lib.hid HG4.out.lt
 clear HSV HNG HCS3 HX3 HW3 HI3 HG3 HKT HB4 hnone
 obtain ⟨st1, hst1⟩ : ∃ s, s = (⟨st.n + 1, st.wi, st.x⟩ : PS σ) := ⟨_, rfl⟩
 have HN1 : Hid (st1.n ≤ budget) := Lib.hid (by rw [hst1]; exact hb)
 rw [← hst1] at HST
 have hcz := HL.out.zb i w left HI.out
 refine wp_range rfl rfl (gf := 83) (lb := #[.pointer (some ⟨s2, 0, none⟩), .pointer (some ⟨i2, 0, none⟩)]) rfl trivial (enters_of Tryz.func83 (by kernel_rfl) rfl)
  (need := fun _ => False) (xs := xs) (E := chE)
  (fun W1 hb1 => ?hit) (fun i h => h.elim) (fun x vs G A' he => by obtain ⟨A0, c0, rfl, _⟩ := he; rfl)
  (fun k S A => ∃ s' : PS σ, pgo f (xs.drop k) s' = pgo f xs st1 ∧ s'.n ≤ budget ∧ LkS W0 W A T ⟨xg, some ⟨gA, oA, none⟩, cw, Ah, ch, vl, bm, Am, cm, gc, cc, vs, vf⟩ ws hs gw X cs left (fun b => R b ∨ S b) s' ∧ BL A W.heap.size 3 [.int .i64 (i : Int)] ∧ BL A (W.heap.size + 1) 4 [.bool false])
  (fun cd k S A => cd = .ret ∧ ∃ s' : PS σ, pgo f xs st1 = (false, s') ∧ LkS W0 W A T ⟨xg, some ⟨gA, oA, none⟩, cw, Ah, ch, vl, bm, Am, cm, gc, cc, vs, vf⟩ ws hs gw X cs left (fun b => R b ∨ S b) s' ∧ BL A (W.heap.size + 1) 4 [.bool false]) ?hI ?hIx
  ⟨st1, rfl, HN1.out, ⟨HST.out.v, HST.out.c.mono (fun b h _ => .inl h), HL.out.xm _ _ _ _ HST.out.x (fun b h _ => .inl h), HST.out.w, HST.out.k⟩, HI4.out, HG4.out⟩ ?round ?done ?stop
 case hit =>
  rw [HXS.out]
  refine choices_itr HL.out.c (HST.out.v.kept hb1) ex i w HI.out HL.out.w8 HL.out.h12 s2 i2 (HS2.out.kept hb1) (HI2.out.kept hb1) fsz lbs HL.out.vs HL.out.es (sizesP ps ex w ((freeP hs ps left w).length : Int)).1 (sizesP ps ex w ((freeP hs ps left w).length : Int)).2 rfl hcz.1 hcz.2 (fun W' hv => HL.out.sz W' left _ i w HI.out hv)
 case hI =>
  rintro k S A A' ⟨s', h1, h2, h3, h4, h5⟩ hk
  refine ⟨s', h1, h2, h3.kp HL.out.xk hk HV0.out HGW.out (fun b h => by have := HZ4.out; omega) (fun b h => ?_), hk.bl h4 (fun h => by have := HZ4.out; omega), hk.bl h5 (fun h => by have := HZ4.out; omega)⟩
  rcases h with h | h
  ·
   have := (HR.out b h).1; have := HZ4.out; intro h9; omega
  ·
   exact fun h9 => h9.2 h
 case hIx =>
  rintro cd k S A A' ⟨rfl, s', h1, h3, h5⟩ hk
  refine ⟨rfl, s', h1, h3.kp HL.out.xk hk HV0.out HGW.out (fun b h => by have := HZ4.out; omega) (fun b h => ?_), hk.bl h5 (fun h => by have := HZ4.out; omega)⟩
  rcases h with h | h
  ·
   have := (HR.out b h).1; have := HZ4.out; intro h9; omega
  ·
   exact fun h9 => h9.2 h
 case round =>
  rintro l' m k c vs G S A hx ⟨A0, c0, rfl, he1, he2⟩ hG hS ⟨s', h1, h2, h3, h4, h5⟩ hl
  simp only [zip1, List.setIfInBounds_toArray, List.set_cons_succ, List.set_cons_zero]
  have H1 := Lib.hid h1
  have H2 := Lib.hid h2
  have H3 := Lib.hid h3
  have H4 := Lib.hid h4
  have H5 := Lib.hid h5
  have HLL := Lib.hid hl
  have HSS := Lib.hid hS
  have HGG := Lib.hid hG
  have HE1 := Lib.hid he1
  have HE2 := Lib.hid he2
  have HXK := Lib.hid hx
  have hcm : c ∈ choP hs ps ex left w := by rw [← HXS.out]; exact List.mem_of_getElem? hx
  have HCM := Lib.hid hcm
  clear h1 h2 h3 h4 h5 hl hS hG he1 he2 hx hcm
  gi_wp2_with fail
  refine ⟨Kp.refl _ _, fun w5 hk5 hz5 => ?_⟩
  have HZ5 := Lib.hid hz5
  have hR5 : ∀ b, (R b ∨ S b) → ¬ b = l' := fun b h e => by
   subst e
   rcases h with h | h
   ·
    have := (HR.out b h).1; have := HZ4.out; have := HLL.out.1; omega
   ·
    exact HLL.out.2.2.1 h
  have HS5 : Hid (LkS W0 W w5 T ⟨xg, some ⟨gA, oA, none⟩, cw, Ah, ch, vl, bm, Am, cm, gc, cc, vs, vf⟩ ws hs gw X cs left (fun b => R b ∨ S b) s') := Lib.hid (H3.out.kp HL.out.xk hk5 HV0.out HGW.out (fun b h => by have := HZ4.out; have := HLL.out.1; omega) hR5)
  have HI5 : Hid (BL w5 W.heap.size 3 [.int .i64 (i : Int)]) := Lib.hid (hk5.bl H4.out (fun h => by have := HZ4.out; have := HLL.out.1; omega))
  have HG5 : Hid (BL w5 (W.heap.size + 1) 4 [.bool false]) := Lib.hid (hk5.bl H5.out (fun h => by have := HZ4.out; have := HLL.out.1; omega))
  have HC5 : Hid (LS rInt 1 8 w5 A0 c.length c0 c) := Lib.hid (HE1.out.kpB hk5 (fun b o e h => HLL.out.2.2.2 (h ▸ HE2.out b o e)))
  have HB : Hid (W.heap.size + 1 < w4.heap.size ∧ w4.heap.size ≤ A.heap.size ∧ w5.heap.size = A.heap.size) := Lib.hid ⟨HZ4.out, by have := HLL.out.1; have := HLL.out.2.1; omega, hz5⟩
  clear hk5 hz5 hR5 HE1 H3 H4 H5
  have r1 := (HL.out.psb w5 HS5.out.v.kp).drew.get (j := 0) rfl
  have r2 := HS5.out.v.bg.drew.get (j := 0) rfl
  have r3 := HI5.out.drew.get (j := 0) rfl
  obtain ⟨gB, oB, eB, _, hat⟩ := LS.wt_at (HL.out.c.w w5 HS5.out.v.kp) (Below.refl _ _).drew HI.out
  cases eB
  have r4 := hat 1 _ rfl
  dsimp only at r1 r2
  clear hat
  gi_wp2_with fail
  refine Text.wp_region_text_in (fun _ => True) [(1, 4), (0, 1), (2, 1), (3, 4), (4, 4), (5, 1), (6, 1), (7, 4), (8, 4), (9, 1), (10, 2)] (by kernel_rfl) (by kernel_rfl) (nodef rfl) (trivial) ?_
  (refine Text.purek rfl rfl (fun K hK => ⟨_, fun w' => by go_simp <;> rfl, ?_⟩); go_simp; refine hK _ ?_; clear hK K)
  iterate 2 (refine Text.readk rfl rfl (fun K hK => ⟨_, by go_simp <;> rfl, ?_⟩); go_simp; refine hK _ ?_; clear hK K)
  iterate 2 (refine Text.purek rfl rfl (fun K hK => ⟨_, fun w' => by go_simp <;> rfl, ?_⟩); go_simp; refine hK _ ?_; clear hK K)
  iterate 2 (refine Text.readk rfl rfl (fun K hK => ⟨_, by go_simp <;> rfl, ?_⟩); go_simp; refine hK _ ?_; clear hK K)
  iterate 2 (refine Text.purek rfl rfl (fun K hK => ⟨_, fun w' => by go_simp <;> rfl, ?_⟩); go_simp; refine hK _ ?_; clear hK K)
  (refine Text.readk rfl rfl (fun K hK => ⟨_, by go_simp <;> rfl, ?_⟩); go_simp; refine hK _ ?_; clear hK K)
  refine Text.eff rfl rfl (fun K hK => ?_)
  go_simp
  refine (take_any (x := ⟨xg, some ⟨gA, oA, none⟩, cw, Ah, ch, vl, bm, Am, cm, gc, cc, vs, vf⟩) (HS5.out.v.kp' (S := fun _ => False) ((Kp.refl _ _).drew) (fun _ _ h => h.elim) (fun h => h) (fun _ _ h => h)) HL.out.c.tl A0 c.length c0 c (HC5.out.drew stay_int) (fun b o e h => by have h8 := HGW.out.2.2.2 b h; have h9 := (HGG.out b (HE2.out b o e)).1; have := HB.out; omega) w.sz (cho_idx HCM.out) (by have := HWZ.out; omega) (fun v hv => by have := HLO.out v hv; omega) (by have := cho_len HCM.out; have := HL.out.h12; omega) (fun h => (HNE.out.2.2.1 _ h).2.1 rfl)).mono ?_
  rintro e w6 ⟨⟨v6, rfl⟩, t1, t2⟩
  have hown : ∀ b, (R b ∨ S b) → ¬ vl.ownBlock = some b := fun b h e => by
   rcases h with h | h
   ·
    exact (HR.out b h).2 (.inr (.inl e))
   ·
    have := HGW.out.2.2.2 b e; have := (HSS.out b h).1; have := HB.out; omega
  have hk6 : Kp (fun b => vl.ownBlock = some b) w5 w6 := (Kp.refl _ w5).drew.trans t2
  have HK6 := Lib.hid hk6
  have HV6 := Lib.hid t1
  have HCS6 : Hid (Chs w6 gc ws.length (fun b => R b ∨ S b) cs) := Lib.hid (HS5.out.c.kp hk6 (fun e => (HNE.out.2.2.1 _ e).2.2 rfl) hown)
  have HX6 : Hid (X s'.x (fun b => R b ∨ S b) w6) := Lib.hid (HL.out.xk _ _ _ _ _ HS5.out.x hk6 hown)
  have HW6 : Hid (BL w6 gw 4 [.bool s'.wi]) := Lib.hid (hk6.bl HS5.out.w (fun e => (HNE.out.2.2.1 _ e).1 rfl))
  have HI6 : Hid (BL w6 W.heap.size 3 [.int .i64 (i : Int)]) := Lib.hid (hk6.bl HI5.out (fun e => by have := HGW.out.2.2.2 _ e; omega))
  have HG6 : Hid (BL w6 (W.heap.size + 1) 4 [.bool false]) := Lib.hid (hk6.bl HG5.out (fun e => by have := HGW.out.2.2.2 _ e; omega))
  have HC6 : Hid (LS rInt 1 8 w6 A0 c.length c0 c) := Lib.hid (HC5.out.kpB hk6 (fun b o e h => by have := HGW.out.2.2.2 b h; have := (HGG.out b (HE2.out b o e)).1; have := HB.out; omega))
  clear t1 t2 hk6 r1 r2 r3 r4
  refine hK _ _ trivial ?_
  clear hK K
  refine Text.done ⟨rfl, ?_⟩
  gi_wp2_with fail
  have r1 := (HL.out.psb w6 HV6.out.kp).drew.get (j := 0) rfl
  have r2 := HV6.out.bg.drew.get (j := 5) rfl
  have r3 := HI6.out.drew.get (j := 0) rfl
  dsimp only at r1 r2
  obtain ⟨csv, k1, k2, _⟩ := HCS6.out
  have HK1 := Lib.hid k1
  have HK2 := Lib.hid k2
  clear k1 k2
  refine Text.wp_region_text_in (fun _ => True) [(5, 4), (0, 1), (1, 4), (2, 4), (3, 1), (4, 1), (6, 4), (7, 3)] (by kernel_rfl) (by kernel_rfl) (nodef rfl) (trivial) ?_
  (refine Text.purek rfl rfl (fun K hK => ⟨_, fun w' => by go_simp <;> rfl, ?_⟩); go_simp; refine hK _ ?_; clear hK K)
  (refine Text.readk rfl rfl (fun K hK => ⟨_, by go_simp <;> rfl, ?_⟩); go_simp; refine hK _ ?_; clear hK K)
  iterate 2 (refine Text.purek rfl rfl (fun K hK => ⟨_, fun w' => by go_simp <;> rfl, ?_⟩); go_simp; refine hK _ ?_; clear hK K)
  iterate 2 (refine Text.readk rfl rfl (fun K hK => ⟨_, by go_simp <;> rfl, ?_⟩); go_simp; refine hK _ ?_; clear hK K)
  (refine Text.purek rfl rfl (fun K hK => ⟨_, fun w' => by go_simp <;> rfl, ?_⟩); go_simp; refine hK _ ?_; clear hK K)
  refine Text.last rfl rfl (fun K hK => ?_)
  refine wp_store1 39 (.tmp 55) (.tmp 54) rfl (sz1 _ (by kernel_rfl) _) gc i _ csv (.slice A0 c.length c0) rfl rfl HK1.out.drew rfl rfl (by rw [HK2.out]; exact hin) ?_
  intro w7 a1 a2 a3
  have HB7 := Lib.hid a1
  have HK7 : Hid (Kp (· = gc) w6 w7) := Lib.hid ((Kp.refl _ w6).drew.trans a2)
  have HZ7 : Hid (w7.heap.size = w6.heap.size) := Lib.hid a3
  clear a1 a2 a3 r1 r2 r3
  refine hK _ _ ?_
  clear hK K
  refine Text.done ⟨rfl, ?_⟩
  have hgc : ∀ b, (R b ∨ S b) → b ≠ gc := fun b h e => by
   rcases h with h | h
   ·
    exact (HR.out b h).2 (.inr (.inr (.inl e)))
   ·
    have := HGW.out.2.1; have := (HSS.out b h).1; have := HB.out; omega
  have hG7 : ∀ b, G b → w4.heap.size ≤ b ∧ b < w7.heap.size ∧ b ≠ gc := fun b h => by
   have := HGW.out.2.1; have := (HGG.out b h).1; have := HB.out; have := (HGG.out b h).2.1; have := HK6.out.size; have := HK7.out.size
   omega
  have HV7 : Hid (SrV W0 w7 T ⟨xg, some ⟨gA, oA, none⟩, cw, Ah, ch, vl, bm, Am, cm, gc, cc, vs, vf⟩ ws hs (takeL left c w.sz) s'.n) := Lib.hid (HV6.out.kp' HK7.out (fun b _ e => by subst e; exact HL.out.c.tc) (fun e => HNE.out.2.2.2 e.symm) (fun b hb e => (HNE.out.2.2.1 b hb).2.2 e))
  have HC7 : Hid (LS rInt 1 8 w7 A0 c.length c0 c) := Lib.hid (HC6.out.kpB HK7.out (fun b o e h => (hG7 b (HE2.out b o e)).2.2 h))
  have HCS7 : Hid (Chs w7 gc ws.length (fun b => (R b ∨ S b) ∨ G b) (cs ++ [c])) := Lib.hid (HCS6.out.push HK1.out HK7.out (by rw [HCL.out]; exact HB7.out) (by rw [HCL.out]; exact hin) hgc HC7.out (fun b o e => ⟨.inr (HE2.out b o e), (hG7 b (HE2.out b o e)).2.1⟩) (fun b h => .inl h))
  have HX7 : Hid (X s'.x (fun b => (R b ∨ S b) ∨ G b) w7) := Lib.hid (HL.out.xm _ _ _ _ (HL.out.xk _ _ _ _ _ HX6.out HK7.out hgc) (fun b h _ => .inl h))
  have HW7 : Hid (BL w7 gw 4 [.bool s'.wi]) := Lib.hid (HK7.out.bl HW6.out (fun e => HNE.out.2.1 e))
  have HI7 : Hid (BL w7 W.heap.size 3 [.int .i64 (i : Int)]) := Lib.hid (HK7.out.bl HI6.out (fun e => by have := HGW.out.2.1; omega))
  have HG7 : Hid (BL w7 (W.heap.size + 1) 4 [.bool false]) := Lib.hid (HK7.out.bl HG6.out (fun e => by have := HGW.out.2.1; omega))
  have hcall := HIH.out (cs ++ [c]) (takeL left c w.sz) s' (fun b => (R b ∨ S b) ∨ G b) w7 (by simp [HCL.out]) (HLO.out.take HCM.out (by have := HS5.out.v.l.1; simpa [iL] using this) HWZ.out.1) H2.out HV7.out HCS7.out HX7.out HW7.out (fun b h => by
   have hz6 := HK6.out.size
   have hz7 := HZ7.out
   have hB := HB.out
   have hgw := HGW.out
   rcases h with (h | h) | h
   ·
    exact ⟨by have := (HR.out b h).1; omega, (HR.out b h).2⟩
   ·
    have h1 := HSS.out b h
    refine ⟨by omega, ?_⟩
    rintro (h8 | h8 | h8 | h8)
    ·
     have h9 : b = xg := h8; have := hgw.2.2.1; omega
    ·
     have := hgw.2.2.2 b h8; omega
    ·
     have h9 : b = gc := h8; have := hgw.2.1; omega
    ·
     have := hgw.1; omega
   ·
    have h1 := HGG.out b h
    refine ⟨by omega, ?_⟩
    rintro (h8 | h8 | h8 | h8)
    ·
     have h9 : b = xg := h8; have := hgw.2.2.1; omega
    ·
     have := hgw.2.2.2 b h8; omega
    ·
     have h9 : b = gc := h8; have := hgw.2.1; omega
    ·
     have := hgw.1; omega)
  rw [← HF.out c s'] at hcall
  have HCALL := Lib.hid hcall
  have r1 := (HL.out.plb w7 HV7.out.kp).get (j := 0) rfl
  have r2 := HI7.out.get (j := 0) rfl
  have f9 : IntKind.i64.wrap ((i : Int) + 1) = (i : Int) + 1 := IntWalk.i64_in _ (by have := HL.out.w8; omega)
  clear hcall HCS7 HX7 HW7
  gi_wp2_with fail
  refine ⟨trivial, fun h => (by cases h), (fw_calls (ro := some l') (n := m - 1) HCALL.out).mono ?_⟩
  obtain ⟨pp, hpp⟩ : ∃ p, p = f c s' := ⟨_, rfl⟩
  rw [← hpp]
  have HPP := Lib.hid hpp
  rintro e w8 ⟨rfl, q1, q2, q3, q4, q5, q6⟩
  have HT0 : Hid (∀ b, T b → b < W.heap.size) := Lib.hid (fun b h => by have := HL.out.c.lt b h; have := HV0.out; omega)
  have HV8 := Lib.hid q1
  have HCS8 : Hid (Chs w8 gc ws.length (fun b => ((R b ∨ S b) ∨ G b) ∨ w7.heap.size ≤ b) cs) := Lib.hid q2.pre
  have HX8 := Lib.hid q3
  have HW8 := Lib.hid q4
  have HK8 := Lib.hid q5
  have HB8 := Lib.hid q6
  have HI8 : Hid (BL w8 W.heap.size 3 [.int .i64 (i : Int)]) := Lib.hid (q5.bl HI7.out (fun e => by have := HT0.out _ e; omega))
  have HG8 : Hid (BL w8 (W.heap.size + 1) 4 [.bool false]) := Lib.hid (q5.bl HG7.out (fun e => by have := HT0.out _ e; omega))
  have HC8 : Hid (LS rInt 1 8 w8 A0 c.length c0 c) := Lib.hid (HC7.out.kpB q5 (fun b o e h => by have := HT0.out _ h; have := (hG7 b (HE2.out b o e)).1; have := HB.out; omega))
  have HGX := Lib.hid hG7
  clear q1 q2 q3 q4 q5 q6 r1 r2 hpp hG7 HCALL hgc hown
  gi_wp2_with fail
  have r1 := (HL.out.psb w8 HV8.out.kp).drew.get (j := 0) rfl
  have r2 := HV8.out.bg.drew.get (j := 0) rfl
  have r3 := HI8.out.drew.get (j := 0) rfl
  obtain ⟨gB, oB, eB, _, hat⟩ := LS.wt_at (HL.out.c.w w8 HV8.out.kp) (Below.refl _ _).drew HI.out
  cases eB
  have r4 := hat 1 _ rfl
  dsimp only at r1 r2
  have f10 : IntKind.i64.wrap (-w.sz) = -w.sz := IntWalk.i64_in _ (by have := HWZ.out; omega)
  clear hat
  refine Text.wp_region_text_in (fun _ => True) [(1, 4), (0, 1), (2, 1), (3, 4), (4, 4), (5, 1), (6, 1), (7, 4), (8, 4), (9, 1), (10, 4), (11, 2)] (by kernel_rfl) (by kernel_rfl) (nodef rfl) (trivial) ?_
  (refine Text.purek rfl rfl (fun K hK => ⟨_, fun w' => by go_simp <;> rfl, ?_⟩); go_simp; refine hK _ ?_; clear hK K)
  iterate 2 (refine Text.readk rfl rfl (fun K hK => ⟨_, by go_simp <;> rfl, ?_⟩); go_simp; refine hK _ ?_; clear hK K)
  iterate 2 (refine Text.purek rfl rfl (fun K hK => ⟨_, fun w' => by go_simp <;> rfl, ?_⟩); go_simp; refine hK _ ?_; clear hK K)
  iterate 2 (refine Text.readk rfl rfl (fun K hK => ⟨_, by go_simp <;> rfl, ?_⟩); go_simp; refine hK _ ?_; clear hK K)
  iterate 2 (refine Text.purek rfl rfl (fun K hK => ⟨_, fun w' => by go_simp <;> rfl, ?_⟩); go_simp; refine hK _ ?_; clear hK K)
  (refine Text.readk rfl rfl (fun K hK => ⟨_, by go_simp <;> rfl, ?_⟩); go_simp; refine hK _ ?_; clear hK K)
  (refine Text.purek rfl rfl (fun K hK => ⟨_, fun w' => by go_simp <;> rfl, ?_⟩); go_simp; refine hK _ ?_; clear hK K)
  refine Text.eff rfl rfl (fun K hK => ?_)
  go_simp
  refine (take_any (x := ⟨xg, some ⟨gA, oA, none⟩, cw, Ah, ch, vl, bm, Am, cm, gc, cc, vs, vf⟩) (HV8.out.kp' (S := fun _ => False) ((Kp.refl _ _).drew) (fun _ _ h => h.elim) (fun h => h) (fun _ _ h => h)) HL.out.c.tl A0 c.length c0 c (HC8.out.drew stay_int) (fun b o e h => by have h8 := HGW.out.2.2.2 b h; have h9 := (HGG.out b (HE2.out b o e)).1; have := HB.out; omega) (-w.sz) (cho_idx HCM.out) (by have := HWZ.out; omega) (fun v hv => by
   have h9 : LOk (takeL left c w.sz) := HLO.out.take HCM.out (by have := HS5.out.v.l.1; simpa [iL] using this) HWZ.out.1
   have := h9 v hv; omega) (by have := cho_len HCM.out; have := HL.out.h12; omega) (fun h => (HNE.out.2.2.1 _ h).2.1 rfl)).mono ?_
  rintro e w9 ⟨⟨v9, rfl⟩, t1, t2⟩
  rw [take_back w.sz (fun j hj => (cho_idx HCM.out j hj).1)] at t1
  have hown : ∀ b, (((R b ∨ S b) ∨ G b) ∨ w7.heap.size ≤ b) → ¬ vl.ownBlock = some b := fun b h e => by
   have h8 := HGW.out.2.2.2 b e
   have hB := HB.out
   have := HK6.out.size
   have := HZ7.out
   rcases h with ((h | h) | h) | h
   ·
    exact (HR.out b h).2 (.inr (.inl e))
   ·
    have := (HSS.out b h).1; omega
   ·
    have := (HGG.out b h).1; omega
   ·
    omega
  have hk9 : Kp (fun b => vl.ownBlock = some b) w8 w9 := (Kp.refl _ w8).drew.trans t2
  have hkw : Kp (fun b => b < W.heap.size) w5 w9 := (((HK6.out.mono (fun b _ e => HGW.out.2.2.2 b e)).trans (HK7.out.mono (fun b _ e => by have h9 : b = gc := e; have := HGW.out.2.1; show b < W.heap.size; omega))).trans (HK8.out.mono (fun b _ e => HT0.out b e))).trans (hk9.mono (fun b _ e => HGW.out.2.2.2 b e))
  have hkT : Kp T W w9 := (((HS5.out.k.trans (HK6.out.mono (fun b _ e => HL.out.c.tl b e))).trans (HK7.out.mono (fun b _ e => by have h9 : b = gc := e; subst h9; exact HL.out.c.tc))).trans HK8.out).trans (hk9.mono (fun b _ e => HL.out.c.tl b e))
  have HS9 : Hid (LkS W0 W w9 T ⟨xg, some ⟨gA, oA, none⟩, cw, Ah, ch, vl, bm, Am, cm, gc, cc, vs, vf⟩ ws hs gw X cs left (fun b => R b ∨ (w4.heap.size ≤ b ∧ b < w9.heap.size ∧ (S b ∨ G b ∨ w7.heap.size ≤ b))) pp.2) := Lib.hid (by
   have hmv : ∀ b, (((R b ∨ S b) ∨ G b) ∨ w7.heap.size ≤ b) → b < w9.heap.size → (R b ∨ (w4.heap.size ≤ b ∧ b < w9.heap.size ∧ (S b ∨ G b ∨ w7.heap.size ≤ b))) := fun b h hl => by
    have hB := HB.out
    have := HK6.out.size
    have := HZ7.out
    rcases h with ((h | h) | h) | h
    ·
     exact .inl h
    ·
     exact .inr ⟨(HSS.out b h).1, hl, .inl h⟩
    ·
     exact .inr ⟨(HGG.out b h).1, hl, .inr (.inl h)⟩
    ·
     exact .inr ⟨by omega, hl, .inr (.inr h)⟩
   exact ⟨t1, (HCS8.out.kp hk9 (fun e => (HNE.out.2.2.1 _ e).2.2 rfl) hown).mono hmv, HL.out.xm _ _ _ _ (HL.out.xk _ _ _ _ _ HX8.out hk9 hown) hmv, hk9.bl HW8.out (fun e => (HNE.out.2.2.1 _ e).1 rfl), hkT⟩)
  have HI9 : Hid (BL w9 W.heap.size 3 [.int .i64 (i : Int)]) := Lib.hid (hk9.bl HI8.out (fun e => by have := HGW.out.2.2.2 _ e; omega))
  have HG9 : Hid (BL w9 (W.heap.size + 1) 4 [.bool false]) := Lib.hid (hk9.bl HG8.out (fun e => by have := HGW.out.2.2.2 _ e; omega))
  have HRT : Hid (RoundTo w4.heap.size (fun _ => False) S G A.heap.size w5 (fun b => w4.heap.size ≤ b ∧ b < w9.heap.size ∧ (S b ∨ G b ∨ w7.heap.size ≤ b)) w9) := Lib.hid ⟨hkw.mono (fun b _ h => .inr ⟨by have h9 : b < W.heap.size := h; have := HB.out; omega, fun h => h⟩), fun b h => ⟨h.2.1, h.2.2.imp id (fun h => h.imp id (fun h => by have hB := HB.out; have := HK6.out.size; have := HZ7.out; omega))⟩⟩
  have HKW := Lib.hid hkw
  have HZ9 : Hid (A.heap.size ≤ w9.heap.size) := Lib.hid (by have := hkw.size; have := HB.out; omega)
  clear t1 t2 hk9 hkw hkT hown r1 r2 r3 r4
  refine hK _ _ trivial ?_
  clear hK K
  refine Text.done ⟨rfl, ?_⟩
  obtain ⟨b9, s9⟩ := pp
  cases b9 with
  | true =>
   gi_wp2_with fail
   have hg := pgo_drop HXK.out H1.out
   rw [← HPP.out] at hg
   rw [if_pos rfl] at hg
   exact ⟨_, ⟨s9, by first | exact hg | (rw [← hst1]; exact hg), (by first | exact HB8.out rfl | exact HB8.out trivial), HS9.out, HI9.out, HG9.out⟩, HRT.out⟩
  | false =>
   gi_wp2_with (first
    | ((with_reducible show wpListIn _ _ _ _ _ (⟨none, _, _, _, _, _⟩ :: _) _ _); refine fw_list (by intro c h; cases h) ?_; refine wpList_store1 _ rfl 4 (.tmp 6) (.const (.bool false)) rfl (sz1 _ (by kernel_rfl) _) (W.heap.size + 1) 0 _ _ (.bool false) rfl rfl HG9.out rfl rfl (by simp) ?_; intro w10 a1 a2 a3; have HG10 : Hid (BL w10 (W.heap.size + 1) 4 [.bool false]) := Lib.hid a1; have HK10 := Lib.hid a2; have HZ10 := Lib.hid a3; clear a1 a2 a3; refine fw_back ?_))
   have hg := pgo_drop HXK.out H1.out
   rw [← HPP.out] at hg
   refine ⟨fun b => w4.heap.size ≤ b ∧ b < w9.heap.size ∧ (S b ∨ G b ∨ w7.heap.size ≤ b), ⟨rfl, s9, by first | exact hg.symm | (rw [← hst1]; exact hg.symm), HS9.out.kp HL.out.xk HK10.out HV0.out HGW.out (fun b h => by omega) (fun b h e => ?_), HG10.out⟩, HRT.out.1.trans (HK10.out.mono (fun b _ e => .inr ⟨by have := HB.out; omega, fun h => h⟩)), fun b h => ⟨by rw [HZ10.out]; exact (HRT.out.2 b h).1, (HRT.out.2 b h).2⟩⟩
   have hB := HB.out
   rcases h with h | h
   ·
    have := (HR.out b h).1; omega
   ·
    omega
 case done =>
  rintro D S A hD hS ⟨s', h1, h2, h3, h4, h5⟩ hK
  have H1 := Lib.hid h1
  have H2 := Lib.hid h2
  have H3 := Lib.hid h3
  have H5 := Lib.hid h5
  have HD := Lib.hid hD
  have HSS := Lib.hid hS
  have HK := Lib.hid hK
  clear h1 h2 h3 h4 h5 hD hS hK
  gi_wp2_with (first
   | ((with_reducible show wpListIn _ _ _ _ _ (⟨none, _, _, _, _, _⟩ :: _) _ _); refine fw_list (by intro c h; cases h) ?_; refine wpList_store1 _ rfl 4 (.tmp 6) (.const (.bool true)) rfl (sz1 _ (by kernel_rfl) _) (W.heap.size + 1) 0 _ _ (.bool true) rfl rfl H5.out rfl rfl (by simp) ?_; intro w5 a1 a2 a3; have HG5 : Hid (BL w5 (W.heap.size + 1) 4 [.bool true]) := Lib.hid a1; have HK5 := Lib.hid a2; clear a1 a2 a3; refine fw_back ?_))
  refine marks_leave [D] _ (by simp) (fun D' h => ?_) (fun w' hk' => ?_)
  ·
   rw [List.mem_singleton.1 h]
   exact (HK5.out.block D (heap_lt HK.out) (fun e => by have := HD.out; have := HZ4.out; omega)).trans HK.out
  ·
   refine ⟨_, results_one rfl boolAgg rfl ((hk'.bl HG5.out (fun e => by have := List.mem_singleton.1 e; have := HD.out; have := HZ4.out; omega)).get (j := 0) rfl), ?_⟩
   rw [← hst1]
   have hke : Kp (fun b => b = W.heap.size + 1 ∨ b = D) A w' := (HK5.out.mono (fun _ _ h => .inl h)).trans (hk'.mono (fun _ _ h => .inr (List.mem_singleton.1 h)))
   refine (H3.out.kp HL.out.xk hke HV0.out HGW.out (fun b h => ?_) (fun b h => ?_)).fin HL.out.xm (fun b h => ?_) ?_ (fun _ => H2.out)
   ·
    have := HD.out; have := HZ4.out; omega
   ·
    have := HD.out; have := HZ4.out
    rcases h with h | h
    ·
     have := (HR.out b h).1; omega
    ·
     have := HSS.out b h; omega
   ·
    exact h.imp id (fun h => by have := (HSS.out b h).1; have := HZ4.out; omega)
   ·
    rw [← H1.out, List.drop_length]; rfl
 case stop =>
  rintro D cd k S A hD hS hk ⟨rfl, s', h1, h3, h5⟩ hK
  have H1 := Lib.hid h1
  have H3 := Lib.hid h3
  have H5 := Lib.hid h5
  have HD := Lib.hid hD
  have HSS := Lib.hid hS
  have HK := Lib.hid hK
  clear h1 h3 h5 hD hS hK
  gi_wp2_with fail
  refine marks_leave [D] _ (by simp) (fun D' h => ?_) (fun w' hk' => ?_)
  ·
   rw [List.mem_singleton.1 h]
   exact HK.out
  ·
   refine ⟨_, results_one rfl boolAgg rfl ((hk'.bl H5.out (fun e => by have := List.mem_singleton.1 e; have := HD.out; have := HZ4.out; omega)).get (j := 0) rfl), ?_⟩
   rw [← hst1]
   refine (H3.out.kp HL.out.xk hk' HV0.out HGW.out (fun b h => ?_) (fun b h => ?_)).fin HL.out.xm (fun b h => ?_) H1.out (fun h => by cases h)
   ·
    have := List.mem_singleton.1 h; have := HD.out; have := HZ4.out; omega
   ·
    intro h9
    have := List.mem_singleton.1 h9
    have := HD.out; have := HZ4.out
    rcases h with h | h
    ·
     have := (HR.out b h).1; omega
    ·
     have := HSS.out b h; omega
   ·
    exact h.imp id (fun h => by have := (HSS.out b h).1; have := HZ4.out; omega)
end
end Go.Proofs.YtklfficlegfhjaaGreat
/- look; run. -/
namespace Go.Proofs.YtklfficlegfhjaaGreat
open Go Go.RowKit Go.Shelf Go.WideMaps Go.ChangeMaps Gf Sha

section
variable {σ : Type} {ch : List Int → Wt → List (List Int)} {fd : List (List Int) → σ → Bool × σ} {budget : Nat}
theorem plook_stop (r : List Wt) (cs : List (List Int)) (left : List Int) (s : PS σ) (h : budget < s.n + 1) : plook ch fd budget r cs left s = (false, ⟨s.n + 1, false, s.x⟩) := by
 unfold plook
 rw [if_pos h]
theorem plook_leaf (cs : List (List Int)) (left : List Int) (s : PS σ) (h : ¬ budget < s.n + 1) : plook ch fd budget [] cs left s = ((fd cs s.x).1, ⟨s.n + 1, s.wi, (fd cs s.x).2⟩) := by
 unfold plook
 rw [if_neg h]
theorem plook_range (w : Wt) (r : List Wt) (cs : List (List Int)) (left : List Int) (s : PS σ) (h : ¬ budget < s.n + 1) : plook ch fd budget (w :: r) cs left s = pgo (fun c s => plook ch fd budget r (cs ++ [c]) (takeL left c w.sz) s) (ch left w) ⟨s.n + 1, s.wi, s.x⟩ := by
 rw [plook, if_neg h]
end
section
variable {σ : Type} {W0 : World} {T : Nat → Prop} {x : SX} {ws : List Wt} {hs : List Hd} {ps : List Pl} {ex : Option Int} {sb bb gw lb budget : Nat} {fsz : FuncId} {lbs : Array Value} {ffd : FuncId} {lbf : Array Value} {fd : List (List Int) → σ → Bool × σ} {X : σ → (Nat → Prop) → World → Prop} {Tx : Nat → Prop}
theorem look_any (h : LkC W0 T x ws hs ps ex sb bb gw lb budget fsz lbs ffd lbf fd X Tx) : ∀ (r : List Wt) (i : Nat) (cs : List (List Int)) (left : List Int) (st : PS σ) (R : Nat → Prop) (W : World), ws.drop i = r → i ≤ ws.length → cs.length = i → LOk left → st.n ≤ budget → SrV W0 W T x ws hs left st.n → Chs W x.gc ws.length R cs → X st.x R W → BL W gw 4 [.bool st.wi] → (∀ b, R b → b < W.heap.size ∧ ¬ T1 x gw b) →
  Calls Tryz.prog 71 #[.int .i64 (i : Int), .pointer (some ⟨sb, 0, none⟩), .pointer (some ⟨bb, 0, none⟩), .pointer (some ⟨gw, 0, none⟩), .pointer (some ⟨lb, 0, none⟩)] W fun e W' =>
   LkP W0 T x ws hs gw budget X cs left R W (plook (choP hs ps ex) fd budget r cs left st) e W' := by
 intro r
 induction r with
 | nil =>
  intro i cs left st R W hd hi hc hl hn hV hC hX hw hR
  by_cases hb : budget < st.n + 1
  ·
   rw [plook_stop _ _ _ _ hb]; exact look_stop h i cs left st R W hn hV hC hX hw hR hb
  ·
   have hil : i = ws.length := by have := List.drop_eq_nil_iff.1 hd; omega
   subst hil
   rw [plook_leaf _ _ _ hb]; exact look_leaf h cs left st R W hc hV hC hX hw hR (by omega)
 | cons w r ih =>
  intro i cs left st R W hd hi hc hl hn hV hC hX hw hR
  by_cases hb : budget < st.n + 1
  ·
   rw [plook_stop _ _ _ _ hb]; exact look_stop h i cs left st R W hn hV hC hX hw hR hb
  ·
   have hil : ws[i]? = some w := by
    have : (ws.drop i)[0]? = some w := by rw [hd]; rfl
    rw [List.getElem?_drop] at this
    simpa using this
   have hdr : ws.drop (i + 1) = r := by
    have : (ws.drop i).tail = r := by rw [hd]; rfl
    rwa [List.tail_drop] at this
   rw [plook_range _ _ _ _ _ hb]
   refine look_range h r i w hil cs left st R W hc hl hV hC hX hw hR (by omega) ?_
   intro cs' left' st' R' W' h1 h2 h3 h4 h5 h6 h7 h8
   have h9 := ih (i + 1) cs' left' st' R' W' hdr (by have := (List.getElem?_eq_some_iff.1 hil).1; omega) h1 h2 h3 h4 h5 h6 h7 h8
   rw [show ((i + 1 : Nat) : Int) = (i : Int) + 1 by omega] at h9
   exact h9
/-- What run stands on. -/
structure RnC (W0 : World) (T : Nat → Prop) (x : SX) (ws : List Wt) (hs : List Hd) (ps : List Pl) (ex : Option Int) (fsz : FuncId) (lbs : Array Value) (ffd : FuncId) (lbf : Array Value) (fd : List (List Int) → σ → Bool × σ) (X : σ → (Nat → Prop) → World → Prop) (Tx : Nat → Prop) : Prop where
 c : SrC W0 T x ws hs ps
 w8 : ws.length ≤ 8
 h12 : hs.length ≤ 12
 wz : ∀ w ∈ ws, 0 ≤ w.sz ∧ w.sz ≤ 65536
 vs : x.vs = .func (.func fsz) #[] lbs
 es : ∀ args w, (callFunc fsz args).run Tryz.prog w = .ok (.enter fsz args) w
 vf : x.vf = .func (.func ffd) #[] lbf
 ef : ∀ args w, (callFunc ffd args).run Tryz.prog w = .ok (.enter ffd args) w
 zb : ∀ (i : Nat) (w : Wt) (left : List Int), ws[i]? = some w → (0 ≤ (sizesP ps ex w ((freeP hs ps left w).length : Int)).1 ∧ (sizesP ps ex w ((freeP hs ps left w).length : Int)).1 ≤ 100) ∧ -1 ≤ (sizesP ps ex w ((freeP hs ps left w).length : Int)).2 ∧ (sizesP ps ex w ((freeP hs ps left w).length : Int)).2 ≤ 100
 sz : ∀ (W : World) (left : List Int) (n i : Nat) (w : Wt), ws[i]? = some w → SrV W0 W T x ws hs left n → Calls Tryz.prog fsz (#[.int .i64 (i : Int), .int .i64 ((freeP hs ps left w).length : Int)] ++ lbs) W fun e w' =>
  e = .returned (.tuple #[.int .i64 (sizesP ps ex w ((freeP hs ps left w).length : Int)).1, .int .i64 (sizesP ps ex w ((freeP hs ps left w).length : Int)).2]) ∧ Below W.heap.size W w'
 xk : ∀ (s : σ) (R S : Nat → Prop) (W W' : World), X s R W → Kp S W W' → (∀ b, R b → ¬ S b) → X s R W'
 xm : ∀ (s : σ) (R R' : Nat → Prop) (W : World), X s R W → (∀ b, R b → b < W.heap.size → R' b) → X s R' W
 tx : ∀ b, Tx b → T b ∧ b ≠ x.g ∧ x.vl.ownBlock ≠ some b ∧ b ≠ x.gc
 fd : ∀ (W : World) (left : List Int) (n : Nat) (cs : List (List Int)) (s : σ) (R : Nat → Prop), cs.length = ws.length → SrV W0 W T x ws hs left n → Chs W x.gc ws.length R cs → X s R W → (∀ b, R b → b < W.heap.size) → Calls Tryz.prog ffd lbf W fun e W' =>
  e = .returned (.bool (fd cs s).1) ∧ X (fd cs s).2 (fun b => R b ∨ W.heap.size ≤ b) W' ∧ Chs W' x.gc ws.length R cs ∧ Kp Tx W W'
theorem RnC.to (h : RnC W0 T x ws hs ps ex fsz lbs ffd lbf fd X Tx) {W W1 : World} (hW : Kp T W0 W) (hB : Below W.heap.size W W1) (hgw : W.heap.size ≤ gw ∧ gw < W1.heap.size) (hsb : BL W1 sb 94 [.pointer (some ⟨x.g, 0, none⟩)] ∧ W.heap.size ≤ sb ∧ sb ≠ gw) (hbb : BL W1 bb 3 [.int .i64 (budget : Int)] ∧ W.heap.size ≤ bb ∧ bb ≠ gw)
  (hlb : BL W1 lb 103 [.func (.func 71) #[] #[.pointer (some ⟨sb, 0, none⟩), .pointer (some ⟨bb, 0, none⟩), .pointer (some ⟨gw, 0, none⟩), .pointer (some ⟨lb, 0, none⟩)]] ∧ W.heap.size ≤ lb ∧ lb ≠ gw) (hbu : budget ≤ 1000000000000) :
  LkC W1 (fun b => T b ∨ b = gw) x ws hs ps ex sb bb gw lb budget fsz lbs ffd lbf fd X Tx ∧ ∀ (W' : World) (left : List Int) (n : Nat), SrV W1 W' (fun b => T b ∨ b = gw) x ws hs left n → SrV W0 W' T x ws hs left n := by
 have hz := hW.size
 have hc1 : ∀ W', Kp (fun b => T b ∨ b = gw) W1 W' → Kp T W0 W' := fun W' hk => (hW.then hB).after hk (fun b hb h9 => h9.elim id (fun e => by omega))
 have hv1 : ∀ (W' : World) (left : List Int) (n : Nat), SrV W1 W' (fun b => T b ∨ b = gw) x ws hs left n → SrV W0 W' T x ws hs left n := fun W' left n hv => ⟨hc1 W' hv.kp, hv.bg, hv.l⟩
 have hnt : ∀ b, W.heap.size ≤ b → b ≠ gw → ¬ (T b ∨ b = gw) := fun b h1 h2 h3 => by
  rcases h3 with h3 | h3
  ·
   have := h.c.lt b h3; omega
  ·
   exact h2 h3
 refine ⟨⟨⟨fun W' hk => h.c.w W' (hc1 W' hk), fun W' hk => h.c.h W' (hc1 W' hk), fun W' hk => h.c.m W' (hc1 W' hk), fun W' hk => h.c.mi W' (hc1 W' hk), .inl h.c.tg, .inl h.c.tc, fun b hb => .inl (h.c.tl b hb), fun b hb => ?_⟩, h.w8, h.h12, h.wz, hbu, fun W' hk => hk.bl hsb.1 (hnt _ hsb.2.1 hsb.2.2), fun W' hk => hk.bl hbb.1 (hnt _ hbb.2.1 hbb.2.2), fun W' hk => hk.bl hlb.1 (hnt _ hlb.2.1 hlb.2.2), .inr rfl, h.vs, h.es, h.vf, h.ef, h.zb,
  fun W' left n i w hi hv => h.sz W' left n i w hi (hv1 W' left n hv), h.xk, h.xm, fun b hb => ⟨.inl (h.tx b hb).1, (h.tx b hb).2.1, (h.tx b hb).2.2.1, (h.tx b hb).2.2.2, fun e => by have := h.c.lt b (h.tx b hb).1; omega⟩, fun W' left n cs s R h1 hv => h.fd W' left n cs s R h1 (hv1 W' left n hv)⟩, hv1⟩
 rcases hb with hb | hb
 ·
  have := h.c.lt b hb; have := hB.size; omega
 ·
  omega
set_option maxRecDepth 100000 in
set_option maxHeartbeats 4000000 in
theorem run_any (h : RnC W0 T x ws hs ps ex fsz lbs ffd lbf fd X Tx) (left : List Int) (s0 : σ) (R : Nat → Prop) (W : World) (hlo : LOk left) (hV : SrV W0 W T x ws hs left 0) (hCs : Chs W x.gc ws.length R []) (hX : X s0 R W) (hR : ∀ b, R b → b < W.heap.size ∧ b ≠ x.g ∧ x.vl.ownBlock ≠ some b ∧ b ≠ x.gc) (hbu : budget ≤ 1000000000000) :
  Calls Tryz.prog 53 #[.pointer (some ⟨x.g, 0, none⟩), .int .i64 (budget : Int)] W fun e W' =>
   e = .returned (.bool (plook (choP hs ps ex) fd budget ws [] left ⟨0, true, s0⟩).2.wi) ∧ SrV W0 W' T x ws hs left (plook (choP hs ps ex) fd budget ws [] left ⟨0, true, s0⟩).2.n ∧ X (plook (choP hs ps ex) fd budget ws [] left ⟨0, true, s0⟩).2.x (fun b => R b ∨ W.heap.size ≤ b) W' ∧ Kp T W W' := by
 have H := Lib.hid h
 have HV := Lib.hid hV
 have HCS := Lib.hid hCs
 have HX := Lib.hid hX
 have HR := Lib.hid hR
 have HLO := Lib.hid hlo
 obtain ⟨p, hp⟩ : ∃ p, p = plook (choP hs ps ex) fd budget ws [] left ⟨0, true, s0⟩ := ⟨_, rfl⟩
 rw [← hp]
 have HP := Lib.hid hp
 clear h hV hCs hX hR hlo hp
 go_enter Tryz.func53, Tryz.ntmps53
 go_wp2_with (first
  | ((with_reducible show OpW 2); refine wpList_box1 _ rfl 94 (.tmp 0) rfl _ rfl rfl ?_; intro w1 a1 a2 a3; have HV1 := Lib.hid a1; have HX1 := Lib.hid a2; have HZ1 := Lib.hid a3; clear a1 a2 a3)
  | ((with_reducible show OpW 3); refine wpList_box1 _ rfl 3 (.tmp 1) rfl _ rfl rfl ?_; intro w2 a1 a2 a3; have HV2 := Lib.hid a1; have HX2 : Hid (Below W.heap.size W w2) := Lib.hid (HX1.out.trans (a2.mono HX1.out.size)); have HS2 := Lib.hid (HV1.out.kept a2); rw [HZ1.out] at HV2 ⊢; have HZ2 : Hid (w2.heap.size = W.heap.size + 2) := Lib.hid (by rw [a3, HZ1.out]); clear a1 a2 a3)
  | ((with_reducible show OpW 5); refine wpList_alloc1 _ rfl 4 rfl (.bool false) boolZ1 rfl ?_; intro w3 a1 a2 a3; have HV3 := Lib.hid a1; have HX3 : Hid (Below W.heap.size W w3) := Lib.hid (HX2.out.trans (a2.mono HX2.out.size)); have HS3 := Lib.hid (HS2.out.kept a2); have HB3 := Lib.hid (HV2.out.kept a2); rw [HZ2.out] at HV3 ⊢; have HZ3 : Hid (w3.heap.size = W.heap.size + 3) := Lib.hid (by rw [a3, HZ2.out]); clear a1 a2 a3)
  | ((with_reducible show OpN); refine wpList_store1 _ rfl 4 (.tmp 5) (.const (.bool true)) rfl (sz1 _ (by kernel_rfl) _) (W.heap.size + 2) 0 _ _ (.bool true) rfl rfl HV3.out rfl rfl (by simp) ?_; intro w4 a1 a2 a3; have HV4 : Hid (BL w4 (W.heap.size + 2) 4 [.bool true]) := Lib.hid a1; have HX4 : Hid (Below W.heap.size W w4) := Lib.hid (((Kp.of_below (S := fun _ => False) HX3.out).after a2 (fun b hb e => by omega)).below (Nat.le_refl _) (fun _ h => h.elim)); have HS4 := Lib.hid (a2.bl HS3.out (fun e => by omega)); have HB4 := Lib.hid (a2.bl HB3.out (fun e => by omega)); have HZ4 : Hid (w4.heap.size = W.heap.size + 3) := Lib.hid (by rw [a3, HZ3.out]); clear a1 a2 a3)
  | ((with_reducible show OpW 6); refine wpList_alloc1 _ rfl 103 rfl .nilFunc nilFn rfl ?_; intro w5 a1 a2 a3; have HV5 := Lib.hid a1; have HX5 : Hid (Below W.heap.size W w5) := Lib.hid (HX4.out.trans (a2.mono HX4.out.size)); have HS5 := Lib.hid (HS4.out.kept a2); have HB5 := Lib.hid (HB4.out.kept a2); have HW5 := Lib.hid (HV4.out.kept a2); rw [HZ4.out] at HV5 ⊢; have HZ5 : Hid (w5.heap.size = W.heap.size + 4) := Lib.hid (by rw [a3, HZ4.out]); clear a1 a2 a3)
  | ((with_reducible show OpN); refine wpList_store1 _ rfl 103 (.tmp 6) (.tmp 7) rfl (sz1 _ (by kernel_rfl) _) (W.heap.size + 3) 0 _ _ _ rfl rfl HV5.out rfl rfl (by simp) ?_; intro w6 a1 a2 a3; have HV6 := Lib.hid a1; have HX6 : Hid (Below W.heap.size W w6) := Lib.hid (((Kp.of_below (S := fun _ => False) HX5.out).after a2 (fun b hb e => by omega)).below (Nat.le_refl _) (fun _ h => h.elim)); have HS6 := Lib.hid (a2.bl HS5.out (fun e => by omega)); have HB6 := Lib.hid (a2.bl HB5.out (fun e => by omega)); have HW6 := Lib.hid (a2.bl HW5.out (fun e => by omega)); have HZ6 : Hid (w6.heap.size = W.heap.size + 4) := Lib.hid (by rw [a3, HZ5.out]); have c6 := HV6.out.get (j := 0) rfl; clear a1 a2 a3))
 obtain ⟨hL, hback⟩ := H.out.to (sb := W.heap.size) (bb := W.heap.size + 1) (gw := W.heap.size + 2) (lb := W.heap.size + 3) (budget := budget) HV.out.kp HX6.out ⟨by omega, by have := HZ6.out; omega⟩ ⟨HS6.out, by omega, by omega⟩ ⟨HB6.out, by omega, by omega⟩ ⟨HV6.out, by omega, by omega⟩ hbu
 have hno : ∀ b, R b → ¬ False := fun _ _ h => h
 have hcall := look_any hL ws 0 [] left ⟨0, true, s0⟩ R w6 rfl (Nat.zero_le _) rfl HLO.out (Nat.zero_le _) ⟨Kp.refl _ _, (HV.out.kept HX6.out).bg, (HV.out.kept HX6.out).l⟩ (HCS.out.kp (S := fun _ => False) (Kp.of_below HX6.out) (fun h => h) hno) (H.out.xk _ _ (fun _ => False) _ _ HX.out (Kp.of_below HX6.out) hno) HW6.out (fun b h => by
  have h1 := HR.out b h
  refine ⟨by have := HX6.out.size; omega, ?_⟩
  rintro (h2 | h2 | h2 | h2)
  ·
   exact h1.2.1 h2
  ·
   exact h1.2.2.1 h2
  ·
   exact h1.2.2.2 h2
  ·
   omega)
 rw [← HP.out] at hcall
 refine hcall.mono ?_
 rintro e w8 ⟨rfl, q1, q2, q3, q4, q5, q6⟩
 have c8 := q4.get (j := 0) rfl
 have Q1 := Lib.hid (hback _ _ _ q1)
 have Q3 := Lib.hid q3
 have Q5 := Lib.hid q5
 clear hcall q1 q2 q3 q4 q5 q6 hL hback
 go_wp2_with fail
 go_ret
 refine ⟨rfl, Q1.out, H.out.xm _ _ _ _ Q3.out (fun b h _ => h.imp id (fun h => by have := HZ6.out; omega)), (Kp.of_below HX6.out).after Q5.out (fun b hb h => h.elim id (fun e => by omega))⟩
end
end Go.Proofs.YtklfficlegfhjaaGreat
