/- Several texts in one: Eq. -/
import Derived.Test.YtgoefpbicohkfaaGreatDoorC23
/- epoch.view: reply, state. -/
namespace Go.Proofs.YtgoefpbicohkfaaGreatDoor
open Go Go.RowKit Go.ChangeMaps Gf Sha

section
variable {κ : Type} {P : Program} {o : Oper} {a : Act} {Q : Exit → Act → World → Prop} {K' : Act → World → Prop} {enc : κ → Value}
theorem wp_lookF (w : World) (m x : Operand) (t k e : TypeId) (hop : o.op = .lookup t m x false) (K : Go.Maps.Keyed P k) (ht : P.underlying t = some (.map k e)) (z : Value) (hz : (P.info? e).map (·.zero) = some (some z))
    (b : Nat) (f : κ → Option Value) (hm : a.eval m = .map (some b)) (hb : MF P k enc w b f) (xv : κ) (hx : a.eval x = enc xv) (hk : ∃ lx, keyOf P k (enc xv) = some lx) (v : Value) (hv : (f xv).getD z = v)
    (h : K' (a.put o.dst v) w) : o.wp P a w K' Q := by
  obtain ⟨L, h1, h2, _⟩ := hb
  obtain ⟨lx, hlx⟩ := hk
  obtain ⟨v', fl, hf, hr⟩ := h1.look K ht hz hlx false
  have e1 := (mf_found h2 hf).1
  rw [hv] at e1
  subst e1
  unfold Oper.wp execOp
  simp only [hop, hm, hx]
  simp [hr, Result.andThen]
  exact h
end
/-- A view's replies in memory. -/
def ViewM (w : World) (cs : List Value) (D : List En) : Prop := ∃ A n c bm f, cs = [.slice A n c, .map (some bm)] ∧ MF Tryz.prog 87 ansV w bm f ∧ RepF f D
theorem View.m {w : World} {cs : List Value} {D : List En} (h : View w cs D) : ViewM w cs D := let ⟨A, n, c, bm, _, f, e, _, _, h3, h4⟩ := h; ⟨A, n, c, bm, f, e, h3, h4⟩
theorem ViewM.kept {w w' : World} {cs : List Value} {D : List En} (h : ViewM w cs D) (hb : Below w.heap.size w w') : ViewM w' cs D := let ⟨A, n, c, bm, f, e, h3, h4⟩ := h; ⟨A, n, c, bm, f, e, h3.kept hb, h4⟩
theorem ViewM.bl {w w' : World} {cs : List Value} {D : List En} (h : ViewM w cs D) {g : Nat} {t : TypeId} {l : List Value} (hg : BL w g t l) (hk : Kp (· = g) w w') : ViewM w' cs D :=
  let ⟨A, n, c, bm, f, e, h3, h4⟩ := h; ⟨A, n, c, bm, f, e, h3.kp hk (fun e => h3.ne_bl hg e.symm), h4⟩
/-- What a device replied to a proposal. -/
def replyOf (D : List En) (p : Pp) (d : Int) : Int := match best D (d, rbL p) with | some x => x.kind | none => 0
theorem replyOf_get {f : Int × List UInt8 → Option Value} {D : List En} (h : RepF f D) (p : Pp) (d : Int) : ∃ cs : List Value, (f (d, rbL p)).getD (.agg enZ.toArray) = .agg cs.toArray ∧ cs.length = 6 ∧ cs[2]? = some (.int .i64 (replyOf D p d)) := by
  cases hb : best D (d, rbL p) with
  | none => exact ⟨enZ, by rw [h.no hb]; rfl, rfl, by rw [replyOf, hb]; rfl⟩
  | some x =>
    obtain ⟨A, n, c, e⟩ := h.yes hb
    exact ⟨enC x A n c, by rw [e]; rfl, rfl, by rw [replyOf, hb]; rfl⟩
theorem rbL_len (p : Pp) : (rbL p).length ≤ 22 := by
  rw [rbL, List.length_append]
  have := (uv_length p.dev.toNat).2
  have := (uv_length p.seq.toNat).2
  omega
theorem six_form {cs : List Value} (h : cs.length = 6) {z : Value} (h2 : cs[2]? = some z) : ∃ a b c d e, cs = [a, b, z, c, d, e] := by
  match cs, h with
  | [a, b, y, c, d, e], _ => exact ⟨a, b, c, d, e, by simpa using h2⟩
section
set_option maxRecDepth 100000
set_option maxHeartbeats 4000000
theorem reply_any (cv : List Value) (D : List En) (cs : List Value) (p : Pp) (d : Int) (w : World) (hv : ViewM w cv D) (h : rPp w cs p) (h1 : 0 ≤ p.dev) (h2 : 0 ≤ p.seq) (hd : wfI d) :
    Calls Tryz.prog 32 #[.agg cv.toArray, .agg cs.toArray, .int .i64 d] w fun e w' => e = .returned (.int .i64 (replyOf D p d)) ∧ Below w.heap.size w w' := by
  have H := Lib.hid h
  have HP0 := Lib.hid h1
  have HP1 := Lib.hid h2
  have HD := Lib.hid hd
  obtain ⟨A, n, c, bm, f, rfl, hmf, hrf⟩ := hv
  obtain ⟨A1, n1, c1, A2, n2, c2, rfl, _⟩ := h
  have HMF := Lib.hid hmf
  have HKA := Lib.hid (keyAns (d, rbL p) hd (by show (rbL p).length ≤ _; have := rbL_len p; omega))
  obtain ⟨ce, g1, g2, g3⟩ := replyOf_get hrf p d
  obtain ⟨r, hr⟩ : ∃ r, r = replyOf D p d := ⟨_, rfl⟩
  rw [← hr] at g3 ⊢
  obtain ⟨b0, b1, b3, b4, b5, rfl⟩ := six_form g2 g3
  have HGE := Lib.hid g1
  clear hmf hrf hd h1 h2 g1 g2 g3 hr
  go_enter Tryz.func32, Tryz.ntmps32
  go_wp2_with (first
    | ((with_reducible show wpList _ _ _ (⟨some 3, _, _, _, _, _⟩ :: _) _ _); refine wpList_box _ rfl 60 (.tmp 0) rfl [.slice A n c, .map (some bm)] rfl ?_; intro w1 y1 y2 y3; have HV1 := Lib.hid y1; have HB1 := Lib.hid y2; clear y1 y2 y3)
    | ((with_reducible show wpList _ _ _ (⟨some 4, _, _, _, _, _⟩ :: _) _ _); refine wpList_box _ rfl 34 (.tmp 1) rfl (ppC p A1 n1 c1 A2 n2 c2) rfl ?_; intro w2 y1 y2 y3; have HP2 := Lib.hid y1; have HV2 := Lib.hid (HV1.out.kept y2); have HB2 := Lib.hid (below_then HB1.out y2); clear y1 y2 y3))
  refine Text.wp_region_text (fun w' => w'.cell? ⟨w.heap.size, 1, none⟩ = some (.map (some bm)) ∧ Below w2.heap.size w2 w') [(0, 4), (2, 4), (1, 0), (3, 0), (4, 2), (5, 1), (6, 4), (7, 2), (8, 4), (9, 4)] (by kernel_rfl) (by kernel_rfl) (fun _ _ _ _ _ h => h) (⟨HV2.out.get (j := 1) rfl, (Below.refl _ _).drew⟩) ?_
  iterate 2 (refine Text.purek rfl rfl (fun K hK => ⟨_, fun w' => by go_simp <;> rfl, ?_⟩); go_simp; refine hK _ ?_; clear hK K)
  (refine Text.heldk rfl rfl (fun K hK => ⟨_, fun w' hw' => by go_simp <;> rfl, ?_⟩); go_simp; refine hK _ ?_; clear hK K)
  refine Text.heldk rfl rfl (fun K hK => ?_)
  refine ⟨_, fun w' hw' => exec_loadv 34 (.tmp 4) rfl 5 (by kernel_rfl) w1.heap.size 0 (ppC p A1 n1 c1 A2 n2 c2) rfl (BL.all (HP2.out.kept hw'.2)) rfl, ?_⟩
  go_simp
  refine hK _ ?_
  clear hK K
  refine Text.eff rfl rfl (fun K hK => ?_)
  go_simp
  refine (replyBody_any _ p w2.drew (stay_pp _ _ _ _ H.out HB2.out.drew) HP0.out HP1.out).mono ?_
  rintro e w3 ⟨A3, n3, c3, rfl, x1, x2⟩
  have hcs := conv_str x1
  have HB3 : Hid (Below w2.heap.size w2 w3) := Lib.hid (below_then (Below.refl _ _).drew x2)
  refine hK _ _ ⟨(HV2.out.kept HB3.out).get (j := 1) rfl, HB3.out⟩ ?_
  clear hK K x1 x2
  (refine Text.readk rfl rfl (fun K hK => ⟨_, by go_simp <;> rfl, ?_⟩); go_simp; refine hK _ ?_; clear hK K)
  (refine Text.purek rfl rfl (fun K hK => ⟨_, fun w' => by go_simp <;> rfl, ?_⟩); go_simp; refine hK _ ?_; clear hK K)
  refine Text.eff rfl rfl (fun K hK => ?_)
  refine wp_lookF _ (.tmp 8) (.tmp 13) 58 87 38 rfl ansKeyed mapAL (.agg enZ.toArray) enZero bm f rfl (HMF.out.kept (below_then HB2.out HB3.out)) (d, rbL p) rfl HKA.out _ HGE.out ?_
  refine hK _ _ ⟨(HV2.out.kept HB3.out).get (j := 1) rfl, HB3.out⟩ ?_
  clear hK K
  iterate 2 (refine Text.purek rfl rfl (fun K hK => ⟨_, fun w' => by go_simp <;> rfl, ?_⟩); go_simp; refine hK _ ?_; clear hK K)
  refine Text.done ?_
  go_wp2_with fail
  go_ret
  exact ⟨rfl, below_then HB2.out HB3.out⟩
/-- Is a writer's reply asked for? -/
def asks (p : Pp) (ex : List Int) (x : Int) : Bool := !(x == p.dev || ex.contains x)
/-- The state of a proposal. -/
def stateOf (D : List En) (p : Pp) (ex : List Int) : Int :=
  if p.ws.any (fun x => asks p ex x && replyOf D p x == 5) then 2 else if p.ws.any (fun x => asks p ex x && replyOf D p x != 4) then 1 else 3
theorem any_step {l : List Int} {k : Nat} {x : Int} (h : l[k]? = some x) (q : Int → Bool) : (l.take (k + 1)).any q = ((l.take k).any q || q x) := by
  rw [take_next h, List.any_append]; simp
def opV (b : Bool) : Value := .int .i64 (if b then 1 else 3)
theorem state_any (cv : List Value) (D : List En) (cs : List Value) (p : Pp) (A : Option Addr) (n c : Nat) (ex : List Int) (w : World) (hv : ViewM w cv D) (h : rPp w cs p) (h1 : 0 ≤ p.dev) (h2 : 0 ≤ p.seq) (hex : LS rInt 1 8 w A n c ex) :
    Calls Tryz.prog 28 #[.agg cv.toArray, .agg cs.toArray, .slice A n c] w fun e w' => e = .returned (.int .i64 (stateOf D p ex)) ∧ Below w.heap.size w w' := by
  have H := Lib.hid h
  have HP0 := Lib.hid h1
  have HP1 := Lib.hid h2
  have HVW := Lib.hid hv
  have HEX := Lib.hid hex
  obtain ⟨AA, nn, cc, bm, f, rfl, _⟩ := hv
  obtain ⟨A1, n1, c1, A2, n2, c2, rfl, hl1, _⟩ := h
  have hn := hl1.len_le
  have HL1 := Lib.hid hl1
  have HLN := Lib.hid hl1.1
  clear h1 h2 hex hl1
  go_enter Tryz.func28, Tryz.ntmps28
  go_wp2_with (first
    | ((with_reducible show wpList _ _ _ (⟨some 3, _, _, _, _, _⟩ :: _) _ _); refine wpList_box _ rfl 60 (.tmp 0) rfl [.slice AA nn cc, .map (some bm)] rfl ?_; intro w1 y1 y2 y3; have HV1 := Lib.hid y1; have HB1 := Lib.hid y2; clear y1 y2 y3)
    | ((with_reducible show wpList _ _ _ (⟨some 4, _, _, _, _, _⟩ :: _) _ _); refine wpList_box _ rfl 34 (.tmp 1) rfl (ppC p A1 n1 c1 A2 n2 c2) rfl ?_; intro w2 y1 y2 y3; have HP2 := Lib.hid y1; have HV2 := Lib.hid (HV1.out.kept y2); have HB2 := Lib.hid (below_then HB1.out y2); have q0 := y1.get (j := 3) rfl; clear y1 y2 y3))
  clear q0
  go_loopw [6, 12] (fun sv iv wr => ∃ k : Nat, k ≤ n1 ∧ iv = .int .i64 (k : Int) ∧ sv = opV ((p.ws.take k).any (fun x => asks p ex x && replyOf D p x != 4)) ∧ Hid ((p.ws.take k).any (fun x => asks p ex x && replyOf D p x == 5) = false) ∧ Hid (Below w2.heap.size w2 wr)) (fun _ iv _ => n1 - (intOf iv).toNat)
  case atStart => exact ⟨0, by omega, rfl, rfl, Lib.hid rfl, Lib.hid (Below.refl _ _)⟩
  case round =>
    obtain ⟨k, hk, rfl, rfl, hno, hb⟩ := hrel
    obtain ⟨wx, hwx⟩ : ∃ x, x = wr := ⟨_, rfl⟩
    rw [← hwx] at hb ⊢
    clear hwx
    have HBx := Lib.hid (below_then HB2.out hb.out)
    by_cases hlt : k < n1
    · obtain ⟨x, g, o, hx, rfl, q1⟩ := HL1.out.int_at HBx.out hlt
      have HX := Lib.hid hx
      have HWX := Lib.hid (HL1.out.int_ok hx)
      have q2 := (HP2.out.kept hb.out).get (j := 0) rfl
      clear hx
      cases f1 : (x == p.dev) with
      | true =>
        have HA : Hid (asks p ex x = false) := Lib.hid (by rw [asks, f1]; rfl)
        go_wp2_with fail
        go_roundw
        case rel => exact ⟨k + 1, by omega, by go_num, by rw [any_step HX.out, HA.out, Bool.false_and, Bool.or_false], Lib.hid (by rw [any_step HX.out, HA.out, hno.out]; rfl), hb⟩
        case measure => simp [intOf]; omega
      | false =>
        cases f2 : ex.contains x with
        | true =>
          have HA : Hid (asks p ex x = false) := Lib.hid (by rw [asks, f1, f2]; rfl)
          go_wp2_with (first
            | (go_at_call 31; refine (contains_any A n c ex x wx (HEX.out.kept stay_int HBx.out)).mono ?_; rintro e w3 ⟨rfl, hw⟩; rw [hw, f2]; clear hw w3))
          go_roundw
          case rel => exact ⟨k + 1, by omega, by go_num, by rw [any_step HX.out, HA.out, Bool.false_and, Bool.or_false], Lib.hid (by rw [any_step HX.out, HA.out, hno.out]; rfl), hb⟩
          case measure => simp [intOf]; omega
        | false =>
          have HA : Hid (asks p ex x = true) := Lib.hid (by rw [asks, f1, f2]; rfl)
          obtain ⟨r, hr⟩ : ∃ r, r = replyOf D p x := ⟨_, rfl⟩
          have HR := Lib.hid hr
          clear hr
          cases f5 : (r == 5) with
          | true =>
            have HF : Hid (stateOf D p ex = 2) := Lib.hid (by
              rw [stateOf, if_pos]
              exact List.any_eq_true.2 ⟨x, mem_of HX.out, by rw [HA.out, ← HR.out, f5]; rfl⟩)
            go_wp2_with (first
              | (go_at_call 31; refine (contains_any A n c ex x wx (HEX.out.kept stay_int HBx.out)).mono ?_; rintro e w3 ⟨rfl, hw⟩; rw [hw, f2]; clear hw w3)
              | ((with_reducible show wpList _ _ _ (⟨some 25, _, _, _, _, _⟩ :: _) _ _); refine wpList_loadv _ rfl 60 (.tmp 3) rfl 2 (by kernel_rfl) w.heap.size 0 [.slice AA nn cc, .map (some bm)] rfl (BL.all (HV2.out.kept hb.out)) rfl ?_)
              | ((with_reducible show wpList _ _ _ (⟨some 26, _, _, _, _, _⟩ :: _) _ _); refine wpList_loadv _ rfl 34 (.tmp 4) rfl 5 (by kernel_rfl) w1.heap.size 0 (ppC p (some ⟨g, o, none⟩) n1 c1 A2 n2 c2) rfl (BL.all (HP2.out.kept hb.out)) rfl ?_)
              | (go_at_call 32; refine (reply_any _ D _ p x wx (HVW.out.kept HBx.out) (stay_pp _ _ _ _ H.out HBx.out) HP0.out HP1.out HWX.out).mono ?_; rintro e w4 ⟨rfl, b4⟩; rw [← HR.out]; have HX4 := Lib.hid b4; have HB4 := Lib.hid (below_thenB HBx.out HBx.out.size b4); clear b4))
            go_ret
            exact ⟨by rw [HF.out]; rfl, HB4.out⟩
          | false =>
            have HNO : Hid ((p.ws.take (k + 1)).any (fun x => asks p ex x && replyOf D p x == 5) = false) := Lib.hid (by rw [any_step HX.out, hno.out, HA.out, ← HR.out, f5]; rfl)
            cases f4 : (r == 4) with
            | true =>
              go_wp2_with (first
                | (go_at_call 31; refine (contains_any A n c ex x wx (HEX.out.kept stay_int HBx.out)).mono ?_; rintro e w3 ⟨rfl, hw⟩; rw [hw, f2]; clear hw w3)
                | ((with_reducible show wpList _ _ _ (⟨some 25, _, _, _, _, _⟩ :: _) _ _); refine wpList_loadv _ rfl 60 (.tmp 3) rfl 2 (by kernel_rfl) w.heap.size 0 [.slice AA nn cc, .map (some bm)] rfl (BL.all (HV2.out.kept hb.out)) rfl ?_)
                | ((with_reducible show wpList _ _ _ (⟨some 26, _, _, _, _, _⟩ :: _) _ _); refine wpList_loadv _ rfl 34 (.tmp 4) rfl 5 (by kernel_rfl) w1.heap.size 0 (ppC p (some ⟨g, o, none⟩) n1 c1 A2 n2 c2) rfl (BL.all (HP2.out.kept hb.out)) rfl ?_)
                | (go_at_call 32; refine (reply_any _ D _ p x wx (HVW.out.kept HBx.out) (stay_pp _ _ _ _ H.out HBx.out) HP0.out HP1.out HWX.out).mono ?_; rintro e w4 ⟨rfl, b4⟩; rw [← HR.out]; have HX4 := Lib.hid b4; have HB4 := Lib.hid (below_thenB HBx.out HBx.out.size b4); clear b4))
              go_roundw
              case rel => exact ⟨k + 1, by omega, by go_num, by rw [any_step HX.out, HA.out, ← HR.out, show (r != 4) = false from by rw [bne, f4]; rfl, Bool.true_and, Bool.or_false], HNO, Lib.hid (below_thenB hb.out hb.out.size HX4.out)⟩
              case measure => simp [intOf]; omega
            | false =>
              go_wp2_with (first
                | (go_at_call 31; refine (contains_any A n c ex x wx (HEX.out.kept stay_int HBx.out)).mono ?_; rintro e w3 ⟨rfl, hw⟩; rw [hw, f2]; clear hw w3)
                | ((with_reducible show wpList _ _ _ (⟨some 25, _, _, _, _, _⟩ :: _) _ _); refine wpList_loadv _ rfl 60 (.tmp 3) rfl 2 (by kernel_rfl) w.heap.size 0 [.slice AA nn cc, .map (some bm)] rfl (BL.all (HV2.out.kept hb.out)) rfl ?_)
                | ((with_reducible show wpList _ _ _ (⟨some 26, _, _, _, _, _⟩ :: _) _ _); refine wpList_loadv _ rfl 34 (.tmp 4) rfl 5 (by kernel_rfl) w1.heap.size 0 (ppC p (some ⟨g, o, none⟩) n1 c1 A2 n2 c2) rfl (BL.all (HP2.out.kept hb.out)) rfl ?_)
                | (go_at_call 32; refine (reply_any _ D _ p x wx (HVW.out.kept HBx.out) (stay_pp _ _ _ _ H.out HBx.out) HP0.out HP1.out HWX.out).mono ?_; rintro e w4 ⟨rfl, b4⟩; rw [← HR.out]; have HX4 := Lib.hid b4; have HB4 := Lib.hid (below_thenB HBx.out HBx.out.size b4); clear b4))
              go_roundw
              case rel => exact ⟨k + 1, by omega, by go_num, by rw [any_step HX.out, HA.out, ← HR.out, show (r != 4) = true from by rw [bne, f4]; rfl, Bool.true_and, Bool.or_true]; rfl, HNO, Lib.hid (below_thenB hb.out hb.out.size HX4.out)⟩
              case measure => simp [intOf]; omega
    · obtain rfl : k = n1 := by omega
      have HF : Hid (opV ((p.ws.take k).any (fun x => asks p ex x && replyOf D p x != 4)) = .int .i64 (stateOf D p ex)) := Lib.hid (by
        have h9 := hno.out
        rw [take_end HLN.out] at h9 ⊢
        rw [stateOf, h9, opV]; rfl)
      go_wp2_with fail
      go_ret
      exact ⟨by rw [← HF.out]; rfl, HBx.out⟩
end
end Go.Proofs.YtgoefpbicohkfaaGreatDoor
