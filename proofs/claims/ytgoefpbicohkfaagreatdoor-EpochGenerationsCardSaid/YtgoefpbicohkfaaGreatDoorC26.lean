/- Several texts in one: Of. -/
import Derived.Test.YtgoefpbicohkfaaGreatDoorC25
/- epoch.view: of; Proposals, Pending. -/
namespace Go.Proofs.YtgoefpbicohkfaaGreatDoor
open Go Go.RowKit Go.ChangeMaps Gf Sha

theorem PvL.lt {w : World} {A : Option Addr} {n c : Nat} {vs : List PpV} (h : PvL w (.slice A n c) vs) (hn : vs.length ≤ 1000000) : LT rPpT 5 72 34 w A n c (vs.map (·.p)) := by
  obtain ⟨A9, c9, e, hc⟩ := h.row.form
  cases e
  refine ⟨⟨by simp, hc, by unfold lim; omega, fun k hk => ?_⟩, fun a ha => h.row.tyb ha⟩
  have hk' : k < vs.length := by simpa using hk
  obtain ⟨g, o, c', e, _, hat⟩ := h.row.at_ (by omega)
  cases e
  refine ⟨g, o, pvC vs[k], rfl, At.elem (f := pvC) (s := 5) pvC_len hat hk', ?_⟩
  rw [List.getElem_map]
  exact h.each _ (List.getElem_mem hk')
/-- slices.Clone of proposals. -/
theorem clone_pv (A : Option Addr) (n c : Nat) (vs : List PpV) (w : World) (h : PvL w (.slice A n c) vs) (hn : vs.length ≤ 1000000) :
    Calls Tryz.prog 60 #[.slice A n c] w fun e w' => ∃ A' n' c', e = .returned (.slice A' n' c') ∧ PvL w' (.slice A' n' c') vs ∧ (∀ b, (Value.slice A' n' c').ownBlock = some b → w.heap.size ≤ b) ∧ Below w.heap.size w w' := by
  obtain ⟨A9, c9, e, hc⟩ := h.row.form
  cases e
  rcases A with _ | a
  · have h0 : vs.length = 0 := by
      rcases h.row.2 with ⟨_, h0⟩ | ⟨g, o, c', cs, e, _⟩
      · exact h0
      · cases e
    obtain rfl : vs = [] := List.eq_nil_of_length_eq_zero h0
    refine (Tryz.slices_Clone_nil _ c w).mono ?_
    rintro e w' ⟨rfl, rfl⟩
    exact ⟨none, 0, 0, rfl, PvL.nil _, (fun b e => by cases e), Below.refl _ _⟩
  · obtain ⟨i, i1, i2, i3, i4⟩ := info_some infoPp
    rcases h.row.2 with ⟨e, _⟩ | ⟨g, o, c', cs, e, hb, g1, g2, g3, g4⟩
    · cases e
    · cases e
      refine (Tryz.slices_Clone i _ 5 72 i1 i2 i3 i4 rfl (by decide) ppSize g o vs.length c (vs.flatMap pvC) w (pvs_len vs) (Nat.le_trans g1 g2) (by omega) (fun j u hj => ?_) (fun u hu => ?_)).mono ?_
      · rw [← g4] at hj
        have hjn : j < vs.length * 5 := by
          have h9 := (List.getElem?_eq_some_iff.1 hj).1
          rw [List.length_take] at h9; omega
        rw [List.getElem?_take_of_lt hjn, List.getElem?_drop] at hj
        exact hb.get hj
      · obtain ⟨x, _, hx⟩ := List.mem_flatMap.1 hu
        exact one_pv x u hx
      · rintro e w' ⟨v', rfl, h1, _, h2⟩
        obtain ⟨r1, r2⟩ := RW.of_own h1
        obtain ⟨A9, c9, e9, _⟩ := r1.form
        subst e9
        exact ⟨A9, _, c9, rfl, ⟨r1, fun x hx => stay_ppt _ _ _ _ (h.each x hx) h2⟩, r2, h2⟩
def ofL (D : List En) (V : Int) : List Pp := kpL (fun p => p.vault != V) (ppL D)
def OfR (L : List Pp) (w : World) (e : Ending) (w' : World) : Prop := ∃ A n c, e = .returned (.slice A n c) ∧ LT rPpT 5 72 34 w' A n c L ∧ (∀ b, (Value.slice A n c).ownBlock = some b → w.heap.size ≤ b) ∧ Below w.heap.size w w'
section
set_option maxRecDepth 100000
set_option maxHeartbeats 4000000
theorem of1_any (gc : Nat) (V : Int) (cs : List Value) (p : Pp) (w : World) (hc : w.cell? ⟨gc, 0, none⟩ = some (.int .i64 V)) (h : rPpT w cs p) :
    Calls Tryz.prog 61 #[.agg cs.toArray, .pointer (some ⟨gc, 0, none⟩)] w fun e w' => e = .returned (.bool (p.vault != V)) ∧ Below w.heap.size w w' := by
  obtain ⟨⟨A1, n1, c1, A2, n2, c2, rfl, _⟩, _⟩ := h
  go_enter Tryz.func61, Tryz.ntmps61
  go_wp2_with (first
    | ((with_reducible show wpList _ _ _ (⟨some 2, _, _, _, _, _⟩ :: _) _ _); refine wpList_box _ rfl 34 (.tmp 0) rfl (ppC p A1 n1 c1 A2 n2 c2) rfl ?_; intro w1 y1 y2 y3; have HB1 := Lib.hid y2; have q0 := y1.get (j := 2) rfl; have q1 := cell_kept y2 hc; clear y1 y2 y3))
  go_ret
  exact ⟨rfl, HB1.out⟩
theorem of_any (cv : List Value) (D : List En) (V : Int) (w : World) (hv : View w cv D) (hn : (ppL D).length ≤ 1000000) :
    Calls Tryz.prog 35 #[.agg cv.toArray, .int .i64 V] w (OfR (ofL D V) w) := by
  obtain ⟨A, n, c, bm, vs, f, rfl, hpv, hvs, _⟩ := hv
  have HPV := Lib.hid hpv
  have HVS := Lib.hid hvs
  have HN : Hid (vs.length ≤ 1000000) := Lib.hid (by have h9 := congrArg List.length hvs; rw [List.length_map] at h9; omega)
  clear hpv hvs hn
  have hmf : ∀ (fn : Fn) (first cap : Array Value) (w : World), (Instr.makeFunc fn first cap).run Tryz.prog w = .ok (.func fn first cap) w := fun _ _ _ _ => rfl
  go_enter Tryz.func35, Tryz.ntmps35
  go_wp2_with (first
    | ((with_reducible show wpList _ _ _ (⟨some 2, _, _, _, _, _⟩ :: _) _ _); refine wpList_box _ rfl 60 (.tmp 0) rfl [.slice A n c, .map (some bm)] rfl ?_; intro w1 y1 y2 y3; have HV1 := Lib.hid y1; have HB1 := Lib.hid y2; clear y1 y2 y3)
    | ((with_reducible show wpList _ _ _ (⟨some 3, _, _, _, _, _⟩ :: _) _ _); refine wpList_box1 _ rfl 3 (.tmp 1) rfl _ rfl rfl ?_; intro w2 y1 y2 y3; have HI2 := Lib.hid y1; have HB2 := Lib.hid (below_then HB1.out y2); have q0 := (HV1.out.kept y2).get (j := 0) rfl; clear y1 y2 y3)
    | (go_at_call 60; refine (clone_pv A n c vs w2 (HPV.out.kept HB2.out) HN.out).mono ?_; rintro e w3 ⟨A3, n3, c3, rfl, x1, x2, x3⟩; have HL3 := Lib.hid (x1.lt HN.out); have HO3 := Lib.hid x2; have HB3 := Lib.hid (below_then HB2.out x3); have HI3 := Lib.hid (HI2.out.kept x3); clear x1 x2 x3)
    | (go_at_call 34; refine (del_of A3 n3 c3 w1.heap.size (vs.map (·.p)) (fun p => p.vault != V) w3 (fun w' => BL w' w1.heap.size 3 [.int .i64 V]) HL3.out HI3.out (fun w1 w2 h1 h2 => h1.kept h2) (fun w1 w2 g cs h1 h2 h3 => h3.bl h2 (h2.ne h1 (by decide))) (fun w1 cs x h1 h2 => of1_any _ V cs x w1 (h1.get (j := 0) rfl) h2)).mono ?_; rintro e w4 ⟨n4, c4, rfl, x1, x2⟩; have HL4 := Lib.hid x1; have HB4 := Lib.hid (low_kp HB3.out x2 (fun i hi e => by have := HO3.out i e; have := HB2.out.size; omega)); clear x1 x2))
  go_ret
  refine ⟨A3, n4, c4, rfl, ?_, fun b hb => Nat.le_trans HB2.out.size (HO3.out b (by rcases A3 with _ | ⟨g, o, s⟩ <;> exact hb)), HB4.out⟩
  have h9 := HL4.out
  rwa [HVS.out] at h9
theorem ppl_len (es : List En) : (ppL (dd es)).length ≤ es.length := by
  rw [ppL, sortP, List.length_mergeSort, pps]
  refine Nat.le_trans (List.length_filterMap_le _ _) ?_
  have h : ∀ (l D : List En), (l.foldl ddS D).length ≤ D.length + l.length := by
    intro l
    induction l with
    | nil => intro D; simp
    | cons x l ih =>
      intro D
      refine Nat.le_trans (ih _) ?_
      unfold ddS
      split <;> simp <;> omega
  have h9 := h es []
  rw [List.length_nil, Nat.zero_add] at h9
  exact h9
/-- Does a writer not have to reply? -/
def pendN (D : List En) (u : Int) (p : Pp) : Bool := p.dev == u || !p.ws.contains u || replyOf D p u != 0
def condN (D : List En) (u : Int) (p : Pp) : Bool := p.dev == u || !p.ws.contains u || replyOf D p u == 4
theorem pend1_any (ga gb : Nat) (u : Int) (D : List En) (cv : List Value) (cs : List Value) (p : Pp) (w : World) (hu : wfI u) (ha : BL w ga 3 [.int .i64 u]) (hb : BL w gb 60 cv) (hv : ViewM w cv D) (h : rPpT w cs p) (hp : 0 ≤ p.dev ∧ 0 ≤ p.seq) :
    Calls Tryz.prog 36 #[.agg cs.toArray, .pointer (some ⟨ga, 0, none⟩), .pointer (some ⟨gb, 0, none⟩)] w fun e w' => e = .returned (.bool (pendN D u p)) ∧ Below w.heap.size w w' := by
  have H := Lib.hid h.1
  have HU := Lib.hid hu
  have HP : Hid (0 ≤ p.dev ∧ 0 ≤ p.seq) := Lib.hid hp
  have HVW := Lib.hid hv
  have HBV := Lib.hid hb
  have qa := ha.get (j := 0) rfl
  obtain ⟨⟨A1, n1, c1, A2, n2, c2, rfl, hl1, _⟩, _⟩ := h
  obtain ⟨AA, nn, cc, bm, f, rfl, _⟩ := hv
  have HL1 := Lib.hid hl1
  clear hl1 hp hu ha hb
  obtain ⟨r, hr⟩ : ∃ r, r = replyOf D p u := ⟨_, rfl⟩
  have HR := Lib.hid hr
  have HDEF : Hid (pendN D u p = (p.dev == u || !p.ws.contains u || r != 0)) := Lib.hid (by rw [pendN, hr])
  clear hr
  cases f1 : (p.dev == u) with
  | true =>
    go_enter Tryz.func36, Tryz.ntmps36
    go_wp2_with (first
      | ((with_reducible show wpList _ _ _ (⟨some 3, _, _, _, _, _⟩ :: _) _ _); refine wpList_box _ rfl 34 (.tmp 0) rfl (ppC p A1 n1 c1 A2 n2 c2) rfl ?_; intro w1 y1 y2 y3; have HB1 := Lib.hid y2; have q0 := y1.get (j := 0) rfl; have qa := cell_kept y2 qa; clear y1 y2 y3))
    go_ret
    exact ⟨by rw [HDEF.out, f1]; rfl, HB1.out⟩
  | false =>
    cases f2 : p.ws.contains u with
    | false =>
      go_enter Tryz.func36, Tryz.ntmps36
      go_wp2_with (first
        | ((with_reducible show wpList _ _ _ (⟨some 3, _, _, _, _, _⟩ :: _) _ _); refine wpList_box _ rfl 34 (.tmp 0) rfl (ppC p A1 n1 c1 A2 n2 c2) rfl ?_; intro w1 y1 y2 y3; have HB1 := Lib.hid y2; have q0 := y1.get (j := 0) rfl; have q3 := y1.get (j := 3) rfl; have qa := cell_kept y2 qa; clear y1 y2 y3)
        | (go_at_call 31; refine (contains_any A1 n1 c1 p.ws u w1 (HL1.out.kept stay_int HB1.out)).mono ?_; rintro e w3 ⟨rfl, hw⟩; rw [hw, f2]; clear hw w3))
      go_ret
      exact ⟨by rw [HDEF.out, f1, f2]; rfl, HB1.out⟩
    | true =>
      go_enter Tryz.func36, Tryz.ntmps36
      go_wp2_with (first
        | ((with_reducible show wpList _ _ _ (⟨some 3, _, _, _, _, _⟩ :: _) _ _); refine wpList_box _ rfl 34 (.tmp 0) rfl (ppC p A1 n1 c1 A2 n2 c2) rfl ?_; intro w1 y1 y2 y3; have HB1 := Lib.hid y2; have HP1 := Lib.hid y1; have q0 := y1.get (j := 0) rfl; have q3 := y1.get (j := 3) rfl; have qa := cell_kept y2 qa; clear y1 y2 y3)
        | (go_at_call 31; refine (contains_any A1 n1 c1 p.ws u w1 (HL1.out.kept stay_int HB1.out)).mono ?_; rintro e w3 ⟨rfl, hw⟩; rw [hw, f2]; clear hw w3)
        | ((with_reducible show wpList _ _ _ (⟨some 17, _, _, _, _, _⟩ :: _) _ _); refine wpList_loadvg _ rfl 60 (.tmp 2) rfl 2 (by kernel_rfl) gb 0 _ rfl (BL.all (HBV.out.kept HB1.out)) rfl ?_)
        | ((with_reducible show wpList _ _ _ (⟨some 18, _, _, _, _, _⟩ :: _) _ _); refine wpList_loadvg _ rfl 34 (.tmp 3) rfl 5 (by kernel_rfl) w.heap.size 0 _ rfl (BL.all HP1.out) rfl ?_)
        | (go_at_call 32; refine (reply_any _ D _ p u w1 (HVW.out.kept HB1.out) (stay_pp _ _ _ _ H.out HB1.out) HP.out.1 HP.out.2 HU.out).mono ?_; rintro e w4 ⟨rfl, b4⟩; rw [← HR.out]; have HB4 := Lib.hid (below_then HB1.out b4); clear b4))
      go_ret
      exact ⟨by rw [HDEF.out, f1, f2]; rfl, HB4.out⟩
theorem cond1_any (ga gb : Nat) (u : Int) (D : List En) (cv : List Value) (cs : List Value) (p : Pp) (w : World) (hu : wfI u) (ha : BL w ga 3 [.int .i64 u]) (hb : BL w gb 60 cv) (hv : ViewM w cv D) (h : rPpT w cs p) (hp : 0 ≤ p.dev ∧ 0 ≤ p.seq) :
    Calls Tryz.prog 30 #[.agg cs.toArray, .pointer (some ⟨ga, 0, none⟩), .pointer (some ⟨gb, 0, none⟩)] w fun e w' => e = .returned (.bool (condN D u p)) ∧ Below w.heap.size w w' := by
  have H := Lib.hid h.1
  have HU := Lib.hid hu
  have HP : Hid (0 ≤ p.dev ∧ 0 ≤ p.seq) := Lib.hid hp
  have HVW := Lib.hid hv
  have HBV := Lib.hid hb
  have qa := ha.get (j := 0) rfl
  obtain ⟨⟨A1, n1, c1, A2, n2, c2, rfl, hl1, _⟩, _⟩ := h
  obtain ⟨AA, nn, cc, bm, f, rfl, _⟩ := hv
  have HL1 := Lib.hid hl1
  clear hl1 hp hu ha hb
  obtain ⟨r, hr⟩ : ∃ r, r = replyOf D p u := ⟨_, rfl⟩
  have HR := Lib.hid hr
  have HDEF : Hid (condN D u p = (p.dev == u || !p.ws.contains u || r == 4)) := Lib.hid (by rw [condN, hr])
  clear hr
  cases f1 : (p.dev == u) with
  | true =>
    go_enter Tryz.func30, Tryz.ntmps30
    go_wp2_with (first
      | ((with_reducible show wpList _ _ _ (⟨some 3, _, _, _, _, _⟩ :: _) _ _); refine wpList_box _ rfl 34 (.tmp 0) rfl (ppC p A1 n1 c1 A2 n2 c2) rfl ?_; intro w1 y1 y2 y3; have HB1 := Lib.hid y2; have q0 := y1.get (j := 0) rfl; have qa := cell_kept y2 qa; clear y1 y2 y3))
    go_ret
    exact ⟨by rw [HDEF.out, f1]; rfl, HB1.out⟩
  | false =>
    cases f2 : p.ws.contains u with
    | false =>
      go_enter Tryz.func30, Tryz.ntmps30
      go_wp2_with (first
        | ((with_reducible show wpList _ _ _ (⟨some 3, _, _, _, _, _⟩ :: _) _ _); refine wpList_box _ rfl 34 (.tmp 0) rfl (ppC p A1 n1 c1 A2 n2 c2) rfl ?_; intro w1 y1 y2 y3; have HB1 := Lib.hid y2; have q0 := y1.get (j := 0) rfl; have q3 := y1.get (j := 3) rfl; have qa := cell_kept y2 qa; clear y1 y2 y3)
        | (go_at_call 31; refine (contains_any A1 n1 c1 p.ws u w1 (HL1.out.kept stay_int HB1.out)).mono ?_; rintro e w3 ⟨rfl, hw⟩; rw [hw, f2]; clear hw w3))
      go_ret
      exact ⟨by rw [HDEF.out, f1, f2]; rfl, HB1.out⟩
    | true =>
      go_enter Tryz.func30, Tryz.ntmps30
      go_wp2_with (first
        | ((with_reducible show wpList _ _ _ (⟨some 3, _, _, _, _, _⟩ :: _) _ _); refine wpList_box _ rfl 34 (.tmp 0) rfl (ppC p A1 n1 c1 A2 n2 c2) rfl ?_; intro w1 y1 y2 y3; have HB1 := Lib.hid y2; have HP1 := Lib.hid y1; have q0 := y1.get (j := 0) rfl; have q3 := y1.get (j := 3) rfl; have qa := cell_kept y2 qa; clear y1 y2 y3)
        | (go_at_call 31; refine (contains_any A1 n1 c1 p.ws u w1 (HL1.out.kept stay_int HB1.out)).mono ?_; rintro e w3 ⟨rfl, hw⟩; rw [hw, f2]; clear hw w3)
        | ((with_reducible show wpList _ _ _ (⟨some 17, _, _, _, _, _⟩ :: _) _ _); refine wpList_loadvg _ rfl 60 (.tmp 2) rfl 2 (by kernel_rfl) gb 0 _ rfl (BL.all (HBV.out.kept HB1.out)) rfl ?_)
        | ((with_reducible show wpList _ _ _ (⟨some 18, _, _, _, _, _⟩ :: _) _ _); refine wpList_loadvg _ rfl 34 (.tmp 3) rfl 5 (by kernel_rfl) w.heap.size 0 _ rfl (BL.all HP1.out) rfl ?_)
        | (go_at_call 32; refine (reply_any _ D _ p u w1 (HVW.out.kept HB1.out) (stay_pp _ _ _ _ H.out HB1.out) HP.out.1 HP.out.2 HU.out).mono ?_; rintro e w4 ⟨rfl, b4⟩; rw [← HR.out]; have HB4 := Lib.hid (below_then HB1.out b4); clear b4))
      go_ret
      exact ⟨by rw [HDEF.out, f1, f2]; rfl, HB4.out⟩
theorem drop1_any (ga gb : Nat) (A : Option Addr) (n c : Nat) (ex : List Int) (D : List En) (cv : List Value) (cs : List Value) (p : Pp) (w : World) (hex : LS rInt 1 8 w A n c ex) (ha : BL w ga 60 cv) (hb : BL w gb 31 [.slice A n c]) (hv : ViewM w cv D) (h : rPpT w cs p) (hp : 0 ≤ p.dev ∧ 0 ≤ p.seq) :
    Calls Tryz.prog 33 #[.agg cs.toArray, .pointer (some ⟨ga, 0, none⟩), .pointer (some ⟨gb, 0, none⟩)] w fun e w' => e = .returned (.bool (stateOf D p ex == 3)) ∧ Below w.heap.size w w' := by
  have H := Lib.hid h.1
  have HP : Hid (0 ≤ p.dev ∧ 0 ≤ p.seq) := Lib.hid hp
  have HVW := Lib.hid hv
  have HBV := Lib.hid ha
  have HEX := Lib.hid hex
  have qb := hb.get (j := 0) rfl
  obtain ⟨⟨A1, n1, c1, A2, n2, c2, rfl, hl1, _⟩, _⟩ := h
  obtain ⟨AA, nn, cc, bm, f, rfl, _⟩ := hv
  clear hl1 hp ha hb hex
  go_enter Tryz.func33, Tryz.ntmps33
  go_wp2_with (first
    | ((with_reducible show wpList _ _ _ (⟨some 3, _, _, _, _, _⟩ :: _) _ _); refine wpList_box _ rfl 34 (.tmp 0) rfl (ppC p A1 n1 c1 A2 n2 c2) rfl ?_; intro w1 y1 y2 y3; have HB1 := Lib.hid y2; have HP1 := Lib.hid y1; have qb := cell_kept y2 qb; clear y1 y2 y3)
    | ((with_reducible show wpList _ _ _ (⟨some 5, _, _, _, _, _⟩ :: _) _ _); refine wpList_loadv _ rfl 60 (.tmp 1) rfl 2 (by kernel_rfl) ga 0 _ rfl (BL.all (HBV.out.kept HB1.out)) rfl ?_)
    | ((with_reducible show wpList _ _ _ (⟨some 6, _, _, _, _, _⟩ :: _) _ _); refine wpList_loadv _ rfl 34 (.tmp 3) rfl 5 (by kernel_rfl) w.heap.size 0 _ rfl (BL.all HP1.out) rfl ?_)
    | (go_at_call 28; refine (state_any _ D _ p A n c ex w1 (HVW.out.kept HB1.out) (stay_pp _ _ _ _ H.out HB1.out) HP.out.1 HP.out.2 (HEX.out.kept stay_int HB1.out)).mono ?_; rintro e w4 ⟨rfl, b4⟩; have HB4 := Lib.hid (below_then HB1.out b4); clear b4))
  go_ret
  exact ⟨rfl, HB4.out⟩
theorem LT.valid {w : World} {A : Option Addr} {n c : Nat} {L : List Pp} (h : LT rPpT 5 72 34 w A n c L) (hv : ∀ p ∈ L, validB p = true) : LT rPpV 5 72 34 w A n c L :=
  ⟨⟨h.1.1, h.1.2.1, h.1.2.2.1, fun k hk => let ⟨g, o, cs, e, h1, h2⟩ := h.1.2.2.2 k hk; ⟨g, o, cs, e, h1, h2, hv _ (List.getElem_mem hk)⟩⟩, h.2⟩
theorem ppL_valid {D : List En} {p : Pp} (h : p ∈ ppL D) : validB p = true := by
  rw [ppL, (sortP_perm _).mem_iff, pps] at h
  obtain ⟨x, _, e⟩ := List.mem_filterMap.1 h
  exact (decM_key e).2.2
theorem ofL_valid {D : List En} {V : Int} {p : Pp} (h : p ∈ ofL D V) : validB p = true := ppL_valid ((List.mem_filter.1 h).1)
/-- The proposals to which a writer has to reply. -/
def pendL (D : List En) (V u : Int) : List Pp := kpL (pendN D u) (ofL D V)
def OfV (L : List Pp) (w : World) (e : Ending) (w' : World) : Prop := ∃ A n c, e = .returned (.slice A n c) ∧ LT rPpV 5 72 34 w' A n c L ∧ (∀ b, (Value.slice A n c).ownBlock = some b → w.heap.size ≤ b) ∧ Below w.heap.size w w'
theorem pending_any (A : Option Addr) (n c : Nat) (es : List En) (V u : Int) (w : World) (h : LS rEn 6 72 w A n c es) (hn : n ≤ 2000) (hu : wfI u) :
    Calls Tryz.prog 13 #[.slice A n c, .int .i64 V, .int .i64 u] w (OfV (pendL (dd es) V u) w) := by
  have HL : Hid ((ppL (dd es)).length ≤ 1000000) := Lib.hid (by have := ppl_len es; have := h.1; omega)
  have H := Lib.hid h
  have HN := Lib.hid hn
  have HU := Lib.hid hu
  clear h hn hu
  have hmf : ∀ (fn : Fn) (first cap : Array Value) (w : World), (Instr.makeFunc fn first cap).run Tryz.prog w = .ok (.func fn first cap) w := fun _ _ _ _ => rfl
  go_enter Tryz.func13, Tryz.ntmps13
  go_wp2_with (first
    | ((with_reducible show wpList _ _ _ (⟨some 5, _, _, _, _, _⟩ :: _) _ _); refine wpList_box1 _ rfl 3 (.tmp 2) rfl _ rfl rfl ?_; intro w1 y1 y2 y3; have HI1 := Lib.hid y1; have HB1 := Lib.hid y2; clear y1 y2 y3)
    | (go_at_call 25; refine (newView_any A n c es w1 (H.out.kept stay_en HB1.out) HN.out).mono ?_; rintro e w2 ⟨cv, rfl, x1, x2⟩; have HV2 := Lib.hid x1; have HI2 := Lib.hid (HI1.out.kept x2); have HB2 := Lib.hid (below_then HB1.out x2); obtain ⟨AA, nn, cc, bm, vs, f, ecv, _⟩ := x1; subst ecv; clear x2)
    | ((with_reducible show wpList _ _ _ (⟨some 7, _, _, _, _, _⟩ :: _) _ _); refine wpList_alloc _ rfl 60 rfl vwZ vwZero ?_; intro w3 a1 a2 a3; have HW3 := Lib.hid a1; have HX3 := Lib.hid a2; clear a1 a2 a3)
    | ((with_reducible show wpList _ _ _ (⟨none, _, _, _, _, _⟩ :: _) _ _); refine wpList_storev _ rfl 60 (.tmp 7) (.tmp 9) rfl 2 (by kernel_rfl) w2.heap.size 0 _ vwZ [.slice AA nn cc, .map (some bm)] rfl rfl HW3.out rfl (one_val _ rfl) (by decide) ?_; intro w4 a1 a2 a3; have b4 := low_kp HX3.out a2 (fun i hi e => by omega); have HW4 : Hid (BL w4 w2.heap.size 60 [.slice AA nn cc, .map (some bm)]) := Lib.hid a1; have HI4 := Lib.hid (HI2.out.kept b4); have HV4 := Lib.hid (HV2.out.kept b4); have HB4 := Lib.hid (below_then HB2.out b4); clear a1 a2 a3 b4)
    | ((with_reducible show wpList _ _ _ (⟨some 10, _, _, _, _, _⟩ :: _) _ _); refine wpList_loadv _ rfl 60 (.tmp 7) rfl 2 (by kernel_rfl) w2.heap.size 0 _ rfl (BL.all HW4.out) rfl ?_)
    | (go_at_call 35; refine (of_any _ (dd es) V w4 HV4.out HL.out).mono ?_; rintro e w5 ⟨A5, n5, c5, rfl, x1, x2, x3⟩; have HL5 := Lib.hid (x1.valid (fun p hp => ofL_valid hp)); have HO5 := Lib.hid x2; have HI5 := Lib.hid (HI4.out.kept x3); have HV5 := Lib.hid (HV4.out.kept x3); have HW5 := Lib.hid (HW4.out.kept x3); have HB5 := Lib.hid (below_then HB4.out x3); clear x1 x2 x3)
    | (go_at_call 34; refine (del_pend A5 n5 c5 w.heap.size w2.heap.size (ofL (dd es) V) (pendN (dd es) u) w5 (fun w' => BL w' w.heap.size 3 [.int .i64 u] ∧ BL w' w2.heap.size 60 [.slice AA nn cc, .map (some bm)] ∧ ViewM w' [.slice AA nn cc, .map (some bm)] (dd es)) HL5.out ⟨HI5.out, HW5.out, HV5.out.m⟩ (fun w1 w2 h1 h2 => ⟨h1.1.kept h2, h1.2.1.kept h2, h1.2.2.kept h2⟩) (fun w1 w2 g cs h1 h2 h3 => ⟨h3.bl h2.1 (h2.1.ne h1 (by decide)), h3.bl h2.2.1 (h2.2.1.ne h1 (by decide)), h2.2.2.bl h1 h3⟩) (fun w1 cs x h1 h2 => pend1_any _ _ u (dd es) _ cs x w1 HU.out h1.1 h1.2.1 h1.2.2 h2.1 ⟨(valid_dev h2.2).1, by have := (valid_dev h2.2).2.2; omega⟩)).mono ?_; rintro e w6 ⟨n6, c6, rfl, x1, x2⟩; have HL6 := Lib.hid x1; have HB6 := Lib.hid (low_kp HB5.out x2 (fun i hi e => by have := HO5.out i e; have := HB4.out.size; omega)); clear x1 x2))
  go_ret
  exact ⟨A5, n6, c6, rfl, HL6.out, fun b hb => Nat.le_trans HB4.out.size (HO5.out b (by rcases A5 with _ | ⟨g, o, s⟩ <;> exact hb)), HB6.out⟩
end
end Go.Proofs.YtgoefpbicohkfaaGreatDoor
