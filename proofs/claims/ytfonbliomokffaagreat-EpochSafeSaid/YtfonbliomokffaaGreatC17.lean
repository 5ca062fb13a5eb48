/- Several texts in one: Of, St. -/
import Derived.Test.YtfonbliomokffaaGreatC16
/- epoch.view: of; Proposals, Pending. -/
namespace Go.Proofs.YtfonbliomokffaaGreat
open Go Go.RowKit Go.ChangeMaps Gf Sha

theorem PvL.lt {w : World} {A : Option Addr} {n c : Nat} {vs : List PpV} (h : PvL w (.slice A n c) vs) (hn : vs.length ≤ 1000000) : LT rPpT 5 72 42 w A n c (vs.map (·.p)) := by
  obtain ⟨A9, c9, e, hc⟩ := h.row.form
  cases e
  refine ⟨⟨by simp, hc, by unfold lim; omega, fun k hk => ?_⟩, fun a ha => h.row.tyb ha⟩
  have hk' : k < vs.length := by simpa using hk
  obtain ⟨g, o, c', e, _, hat⟩ := h.row.at_ (by omega)
  cases e
  refine ⟨g, o, pvC vs[k], rfl, At.elem (f := pvC) (s := 5) pvC_len hat hk', ?_⟩
  rw [List.getElem_map]
  exact h.each _ (List.getElem_mem hk')
/-- slices.Clone of proposals. -/
theorem clone_pv (A : Option Addr) (n c : Nat) (vs : List PpV) (w : World) (h : PvL w (.slice A n c) vs) (hn : vs.length ≤ 1000000) :
    Calls Tryz.prog 85 #[.slice A n c] w fun e w' => ∃ A' n' c', e = .returned (.slice A' n' c') ∧ PvL w' (.slice A' n' c') vs ∧ (∀ b, (Value.slice A' n' c').ownBlock = some b → w.heap.size ≤ b) ∧ Below w.heap.size w w' := by
  obtain ⟨A9, c9, e, hc⟩ := h.row.form
  cases e
  rcases A with _ | a
  · have h0 : vs.length = 0 := by
      rcases h.row.2 with ⟨_, h0⟩ | ⟨g, o, c', cs, e, _⟩
      · exact h0
      · cases e
    obtain rfl : vs = [] := List.eq_nil_of_length_eq_zero h0
    refine (Tryz.slices_Clone_nil _ c w).mono ?_
    rintro e w' ⟨rfl, rfl⟩
    exact ⟨none, 0, 0, rfl, PvL.nil _, (fun b e => by cases e), Below.refl _ _⟩
  · obtain ⟨i, i1, i2, i3, i4⟩ := info_some infoPp
    rcases h.row.2 with ⟨e, _⟩ | ⟨g, o, c', cs, e, hb, g1, g2, g3, g4⟩
    · cases e
    · cases e
      refine (Tryz.slices_Clone i _ 5 72 i1 i2 i3 i4 rfl (by decide) ppSize g o vs.length c (vs.flatMap pvC) w (pvs_len vs) (Nat.le_trans g1 g2) (by omega) (fun j u hj => ?_) (fun u hu => ?_)).mono ?_
      · rw [← g4] at hj
        have hjn : j < vs.length * 5 := by
          have h9 := (List.getElem?_eq_some_iff.1 hj).1
          rw [List.length_take] at h9; omega
        rw [List.getElem?_take_of_lt hjn, List.getElem?_drop] at hj
        exact hb.get hj
      · obtain ⟨x, _, hx⟩ := List.mem_flatMap.1 hu
        exact one_pv x u hx
      · rintro e w' ⟨v', rfl, h1, _, h2⟩
        obtain ⟨r1, r2⟩ := RW.of_own h1
        obtain ⟨A9, c9, e9, _⟩ := r1.form
        subst e9
        exact ⟨A9, _, c9, rfl, ⟨r1, fun x hx => stay_ppt _ _ _ _ (h.each x hx) h2⟩, r2, h2⟩
def ofL (D : List En) (V : Int) : List Pp := kpL (fun p => p.vault != V) (ppL D)
def OfR (L : List Pp) (w : World) (e : Ending) (w' : World) : Prop := ∃ A n c, e = .returned (.slice A n c) ∧ LT rPpT 5 72 42 w' A n c L ∧ (∀ b, (Value.slice A n c).ownBlock = some b → w.heap.size ≤ b) ∧ Below w.heap.size w w'
section
set_option maxRecDepth 100000
set_option maxHeartbeats 4000000
theorem of1_any (gc : Nat) (V : Int) (cs : List Value) (p : Pp) (w : World) (hc : w.cell? ⟨gc, 0, none⟩ = some (.int .i64 V)) (h : rPpT w cs p) :
    Calls Tryz.prog 86 #[.agg cs.toArray, .pointer (some ⟨gc, 0, none⟩)] w fun e w' => e = .returned (.bool (p.vault != V)) ∧ Below w.heap.size w w' := by
  obtain ⟨⟨A1, n1, c1, A2, n2, c2, rfl, _⟩, _⟩ := h
  go_enter Tryz.func86, Tryz.ntmps86
  go_wp2_with (first
    | ((with_reducible show wpList _ _ _ (⟨some 2, _, _, _, _, _⟩ :: _) _ _); refine wpList_box _ rfl 42 (.tmp 0) rfl (ppC p A1 n1 c1 A2 n2 c2) rfl ?_; intro w1 y1 y2 y3; have HB1 := Lib.hid y2; have q0 := y1.get (j := 2) rfl; have q1 := cell_kept y2 hc; clear y1 y2 y3))
  go_ret
  exact ⟨rfl, HB1.out⟩
theorem of_any (cv : List Value) (D : List En) (V : Int) (w : World) (hv : View w cv D) (hn : (ppL D).length ≤ 1000000) :
    Calls Tryz.prog 50 #[.agg cv.toArray, .int .i64 V] w (OfR (ofL D V) w) := by
  obtain ⟨A, n, c, bm, vs, f, rfl, hpv, hvs, _⟩ := hv
  have HPV := Lib.hid hpv
  have HVS := Lib.hid hvs
  have HN : Hid (vs.length ≤ 1000000) := Lib.hid (by have h9 := congrArg List.length hvs; rw [List.length_map] at h9; omega)
  clear hpv hvs hn
  have hmf : ∀ (fn : Fn) (first cap : Array Value) (w : World), (Instr.makeFunc fn first cap).run Tryz.prog w = .ok (.func fn first cap) w := fun _ _ _ _ => rfl
  go_enter Tryz.func50, Tryz.ntmps50
  go_wp2_with (first
    | ((with_reducible show wpList _ _ _ (⟨some 2, _, _, _, _, _⟩ :: _) _ _); refine wpList_box _ rfl 84 (.tmp 0) rfl [.slice A n c, .map (some bm)] rfl ?_; intro w1 y1 y2 y3; have HV1 := Lib.hid y1; have HB1 := Lib.hid y2; clear y1 y2 y3)
    | ((with_reducible show wpList _ _ _ (⟨some 3, _, _, _, _, _⟩ :: _) _ _); refine wpList_box1 _ rfl 3 (.tmp 1) rfl _ rfl rfl ?_; intro w2 y1 y2 y3; have HI2 := Lib.hid y1; have HB2 := Lib.hid (below_then HB1.out y2); have q0 := (HV1.out.kept y2).get (j := 0) rfl; clear y1 y2 y3)
    | (go_at_call 85; refine (clone_pv A n c vs w2 (HPV.out.kept HB2.out) HN.out).mono ?_; rintro e w3 ⟨A3, n3, c3, rfl, x1, x2, x3⟩; have HL3 := Lib.hid (x1.lt HN.out); have HO3 := Lib.hid x2; have HB3 := Lib.hid (below_then HB2.out x3); have HI3 := Lib.hid (HI2.out.kept x3); clear x1 x2 x3)
    | (go_at_call 49; refine (del_of A3 n3 c3 w1.heap.size (vs.map (·.p)) (fun p => p.vault != V) w3 (fun w' => BL w' w1.heap.size 3 [.int .i64 V]) HL3.out HI3.out (fun w1 w2 h1 h2 => h1.kept h2) (fun w1 w2 g cs h1 h2 h3 => h3.bl h2 (h2.ne h1 (by decide))) (fun w1 cs x h1 h2 => of1_any _ V cs x w1 (h1.get (j := 0) rfl) h2)).mono ?_; rintro e w4 ⟨n4, c4, rfl, x1, x2⟩; have HL4 := Lib.hid x1; have HB4 := Lib.hid (low_kp HB3.out x2 (fun i hi e => by have := HO3.out i e; have := HB2.out.size; omega)); clear x1 x2))
  go_ret
  refine ⟨A3, n4, c4, rfl, ?_, fun b hb => Nat.le_trans HB2.out.size (HO3.out b (by rcases A3 with _ | ⟨g, o, s⟩ <;> exact hb)), HB4.out⟩
  have h9 := HL4.out
  rwa [HVS.out] at h9
theorem ppl_len (es : List En) : (ppL (dd es)).length ≤ es.length := by
  rw [ppL, sortP, List.length_mergeSort, pps]
  refine Nat.le_trans (List.length_filterMap_le _ _) ?_
  have h : ∀ (l D : List En), (l.foldl ddS D).length ≤ D.length + l.length := by
    intro l
    induction l with
    | nil => intro D; simp
    | cons x l ih =>
      intro D
      refine Nat.le_trans (ih _) ?_
      unfold ddS
      split <;> simp <;> omega
  have h9 := h es []
  rw [List.length_nil, Nat.zero_add] at h9
  exact h9
theorem proposals_any (A : Option Addr) (n c : Nat) (es : List En) (V : Int) (w : World) (h : LS rEn 6 72 w A n c es) (hn : n ≤ 2000) :
    Calls Tryz.prog 23 #[.slice A n c, .int .i64 V] w (OfR (ofL (dd es) V) w) := by
  have HL : Hid ((ppL (dd es)).length ≤ 1000000) := Lib.hid (by have := ppl_len es; have := h.1; omega)
  have H := Lib.hid h
  have HN := Lib.hid hn
  clear h hn
  go_enter Tryz.func23, Tryz.ntmps23
  go_wp2_with (first
    | (go_at_call 39; refine (newView_any A n c es w H.out HN.out).mono ?_; rintro e w1 ⟨cs, rfl, x1, x2⟩; have HV1 := Lib.hid x1; have HB1 := Lib.hid x2; clear x1 x2)
    | (go_at_call 50; refine (of_any _ (dd es) V w1 HV1.out HL.out).mono ?_; rintro e w2 ⟨A2, n2, c2, rfl, x1, x2, x3⟩; have HL2 := Lib.hid x1; have HO2 := Lib.hid x2; have HB2 := Lib.hid (below_then HB1.out x3); clear x1 x2 x3))
  go_ret
  exact ⟨A2, n2, c2, rfl, HL2.out, fun b hb => Nat.le_trans HB1.out.size (HO2.out b hb), HB2.out⟩
/-- Does a writer not have to reply? -/
def pendN (D : List En) (u : Int) (p : Pp) : Bool := p.dev == u || !p.ws.contains u || replyOf D p u != 0
def condN (D : List En) (u : Int) (p : Pp) : Bool := p.dev == u || !p.ws.contains u || replyOf D p u == 4
theorem pend1_any (ga gb : Nat) (u : Int) (D : List En) (cv : List Value) (cs : List Value) (p : Pp) (w : World) (hu : wfI u) (ha : BL w ga 3 [.int .i64 u]) (hb : BL w gb 84 cv) (hv : ViewM w cv D) (h : rPpT w cs p) (hp : 0 ≤ p.dev ∧ 0 ≤ p.seq) :
    Calls Tryz.prog 51 #[.agg cs.toArray, .pointer (some ⟨ga, 0, none⟩), .pointer (some ⟨gb, 0, none⟩)] w fun e w' => e = .returned (.bool (pendN D u p)) ∧ Below w.heap.size w w' := by
  have H := Lib.hid h.1
  have HU := Lib.hid hu
  have HP : Hid (0 ≤ p.dev ∧ 0 ≤ p.seq) := Lib.hid hp
  have HVW := Lib.hid hv
  have HBV := Lib.hid hb
  have qa := ha.get (j := 0) rfl
  obtain ⟨⟨A1, n1, c1, A2, n2, c2, rfl, hl1, _⟩, _⟩ := h
  obtain ⟨AA, nn, cc, bm, f, rfl, _⟩ := hv
  have HL1 := Lib.hid hl1
  clear hl1 hp hu ha hb
  obtain ⟨r, hr⟩ : ∃ r, r = replyOf D p u := ⟨_, rfl⟩
  have HR := Lib.hid hr
  have HDEF : Hid (pendN D u p = (p.dev == u || !p.ws.contains u || r != 0)) := Lib.hid (by rw [pendN, hr])
  clear hr
  cases f1 : (p.dev == u) with
  | true =>
    go_enter Tryz.func51, Tryz.ntmps51
    go_wp2_with (first
      | ((with_reducible show wpList _ _ _ (⟨some 3, _, _, _, _, _⟩ :: _) _ _); refine wpList_box _ rfl 42 (.tmp 0) rfl (ppC p A1 n1 c1 A2 n2 c2) rfl ?_; intro w1 y1 y2 y3; have HB1 := Lib.hid y2; have q0 := y1.get (j := 0) rfl; have qa := cell_kept y2 qa; clear y1 y2 y3))
    go_ret
    exact ⟨by rw [HDEF.out, f1]; rfl, HB1.out⟩
  | false =>
    cases f2 : p.ws.contains u with
    | false =>
      go_enter Tryz.func51, Tryz.ntmps51
      go_wp2_with (first
        | ((with_reducible show wpList _ _ _ (⟨some 3, _, _, _, _, _⟩ :: _) _ _); refine wpList_box _ rfl 42 (.tmp 0) rfl (ppC p A1 n1 c1 A2 n2 c2) rfl ?_; intro w1 y1 y2 y3; have HB1 := Lib.hid y2; have q0 := y1.get (j := 0) rfl; have q3 := y1.get (j := 3) rfl; have qa := cell_kept y2 qa; clear y1 y2 y3)
        | (go_at_call 42; refine (contains_any A1 n1 c1 p.ws u w1 (HL1.out.kept stay_int HB1.out)).mono ?_; rintro e w3 ⟨rfl, hw⟩; rw [hw, f2]; clear hw w3))
      go_ret
      exact ⟨by rw [HDEF.out, f1, f2]; rfl, HB1.out⟩
    | true =>
      go_enter Tryz.func51, Tryz.ntmps51
      go_wp2_with (first
        | ((with_reducible show wpList _ _ _ (⟨some 3, _, _, _, _, _⟩ :: _) _ _); refine wpList_box _ rfl 42 (.tmp 0) rfl (ppC p A1 n1 c1 A2 n2 c2) rfl ?_; intro w1 y1 y2 y3; have HB1 := Lib.hid y2; have HP1 := Lib.hid y1; have q0 := y1.get (j := 0) rfl; have q3 := y1.get (j := 3) rfl; have qa := cell_kept y2 qa; clear y1 y2 y3)
        | (go_at_call 42; refine (contains_any A1 n1 c1 p.ws u w1 (HL1.out.kept stay_int HB1.out)).mono ?_; rintro e w3 ⟨rfl, hw⟩; rw [hw, f2]; clear hw w3)
        | ((with_reducible show wpList _ _ _ (⟨some 17, _, _, _, _, _⟩ :: _) _ _); refine wpList_loadvg _ rfl 84 (.tmp 2) rfl 2 (by kernel_rfl) gb 0 _ rfl (BL.all (HBV.out.kept HB1.out)) rfl ?_)
        | ((with_reducible show wpList _ _ _ (⟨some 18, _, _, _, _, _⟩ :: _) _ _); refine wpList_loadvg _ rfl 42 (.tmp 3) rfl 5 (by kernel_rfl) w.heap.size 0 _ rfl (BL.all HP1.out) rfl ?_)
        | (go_at_call 43; refine (reply_any _ D _ p u w1 (HVW.out.kept HB1.out) (stay_pp _ _ _ _ H.out HB1.out) HP.out.1 HP.out.2 HU.out).mono ?_; rintro e w4 ⟨rfl, b4⟩; rw [← HR.out]; have HB4 := Lib.hid (below_then HB1.out b4); clear b4))
      go_ret
      exact ⟨by rw [HDEF.out, f1, f2]; rfl, HB4.out⟩
theorem cond1_any (ga gb : Nat) (u : Int) (D : List En) (cv : List Value) (cs : List Value) (p : Pp) (w : World) (hu : wfI u) (ha : BL w ga 3 [.int .i64 u]) (hb : BL w gb 84 cv) (hv : ViewM w cv D) (h : rPpT w cs p) (hp : 0 ≤ p.dev ∧ 0 ≤ p.seq) :
    Calls Tryz.prog 41 #[.agg cs.toArray, .pointer (some ⟨ga, 0, none⟩), .pointer (some ⟨gb, 0, none⟩)] w fun e w' => e = .returned (.bool (condN D u p)) ∧ Below w.heap.size w w' := by
  have H := Lib.hid h.1
  have HU := Lib.hid hu
  have HP : Hid (0 ≤ p.dev ∧ 0 ≤ p.seq) := Lib.hid hp
  have HVW := Lib.hid hv
  have HBV := Lib.hid hb
  have qa := ha.get (j := 0) rfl
  obtain ⟨⟨A1, n1, c1, A2, n2, c2, rfl, hl1, _⟩, _⟩ := h
  obtain ⟨AA, nn, cc, bm, f, rfl, _⟩ := hv
  have HL1 := Lib.hid hl1
  clear hl1 hp hu ha hb
  obtain ⟨r, hr⟩ : ∃ r, r = replyOf D p u := ⟨_, rfl⟩
  have HR := Lib.hid hr
  have HDEF : Hid (condN D u p = (p.dev == u || !p.ws.contains u || r == 4)) := Lib.hid (by rw [condN, hr])
  clear hr
  cases f1 : (p.dev == u) with
  | true =>
    go_enter Tryz.func41, Tryz.ntmps41
    go_wp2_with (first
      | ((with_reducible show wpList _ _ _ (⟨some 3, _, _, _, _, _⟩ :: _) _ _); refine wpList_box _ rfl 42 (.tmp 0) rfl (ppC p A1 n1 c1 A2 n2 c2) rfl ?_; intro w1 y1 y2 y3; have HB1 := Lib.hid y2; have q0 := y1.get (j := 0) rfl; have qa := cell_kept y2 qa; clear y1 y2 y3))
    go_ret
    exact ⟨by rw [HDEF.out, f1]; rfl, HB1.out⟩
  | false =>
    cases f2 : p.ws.contains u with
    | false =>
      go_enter Tryz.func41, Tryz.ntmps41
      go_wp2_with (first
        | ((with_reducible show wpList _ _ _ (⟨some 3, _, _, _, _, _⟩ :: _) _ _); refine wpList_box _ rfl 42 (.tmp 0) rfl (ppC p A1 n1 c1 A2 n2 c2) rfl ?_; intro w1 y1 y2 y3; have HB1 := Lib.hid y2; have q0 := y1.get (j := 0) rfl; have q3 := y1.get (j := 3) rfl; have qa := cell_kept y2 qa; clear y1 y2 y3)
        | (go_at_call 42; refine (contains_any A1 n1 c1 p.ws u w1 (HL1.out.kept stay_int HB1.out)).mono ?_; rintro e w3 ⟨rfl, hw⟩; rw [hw, f2]; clear hw w3))
      go_ret
      exact ⟨by rw [HDEF.out, f1, f2]; rfl, HB1.out⟩
    | true =>
      go_enter Tryz.func41, Tryz.ntmps41
      go_wp2_with (first
        | ((with_reducible show wpList _ _ _ (⟨some 3, _, _, _, _, _⟩ :: _) _ _); refine wpList_box _ rfl 42 (.tmp 0) rfl (ppC p A1 n1 c1 A2 n2 c2) rfl ?_; intro w1 y1 y2 y3; have HB1 := Lib.hid y2; have HP1 := Lib.hid y1; have q0 := y1.get (j := 0) rfl; have q3 := y1.get (j := 3) rfl; have qa := cell_kept y2 qa; clear y1 y2 y3)
        | (go_at_call 42; refine (contains_any A1 n1 c1 p.ws u w1 (HL1.out.kept stay_int HB1.out)).mono ?_; rintro e w3 ⟨rfl, hw⟩; rw [hw, f2]; clear hw w3)
        | ((with_reducible show wpList _ _ _ (⟨some 17, _, _, _, _, _⟩ :: _) _ _); refine wpList_loadvg _ rfl 84 (.tmp 2) rfl 2 (by kernel_rfl) gb 0 _ rfl (BL.all (HBV.out.kept HB1.out)) rfl ?_)
        | ((with_reducible show wpList _ _ _ (⟨some 18, _, _, _, _, _⟩ :: _) _ _); refine wpList_loadvg _ rfl 42 (.tmp 3) rfl 5 (by kernel_rfl) w.heap.size 0 _ rfl (BL.all HP1.out) rfl ?_)
        | (go_at_call 43; refine (reply_any _ D _ p u w1 (HVW.out.kept HB1.out) (stay_pp _ _ _ _ H.out HB1.out) HP.out.1 HP.out.2 HU.out).mono ?_; rintro e w4 ⟨rfl, b4⟩; rw [← HR.out]; have HB4 := Lib.hid (below_then HB1.out b4); clear b4))
      go_ret
      exact ⟨by rw [HDEF.out, f1, f2]; rfl, HB4.out⟩
theorem drop1_any (ga gb : Nat) (A : Option Addr) (n c : Nat) (ex : List Int) (D : List En) (cv : List Value) (cs : List Value) (p : Pp) (w : World) (hex : LS rInt 1 8 w A n c ex) (ha : BL w ga 84 cv) (hb : BL w gb 23 [.slice A n c]) (hv : ViewM w cv D) (h : rPpT w cs p) (hp : 0 ≤ p.dev ∧ 0 ≤ p.seq) :
    Calls Tryz.prog 46 #[.agg cs.toArray, .pointer (some ⟨ga, 0, none⟩), .pointer (some ⟨gb, 0, none⟩)] w fun e w' => e = .returned (.bool (stateOf D p ex == 3)) ∧ Below w.heap.size w w' := by
  have H := Lib.hid h.1
  have HP : Hid (0 ≤ p.dev ∧ 0 ≤ p.seq) := Lib.hid hp
  have HVW := Lib.hid hv
  have HBV := Lib.hid ha
  have HEX := Lib.hid hex
  have qb := hb.get (j := 0) rfl
  obtain ⟨⟨A1, n1, c1, A2, n2, c2, rfl, hl1, _⟩, _⟩ := h
  obtain ⟨AA, nn, cc, bm, f, rfl, _⟩ := hv
  clear hl1 hp ha hb hex
  go_enter Tryz.func46, Tryz.ntmps46
  go_wp2_with (first
    | ((with_reducible show wpList _ _ _ (⟨some 3, _, _, _, _, _⟩ :: _) _ _); refine wpList_box _ rfl 42 (.tmp 0) rfl (ppC p A1 n1 c1 A2 n2 c2) rfl ?_; intro w1 y1 y2 y3; have HB1 := Lib.hid y2; have HP1 := Lib.hid y1; have qb := cell_kept y2 qb; clear y1 y2 y3)
    | ((with_reducible show wpList _ _ _ (⟨some 5, _, _, _, _, _⟩ :: _) _ _); refine wpList_loadv _ rfl 84 (.tmp 1) rfl 2 (by kernel_rfl) ga 0 _ rfl (BL.all (HBV.out.kept HB1.out)) rfl ?_)
    | ((with_reducible show wpList _ _ _ (⟨some 6, _, _, _, _, _⟩ :: _) _ _); refine wpList_loadv _ rfl 42 (.tmp 3) rfl 5 (by kernel_rfl) w.heap.size 0 _ rfl (BL.all HP1.out) rfl ?_)
    | (go_at_call 47; refine (state_any _ D _ p A n c ex w1 (HVW.out.kept HB1.out) (stay_pp _ _ _ _ H.out HB1.out) HP.out.1 HP.out.2 (HEX.out.kept stay_int HB1.out)).mono ?_; rintro e w4 ⟨rfl, b4⟩; have HB4 := Lib.hid (below_then HB1.out b4); clear b4))
  go_ret
  exact ⟨rfl, HB4.out⟩
theorem LT.valid {w : World} {A : Option Addr} {n c : Nat} {L : List Pp} (h : LT rPpT 5 72 42 w A n c L) (hv : ∀ p ∈ L, validB p = true) : LT rPpV 5 72 42 w A n c L :=
  ⟨⟨h.1.1, h.1.2.1, h.1.2.2.1, fun k hk => let ⟨g, o, cs, e, h1, h2⟩ := h.1.2.2.2 k hk; ⟨g, o, cs, e, h1, h2, hv _ (List.getElem_mem hk)⟩⟩, h.2⟩
theorem ppL_valid {D : List En} {p : Pp} (h : p ∈ ppL D) : validB p = true := by
  rw [ppL, (sortP_perm _).mem_iff, pps] at h
  obtain ⟨x, _, e⟩ := List.mem_filterMap.1 h
  exact (decM_key e).2.2
theorem ofL_valid {D : List En} {V : Int} {p : Pp} (h : p ∈ ofL D V) : validB p = true := ppL_valid ((List.mem_filter.1 h).1)
/-- The proposals to which a writer has to reply. -/
def pendL (D : List En) (V u : Int) : List Pp := kpL (pendN D u) (ofL D V)
def OfV (L : List Pp) (w : World) (e : Ending) (w' : World) : Prop := ∃ A n c, e = .returned (.slice A n c) ∧ LT rPpV 5 72 42 w' A n c L ∧ (∀ b, (Value.slice A n c).ownBlock = some b → w.heap.size ≤ b) ∧ Below w.heap.size w w'
theorem pending_any (A : Option Addr) (n c : Nat) (es : List En) (V u : Int) (w : World) (h : LS rEn 6 72 w A n c es) (hn : n ≤ 2000) (hu : wfI u) :
    Calls Tryz.prog 18 #[.slice A n c, .int .i64 V, .int .i64 u] w (OfV (pendL (dd es) V u) w) := by
  have HL : Hid ((ppL (dd es)).length ≤ 1000000) := Lib.hid (by have := ppl_len es; have := h.1; omega)
  have H := Lib.hid h
  have HN := Lib.hid hn
  have HU := Lib.hid hu
  clear h hn hu
  have hmf : ∀ (fn : Fn) (first cap : Array Value) (w : World), (Instr.makeFunc fn first cap).run Tryz.prog w = .ok (.func fn first cap) w := fun _ _ _ _ => rfl
  go_enter Tryz.func18, Tryz.ntmps18
  go_wp2_with (first
    | ((with_reducible show wpList _ _ _ (⟨some 5, _, _, _, _, _⟩ :: _) _ _); refine wpList_box1 _ rfl 3 (.tmp 2) rfl _ rfl rfl ?_; intro w1 y1 y2 y3; have HI1 := Lib.hid y1; have HB1 := Lib.hid y2; clear y1 y2 y3)
    | (go_at_call 39; refine (newView_any A n c es w1 (H.out.kept stay_en HB1.out) HN.out).mono ?_; rintro e w2 ⟨cv, rfl, x1, x2⟩; have HV2 := Lib.hid x1; have HI2 := Lib.hid (HI1.out.kept x2); have HB2 := Lib.hid (below_then HB1.out x2); obtain ⟨AA, nn, cc, bm, vs, f, ecv, _⟩ := x1; subst ecv; clear x2)
    | ((with_reducible show wpList _ _ _ (⟨some 7, _, _, _, _, _⟩ :: _) _ _); refine wpList_alloc _ rfl 84 rfl vwZ vwZero ?_; intro w3 a1 a2 a3; have HW3 := Lib.hid a1; have HX3 := Lib.hid a2; clear a1 a2 a3)
    | ((with_reducible show wpList _ _ _ (⟨none, _, _, _, _, _⟩ :: _) _ _); refine wpList_storev _ rfl 84 (.tmp 7) (.tmp 9) rfl 2 (by kernel_rfl) w2.heap.size 0 _ vwZ [.slice AA nn cc, .map (some bm)] rfl rfl HW3.out rfl (one_val _ rfl) (by decide) ?_; intro w4 a1 a2 a3; have b4 := low_kp HX3.out a2 (fun i hi e => by omega); have HW4 : Hid (BL w4 w2.heap.size 84 [.slice AA nn cc, .map (some bm)]) := Lib.hid a1; have HI4 := Lib.hid (HI2.out.kept b4); have HV4 := Lib.hid (HV2.out.kept b4); have HB4 := Lib.hid (below_then HB2.out b4); clear a1 a2 a3 b4)
    | ((with_reducible show wpList _ _ _ (⟨some 10, _, _, _, _, _⟩ :: _) _ _); refine wpList_loadv _ rfl 84 (.tmp 7) rfl 2 (by kernel_rfl) w2.heap.size 0 _ rfl (BL.all HW4.out) rfl ?_)
    | (go_at_call 50; refine (of_any _ (dd es) V w4 HV4.out HL.out).mono ?_; rintro e w5 ⟨A5, n5, c5, rfl, x1, x2, x3⟩; have HL5 := Lib.hid (x1.valid (fun p hp => ofL_valid hp)); have HO5 := Lib.hid x2; have HI5 := Lib.hid (HI4.out.kept x3); have HV5 := Lib.hid (HV4.out.kept x3); have HW5 := Lib.hid (HW4.out.kept x3); have HB5 := Lib.hid (below_then HB4.out x3); clear x1 x2 x3)
    | (go_at_call 49; refine (del_pend A5 n5 c5 w.heap.size w2.heap.size (ofL (dd es) V) (pendN (dd es) u) w5 (fun w' => BL w' w.heap.size 3 [.int .i64 u] ∧ BL w' w2.heap.size 84 [.slice AA nn cc, .map (some bm)] ∧ ViewM w' [.slice AA nn cc, .map (some bm)] (dd es)) HL5.out ⟨HI5.out, HW5.out, HV5.out.m⟩ (fun w1 w2 h1 h2 => ⟨h1.1.kept h2, h1.2.1.kept h2, h1.2.2.kept h2⟩) (fun w1 w2 g cs h1 h2 h3 => ⟨h3.bl h2.1 (h2.1.ne h1 (by decide)), h3.bl h2.2.1 (h2.2.1.ne h1 (by decide)), h2.2.2.bl h1 h3⟩) (fun w1 cs x h1 h2 => pend1_any _ _ u (dd es) _ cs x w1 HU.out h1.1 h1.2.1 h1.2.2 h2.1 ⟨(valid_dev h2.2).1, by have := (valid_dev h2.2).2.2; omega⟩)).mono ?_; rintro e w6 ⟨n6, c6, rfl, x1, x2⟩; have HL6 := Lib.hid x1; have HB6 := Lib.hid (low_kp HB5.out x2 (fun i hi e => by have := HO5.out i e; have := HB4.out.size; omega)); clear x1 x2))
  go_ret
  exact ⟨A5, n6, c6, rfl, HL6.out, fun b hb => Nat.le_trans HB4.out.size (HO5.out b (by rcases A5 with _ | ⟨g, o, s⟩ <;> exact hb)), HB6.out⟩
end
end Go.Proofs.YtfonbliomokffaaGreat
/- Equal proposals; epoch.State. -/
namespace Go.Proofs.YtfonbliomokffaaGreat
open Go Go.RowKit Go.ChangeMaps Gf Sha

theorem below_drew' {B : Nat} {w w' : World} (h : Below B w w') (q : Nat) : Below B w (w'.drewN q) := below_drewN h q
theorem equalI_any (A B' : Option Addr) (n c m d : Nat) (L M : List Int) (w : World) (h1 : LS rInt 1 8 w A n c L) (h2 : LS rInt 1 8 w B' m d M) :
    Calls Tryz.prog 87 #[.slice A n c, .slice B' m d] w fun e w' => e = .returned (.bool (L == M)) ∧ Below w.heap.size w w' := by
  have e1 := h1.1
  have e2 := h2.1
  have b1 := h1.len_le
  have b2 := h2.len_le
  by_cases hnm : n = m
  · rcases Nat.eq_zero_or_pos n with h0 | h0
    · subst hnm
      subst h0
      obtain rfl := List.eq_nil_of_length_eq_zero e1
      obtain rfl := List.eq_nil_of_length_eq_zero e2
      refine (Tryz.slices_Equal_int_empty A B' c 0 d w (by omega)).mono ?_
      rintro e w' ⟨rfl, rfl⟩
      exact ⟨rfl, Below.refl _ _⟩
    · obtain ⟨g1, o1, rfl, c1⟩ := h1.ints h0
      obtain ⟨g2, o2, rfl, c2⟩ := h2.ints (by omega)
      refine (Tryz.slices_Equal_int g1 o1 n c g2 o2 m d L M w (by omega) (by omega) (by omega) (by omega) c1 c2).mono ?_
      rintro e w' ⟨rfl, q, rfl⟩
      rw [← e1, ← e2, List.take_length, List.take_length]
      exact ⟨rfl, below_drewN (Below.refl _ _) q⟩
  · refine (Tryz.slices_Equal_int_lens A B' n c m d w hnm).mono ?_
    rintro e w' ⟨rfl, rfl⟩
    have : (L == M) = false := by rw [beq_eq_false_iff_ne]; intro e; subst e; omega
    rw [this]
    exact ⟨rfl, Below.refl _ _⟩
theorem map_strB_inj {L M : List (List UInt8)} (h : L.map strB = M.map strB) : L = M := by
  induction L generalizing M with
  | nil => cases M with
    | nil => rfl
    | cons y M => cases h
  | cons x L ih => cases M with
    | nil => cases h
    | cons y M =>
      simp only [List.map_cons, List.cons.injEq] at h
      rw [strB_inj h.1, ih h.2]
theorem LS.strD {w : World} {A : Option Addr} {n c : Nat} {m : List (List UInt8)} (h : LS rStr 1 16 w A n c m) (hn : 0 < n) : ∃ g o, A = some ⟨g, o, none⟩ ∧ ∀ j, j < (m.map strB).length → w.cell? ⟨g, o + j, none⟩ = some (.string ((m.map strB).getD j ByteArray.empty)) := by
  obtain ⟨_, g, o, _, rfl, _⟩ := h.str_at (Below.refl _ _) hn
  refine ⟨g, o, rfl, fun j hj => ?_⟩
  rw [List.length_map] at hj
  obtain ⟨x, g', o', hx, e, hc⟩ := h.str_at (Below.refl _ _) (show j < n by rw [← h.1]; exact hj)
  cases e
  rw [hc, List.getD_eq_getElem?_getD, List.getElem?_map, hx]
  rfl
theorem equalS_any (A B' : Option Addr) (n c m d : Nat) (L M : List (List UInt8)) (w : World) (h1 : LS rStr 1 16 w A n c L) (h2 : LS rStr 1 16 w B' m d M) :
    Calls Tryz.prog 88 #[.slice A n c, .slice B' m d] w fun e w' => e = .returned (.bool (L == M)) ∧ Below w.heap.size w w' := by
  have e1 := h1.1
  have e2 := h2.1
  have b1 := h1.len_le
  have b2 := h2.len_le
  by_cases hnm : n = m
  · rcases Nat.eq_zero_or_pos n with h0 | h0
    · subst hnm
      subst h0
      obtain rfl := List.eq_nil_of_length_eq_zero e1
      obtain rfl := List.eq_nil_of_length_eq_zero e2
      refine (Tryz.slices_Equal_string_empty A B' c 0 d w (by omega)).mono ?_
      rintro e w' ⟨rfl, rfl⟩
      exact ⟨rfl, Below.refl _ _⟩
    · obtain ⟨g1, o1, rfl, c1⟩ := h1.strD h0
      obtain ⟨g2, o2, rfl, c2⟩ := h2.strD (by omega)
      refine (Tryz.slices_Equal_string g1 o1 n c g2 o2 m d (L.map strB) (M.map strB) w (by rw [List.length_map]; omega) (by rw [List.length_map]; omega) (by omega) (by omega) c1 c2).mono ?_
      rintro e w' ⟨rfl, q, rfl⟩
      refine ⟨?_, below_drewN (Below.refl _ _) q⟩
      rw [List.take_of_length_le (by rw [List.length_map]; omega), List.take_of_length_le (by rw [List.length_map]; omega)]
      congr 2
      by_cases hLM : L = M
      · subst hLM; simp
      · rw [decide_eq_false (fun e => hLM (map_strB_inj e)), beq_eq_false_iff_ne.2 hLM]
  · refine (Tryz.slices_Equal_string_lens A B' n c m d w hnm).mono ?_
    rintro e w' ⟨rfl, rfl⟩
    have : (L == M) = false := by rw [beq_eq_false_iff_ne]; intro e; subst e; omega
    rw [this]
    exact ⟨rfl, Below.refl _ _⟩
/-- Equal proposals. -/
def ppEq (p q : Pp) : Bool := p.dev == q.dev && (p.seq == q.seq && (p.vault == q.vault && (p.ws == q.ws && p.ss == q.ss)))
theorem ppEq_iff (p q : Pp) : ppEq p q = true ↔ p = q := by
  simp only [ppEq, Bool.and_eq_true, beq_iff_eq]
  constructor
  · rintro ⟨h1, h2, h3, h4, h5⟩; exact Pp.eq_of h1 h2 h3 h4 h5
  · rintro rfl; exact ⟨rfl, rfl, rfl, rfl, rfl⟩
section
set_option maxRecDepth 100000
set_option maxHeartbeats 4000000
theorem equal_any (cs ds : List Value) (p q : Pp) (w : World) (hp : rPp w cs p) (hq : rPp w ds q) :
    Calls Tryz.prog 56 #[.agg cs.toArray, .agg ds.toArray] w fun e w' => e = .returned (.bool (ppEq p q)) ∧ Below w.heap.size w w' := by
  obtain ⟨A1, n1, c1, A2, n2, c2, rfl, hl1, hl2, _⟩ := hp
  obtain ⟨B1, m1, d1, B2, m2, d2, rfl, kl1, kl2, _⟩ := hq
  have H1 := Lib.hid hl1
  have H2 := Lib.hid hl2
  have K1 := Lib.hid kl1
  have K2 := Lib.hid kl2
  clear hl1 hl2 kl1 kl2
  have HE : Hid (ppEq p q = (p.dev == q.dev && (p.seq == q.seq && (p.vault == q.vault && (p.ws == q.ws && p.ss == q.ss))))) := Lib.hid rfl
  cases f1 : (p.dev == q.dev) with
  | false =>
    go_enter Tryz.func56, Tryz.ntmps56
    go_wp2_with (first
      | ((with_reducible show wpList _ _ _ (⟨some 2, _, _, _, _, _⟩ :: _) _ _); refine wpList_box _ rfl 42 (.tmp 0) rfl (ppC p A1 n1 c1 A2 n2 c2) rfl ?_; intro w1 y1 y2 y3; have HP1 := Lib.hid y1; have HB1 := Lib.hid y2; clear y1 y2 y3)
      | ((with_reducible show wpList _ _ _ (⟨some 3, _, _, _, _, _⟩ :: _) _ _); refine wpList_box _ rfl 42 (.tmp 1) rfl (ppC q B1 m1 d1 B2 m2 d2) rfl ?_; intro w2 y1 y2 y3; have HB2 := Lib.hid (below_then HB1.out y2); have HP2 := Lib.hid (HP1.out.kept y2); have HQ2 := Lib.hid y1; have q0 := (HP1.out.kept y2).get (j := 0) rfl; have q1 := (HP1.out.kept y2).get (j := 1) rfl; have q2 := (HP1.out.kept y2).get (j := 2) rfl; have q3 := (HP1.out.kept y2).get (j := 3) rfl; have r0 := y1.get (j := 0) rfl; have r1 := y1.get (j := 1) rfl; have r2 := y1.get (j := 2) rfl; have r3 := y1.get (j := 3) rfl; clear y1 y2 y3)
      | (go_at_call 87; refine (equalI_any A1 B1 n1 c1 m1 d1 p.ws q.ws w2 (H1.out.kept stay_int HB2.out) (K1.out.kept stay_int HB2.out)).mono ?_; rintro e w3 ⟨rfl, b3⟩; rw [f4]; have HB3 := Lib.hid (below_then HB2.out b3); have q4 := (HP2.out.kept b3).get (j := 4) rfl; have r4 := (HQ2.out.kept b3).get (j := 4) rfl; clear b3)
      | (go_at_call 88; refine (equalS_any A2 B2 n2 c2 m2 d2 p.ss q.ss w3 (H2.out.kept stay_str HB3.out) (K2.out.kept stay_str HB3.out)).mono ?_; rintro e w4 ⟨rfl, b3⟩; have HB4 := Lib.hid (below_then HB3.out b3); clear b3))
    go_ret
    exact ⟨by rw [HE.out, f1]; rfl, HB2.out⟩
  | true =>
    cases f2 : (p.seq == q.seq) with
    | false =>
      go_enter Tryz.func56, Tryz.ntmps56
      go_wp2_with (first
        | ((with_reducible show wpList _ _ _ (⟨some 2, _, _, _, _, _⟩ :: _) _ _); refine wpList_box _ rfl 42 (.tmp 0) rfl (ppC p A1 n1 c1 A2 n2 c2) rfl ?_; intro w1 y1 y2 y3; have HP1 := Lib.hid y1; have HB1 := Lib.hid y2; clear y1 y2 y3)
        | ((with_reducible show wpList _ _ _ (⟨some 3, _, _, _, _, _⟩ :: _) _ _); refine wpList_box _ rfl 42 (.tmp 1) rfl (ppC q B1 m1 d1 B2 m2 d2) rfl ?_; intro w2 y1 y2 y3; have HB2 := Lib.hid (below_then HB1.out y2); have HP2 := Lib.hid (HP1.out.kept y2); have HQ2 := Lib.hid y1; have q0 := (HP1.out.kept y2).get (j := 0) rfl; have q1 := (HP1.out.kept y2).get (j := 1) rfl; have q2 := (HP1.out.kept y2).get (j := 2) rfl; have q3 := (HP1.out.kept y2).get (j := 3) rfl; have r0 := y1.get (j := 0) rfl; have r1 := y1.get (j := 1) rfl; have r2 := y1.get (j := 2) rfl; have r3 := y1.get (j := 3) rfl; clear y1 y2 y3)
        | (go_at_call 87; refine (equalI_any A1 B1 n1 c1 m1 d1 p.ws q.ws w2 (H1.out.kept stay_int HB2.out) (K1.out.kept stay_int HB2.out)).mono ?_; rintro e w3 ⟨rfl, b3⟩; rw [f4]; have HB3 := Lib.hid (below_then HB2.out b3); have q4 := (HP2.out.kept b3).get (j := 4) rfl; have r4 := (HQ2.out.kept b3).get (j := 4) rfl; clear b3)
        | (go_at_call 88; refine (equalS_any A2 B2 n2 c2 m2 d2 p.ss q.ss w3 (H2.out.kept stay_str HB3.out) (K2.out.kept stay_str HB3.out)).mono ?_; rintro e w4 ⟨rfl, b3⟩; have HB4 := Lib.hid (below_then HB3.out b3); clear b3))
      go_ret
      exact ⟨by rw [HE.out, f1, f2]; rfl, HB2.out⟩
    | true =>
      cases f3 : (p.vault == q.vault) with
      | false =>
        go_enter Tryz.func56, Tryz.ntmps56
        go_wp2_with (first
          | ((with_reducible show wpList _ _ _ (⟨some 2, _, _, _, _, _⟩ :: _) _ _); refine wpList_box _ rfl 42 (.tmp 0) rfl (ppC p A1 n1 c1 A2 n2 c2) rfl ?_; intro w1 y1 y2 y3; have HP1 := Lib.hid y1; have HB1 := Lib.hid y2; clear y1 y2 y3)
          | ((with_reducible show wpList _ _ _ (⟨some 3, _, _, _, _, _⟩ :: _) _ _); refine wpList_box _ rfl 42 (.tmp 1) rfl (ppC q B1 m1 d1 B2 m2 d2) rfl ?_; intro w2 y1 y2 y3; have HB2 := Lib.hid (below_then HB1.out y2); have HP2 := Lib.hid (HP1.out.kept y2); have HQ2 := Lib.hid y1; have q0 := (HP1.out.kept y2).get (j := 0) rfl; have q1 := (HP1.out.kept y2).get (j := 1) rfl; have q2 := (HP1.out.kept y2).get (j := 2) rfl; have q3 := (HP1.out.kept y2).get (j := 3) rfl; have r0 := y1.get (j := 0) rfl; have r1 := y1.get (j := 1) rfl; have r2 := y1.get (j := 2) rfl; have r3 := y1.get (j := 3) rfl; clear y1 y2 y3)
          | (go_at_call 87; refine (equalI_any A1 B1 n1 c1 m1 d1 p.ws q.ws w2 (H1.out.kept stay_int HB2.out) (K1.out.kept stay_int HB2.out)).mono ?_; rintro e w3 ⟨rfl, b3⟩; rw [f4]; have HB3 := Lib.hid (below_then HB2.out b3); have q4 := (HP2.out.kept b3).get (j := 4) rfl; have r4 := (HQ2.out.kept b3).get (j := 4) rfl; clear b3)
          | (go_at_call 88; refine (equalS_any A2 B2 n2 c2 m2 d2 p.ss q.ss w3 (H2.out.kept stay_str HB3.out) (K2.out.kept stay_str HB3.out)).mono ?_; rintro e w4 ⟨rfl, b3⟩; have HB4 := Lib.hid (below_then HB3.out b3); clear b3))
        go_ret
        exact ⟨by rw [HE.out, f1, f2, f3]; rfl, HB2.out⟩
      | true =>
        cases f4 : (p.ws == q.ws) with
        | false =>
          go_enter Tryz.func56, Tryz.ntmps56
          go_wp2_with (first
            | ((with_reducible show wpList _ _ _ (⟨some 2, _, _, _, _, _⟩ :: _) _ _); refine wpList_box _ rfl 42 (.tmp 0) rfl (ppC p A1 n1 c1 A2 n2 c2) rfl ?_; intro w1 y1 y2 y3; have HP1 := Lib.hid y1; have HB1 := Lib.hid y2; clear y1 y2 y3)
            | ((with_reducible show wpList _ _ _ (⟨some 3, _, _, _, _, _⟩ :: _) _ _); refine wpList_box _ rfl 42 (.tmp 1) rfl (ppC q B1 m1 d1 B2 m2 d2) rfl ?_; intro w2 y1 y2 y3; have HB2 := Lib.hid (below_then HB1.out y2); have HP2 := Lib.hid (HP1.out.kept y2); have HQ2 := Lib.hid y1; have q0 := (HP1.out.kept y2).get (j := 0) rfl; have q1 := (HP1.out.kept y2).get (j := 1) rfl; have q2 := (HP1.out.kept y2).get (j := 2) rfl; have q3 := (HP1.out.kept y2).get (j := 3) rfl; have r0 := y1.get (j := 0) rfl; have r1 := y1.get (j := 1) rfl; have r2 := y1.get (j := 2) rfl; have r3 := y1.get (j := 3) rfl; clear y1 y2 y3)
            | (go_at_call 87; refine (equalI_any A1 B1 n1 c1 m1 d1 p.ws q.ws w2 (H1.out.kept stay_int HB2.out) (K1.out.kept stay_int HB2.out)).mono ?_; rintro e w3 ⟨rfl, b3⟩; rw [f4]; have HB3 := Lib.hid (below_then HB2.out b3); have q4 := (HP2.out.kept b3).get (j := 4) rfl; have r4 := (HQ2.out.kept b3).get (j := 4) rfl; clear b3)
            | (go_at_call 88; refine (equalS_any A2 B2 n2 c2 m2 d2 p.ss q.ss w3 (H2.out.kept stay_str HB3.out) (K2.out.kept stay_str HB3.out)).mono ?_; rintro e w4 ⟨rfl, b3⟩; have HB4 := Lib.hid (below_then HB3.out b3); clear b3))
          go_ret
          exact ⟨by rw [HE.out, f1, f2, f3, f4]; rfl, HB3.out⟩
        | true =>
          go_enter Tryz.func56, Tryz.ntmps56
          go_wp2_with (first
            | ((with_reducible show wpList _ _ _ (⟨some 2, _, _, _, _, _⟩ :: _) _ _); refine wpList_box _ rfl 42 (.tmp 0) rfl (ppC p A1 n1 c1 A2 n2 c2) rfl ?_; intro w1 y1 y2 y3; have HP1 := Lib.hid y1; have HB1 := Lib.hid y2; clear y1 y2 y3)
            | ((with_reducible show wpList _ _ _ (⟨some 3, _, _, _, _, _⟩ :: _) _ _); refine wpList_box _ rfl 42 (.tmp 1) rfl (ppC q B1 m1 d1 B2 m2 d2) rfl ?_; intro w2 y1 y2 y3; have HB2 := Lib.hid (below_then HB1.out y2); have HP2 := Lib.hid (HP1.out.kept y2); have HQ2 := Lib.hid y1; have q0 := (HP1.out.kept y2).get (j := 0) rfl; have q1 := (HP1.out.kept y2).get (j := 1) rfl; have q2 := (HP1.out.kept y2).get (j := 2) rfl; have q3 := (HP1.out.kept y2).get (j := 3) rfl; have r0 := y1.get (j := 0) rfl; have r1 := y1.get (j := 1) rfl; have r2 := y1.get (j := 2) rfl; have r3 := y1.get (j := 3) rfl; clear y1 y2 y3)
            | (go_at_call 87; refine (equalI_any A1 B1 n1 c1 m1 d1 p.ws q.ws w2 (H1.out.kept stay_int HB2.out) (K1.out.kept stay_int HB2.out)).mono ?_; rintro e w3 ⟨rfl, b3⟩; rw [f4]; have HB3 := Lib.hid (below_then HB2.out b3); have q4 := (HP2.out.kept b3).get (j := 4) rfl; have r4 := (HQ2.out.kept b3).get (j := 4) rfl; clear b3)
            | (go_at_call 88; refine (equalS_any A2 B2 n2 c2 m2 d2 p.ss q.ss w3 (H2.out.kept stay_str HB3.out) (K2.out.kept stay_str HB3.out)).mono ?_; rintro e w4 ⟨rfl, b3⟩; have HB4 := Lib.hid (below_then HB3.out b3); clear b3))
          go_ret
          exact ⟨by rw [HE.out, f1, f2, f3, f4]; rfl, HB4.out⟩
theorem idx_eq (A : Option Addr) (n c : Nat) (L : List Pp) (ps : List Value) (q : Pp) (w : World) (hL : LS rPpT 5 72 w A n c L) (hq : rPp w ps q) :
    Calls Tryz.prog 84 #[.slice A n c, .func (.func 56) #[.agg ps.toArray] #[]] w fun e w' => ∃ r, e = .returned (.int .i64 r) ∧ idxP (fun x => ppEq q x) L r ∧ Below w.heap.size w w' := by
  have hn := hL.len_le
  have H := Lib.hid hL
  have HL := Lib.hid hL.1
  have HQ := Lib.hid hq
  clear hL hq
  go_enter Tryz.func84, Tryz.ntmps84
  go_wp2_with fail
  go_loopw [8] (fun iv wr => ∃ k : Nat, k ≤ n ∧ iv = .int .i64 (k : Int) ∧ Hid (∀ x ∈ L.take k, ppEq q x = false) ∧ Hid (Below w.heap.size w wr)) (fun iv _ => n - (intOf iv).toNat)
  case atStart => exact ⟨0, by omega, rfl, Lib.hid (fun x hx => by simp at hx), Lib.hid (Below.refl _ _)⟩
  case round =>
    obtain ⟨k, hk, rfl, hall, hb⟩ := hrel
    obtain ⟨wx, hwx⟩ : ∃ x, x = wr := ⟨_, rfl⟩
    rw [← hwx] at hb ⊢
    clear hwx
    by_cases hlt : k < n
    · obtain ⟨x, g, o, cs, hs, ea, hat, hr⟩ := H.out.at_ stay_ppt hb.out hlt
      have HR := Lib.hid hr
      have HX := Lib.hid hs
      have HA := Lib.hid hat
      have HLEN := Lib.hid (len_ppt cs x hr)
      subst ea
      clear hs hat hr
      cases h1 : ppEq q x with
      | true =>
        go_wp2_with (first
          | ((with_reducible show wpList _ _ _ (⟨some 15, _, _, _, _, _⟩ :: _) _ _); refine wpList_loadv _ rfl 42 (.tmp 14) rfl 5 (by kernel_rfl) g (o + k * 5) cs (by go_simp) HA.out HLEN.out ?_)
          | (go_at_call 56; refine (equal_any ps cs q x wx (stay_pp _ _ _ _ HQ.out hb.out) HR.out.1).mono ?_; rintro e w2 ⟨rfl, bl⟩; rw [h1]; have HX2 := Lib.hid bl; clear bl))
        go_ret
        exact ⟨(k : Int), rfl, .inr ⟨k, x, rfl, HX.out, h1, hall.out⟩, below_thenB hb.out hb.out.size HX2.out⟩
      | false =>
        have HALL : Hid (∀ x ∈ L.take (k + 1), ppEq q x = false) := Lib.hid (fun y hy => by
          rw [take_next HX.out] at hy
          rcases List.mem_append.1 hy with h | h
          · exact hall.out y h
          · rw [List.mem_singleton.1 h]; exact h1)
        go_wp2_with (first
          | ((with_reducible show wpList _ _ _ (⟨some 15, _, _, _, _, _⟩ :: _) _ _); refine wpList_loadv _ rfl 42 (.tmp 14) rfl 5 (by kernel_rfl) g (o + k * 5) cs (by go_simp) HA.out HLEN.out ?_)
          | (go_at_call 56; refine (equal_any ps cs q x wx (stay_pp _ _ _ _ HQ.out hb.out) HR.out.1).mono ?_; rintro e w2 ⟨rfl, bl⟩; rw [h1]; have HX2 := Lib.hid bl; clear bl))
        go_roundw
        case rel => exact ⟨k + 1, by omega, by go_num, HALL, Lib.hid (below_thenB hb.out hb.out.size HX2.out)⟩
        case measure => simp [intOf]; omega
    · obtain rfl : k = n := by omega
      go_wp2_with fail
      go_ret
      exact ⟨-1, rfl, .inl ⟨rfl, fun x hx => hall.out x (by rw [take_end HL.out]; exact hx)⟩, hb.out⟩
theorem idx_any {α : Type} {p : α → Bool} {L : List α} {r : Int} (h : idxP p L r) : decide (0 ≤ r) = L.any p := by
  rcases h with ⟨rfl, h⟩ | ⟨i, x, rfl, h1, h2, _⟩
  · rw [List.any_eq_false.2 (fun x hx => by rw [h x hx]; simp)]; rfl
  · rw [List.any_eq_true.2 ⟨x, mem_of h1, h2⟩, decide_eq_true (by omega)]
theorem cont_eq (A : Option Addr) (n c : Nat) (L : List Pp) (ps : List Value) (q : Pp) (w : World) (hL : LS rPpT 5 72 w A n c L) (hq : rPp w ps q) :
    Calls Tryz.prog 55 #[.slice A n c, .func (.func 56) #[.agg ps.toArray] #[]] w fun e w' => e = .returned (.bool (L.any fun x => ppEq q x)) ∧ Below w.heap.size w w' := by
  have H := Lib.hid hL
  have HQ := Lib.hid hq
  clear hL hq
  go_enter Tryz.func55, Tryz.ntmps55
  go_wp2_with (first
    | (go_at_call 84; refine (idx_eq A n c L ps q w H.out HQ.out).mono ?_; rintro e w1 ⟨r, rfl, h1, h2⟩; have HI := Lib.hid (idx_any h1); have HB := Lib.hid h2; clear h1 h2))
  go_ret
  exact ⟨by rw [← HI.out]; rfl, HB.out⟩
/-- What State hands back. -/
def stR (D : List En) (p : Pp) (ex : List Int) : Array Value := if (ppL D).any (fun x => ppEq p x) then #[.int .i64 (stateOf D p ex), .int .i64 0] else #[.int .i64 0, .int .i64 4]
theorem stR_no {D : List En} {p : Pp} {ex : List Int} (h : ((ppL D).any fun x => ppEq p x) = false) : stR D p ex = #[.int .i64 0, .int .i64 4] := by rw [stR, h]; rfl
theorem stR_yes {D : List En} {p : Pp} {ex : List Int} (h : ((ppL D).any fun x => ppEq p x) = true) : stR D p ex = #[.int .i64 (stateOf D p ex), .int .i64 0] := by rw [stR, h]; rfl
theorem State_any (A : Option Addr) (n c : Nat) (es : List En) (ps : List Value) (p : Pp) (A9 : Option Addr) (n9 c9 : Nat) (ex : List Int) (w : World) (h : LS rEn 6 72 w A n c es) (hn : n ≤ 2000) (hp : rPp w ps p) (hex : LS rInt 1 8 w A9 n9 c9 ex) :
    Calls Tryz.prog 24 #[.slice A n c, .agg ps.toArray, .slice A9 n9 c9] w fun e w' => e = .returned (.tuple (stR (dd es) p ex)) ∧ Below w.heap.size w w' := by
  have HLE : Hid ((ppL (dd es)).length ≤ 1000000) := Lib.hid (by have := ppl_len es; have := h.1; omega)
  have H := Lib.hid h
  have HN := Lib.hid hn
  have HP := Lib.hid hp
  have HEX := Lib.hid hex
  obtain ⟨A1, n1, c1, A2, n2, c2, rfl, _⟩ := hp
  clear h hn hex
  have hmf : ∀ (fn : Fn) (first cap : Array Value) (w : World), (Instr.makeFunc fn first cap).run Tryz.prog w = .ok (.func fn first cap) w := fun _ _ _ _ => rfl
  cases hc : (ppL (dd es)).any (fun x => ppEq p x) with
  | false =>
    have HR := Lib.hid (stR_no (ex := ex) hc)
    go_enter Tryz.func24, Tryz.ntmps24
    go_wp2_with (first
      | ((with_reducible show wpList _ _ _ (⟨some 4, _, _, _, _, _⟩ :: _) _ _); refine wpList_box _ rfl 42 (.tmp 1) rfl (ppC p A1 n1 c1 A2 n2 c2) rfl ?_; intro w1 y1 y2 y3; have HI1 := Lib.hid y1; have HB1 := Lib.hid y2; clear y1 y2 y3)
      | (go_at_call 39; refine (newView_any A n c es w1 (H.out.kept stay_en HB1.out) HN.out).mono ?_; rintro e w2 ⟨cv, rfl, x1, x2⟩; have HV2 := Lib.hid x1; have HI2 := Lib.hid (HI1.out.kept x2); have HB2 := Lib.hid (below_then HB1.out x2); obtain ⟨AA, nn, cc, bm, vs, f, ecv, z1, z2, _⟩ := x1; subst ecv; have HPV2 := Lib.hid z1; have HVS := Lib.hid z2; clear x2 z1 z2)
      | ((with_reducible show wpList _ _ _ (⟨some 8, _, _, _, _, _⟩ :: _) _ _); refine wpList_alloc _ rfl 84 rfl vwZ vwZero ?_; intro w3 a1 a2 a3; have HW3 := Lib.hid a1; have HX3 := Lib.hid a2; clear a1 a2 a3)
      | ((with_reducible show wpList _ _ _ (⟨none, _, _, _, _, _⟩ :: _) _ _); refine wpList_storev _ rfl 84 (.tmp 8) (.tmp 10) rfl 2 (by kernel_rfl) w2.heap.size 0 _ vwZ [.slice AA nn cc, .map (some bm)] rfl rfl HW3.out rfl (one_val _ rfl) (by decide) ?_; intro w4 a1 a2 a3; have b4 := low_kp HX3.out a2 (fun i hi e => by omega); have HW4 : Hid (BL w4 w2.heap.size 84 [.slice AA nn cc, .map (some bm)]) := Lib.hid a1; have q0 := HW4.out.get (j := 0) rfl; have HI4 := Lib.hid (HI2.out.kept b4); have HV4 := Lib.hid (HV2.out.kept b4); have HPV4 := Lib.hid (HPV2.out.kept b4); have HB4 := Lib.hid (below_then HB2.out b4); clear a1 a2 a3 b4)
      | ((with_reducible show wpList _ _ _ (⟨some 13, _, _, _, _, _⟩ :: _) _ _); refine wpList_loadv _ rfl 42 (.tmp 4) rfl 5 (by kernel_rfl) w.heap.size 0 _ rfl (BL.all HI4.out) rfl ?_)
      | (go_at_call 55; refine (cont_eq AA nn cc (ppL (dd es)) _ p w4 (by have h9 := (HPV4.out.lt (by have h8 := congrArg List.length HVS.out; rw [List.length_map] at h8; have := HLE.out; omega)).1; rwa [HVS.out] at h9) (stay_pp _ _ _ _ HP.out HB4.out)).mono ?_; rintro e w5 ⟨rfl, b5⟩; rw [hc]; have HB5 := Lib.hid (below_then HB4.out b5); have HW5 := Lib.hid (HW4.out.kept b5); have HI5 := Lib.hid (HI4.out.kept b5); have HV5 := Lib.hid (HV4.out.kept b5); clear b5)
      | ((with_reducible show wpList _ _ _ (⟨some 17, _, _, _, _, _⟩ :: _) _ _); refine wpList_loadv _ rfl 84 (.tmp 8) rfl 2 (by kernel_rfl) w2.heap.size 0 _ rfl (BL.all HW5.out) rfl ?_)
      | ((with_reducible show wpList _ _ _ (⟨some 18, _, _, _, _, _⟩ :: _) _ _); refine wpList_loadv _ rfl 42 (.tmp 4) rfl 5 (by kernel_rfl) w.heap.size 0 _ rfl (BL.all HI5.out) rfl ?_)
      | (go_at_call 47; refine (state_any _ (dd es) _ p A9 n9 c9 ex w5 HV5.out.m (stay_pp _ _ _ _ HP.out HB5.out) (valid_dev HV.out).1 (by have := (valid_dev HV.out).2.2; omega) (HEX.out.kept stay_int HB5.out)).mono ?_; rintro e w6 ⟨rfl, b6⟩; have HB6 := Lib.hid (below_then HB5.out b6); clear b6))
    go_ret2
    exact ⟨by rw [HR.out]; rfl, HB5.out⟩
  | true =>
    have HR := Lib.hid (stR_yes (ex := ex) hc)
    have HV : Hid (validB p = true) := Lib.hid (by
      obtain ⟨x, hx, e⟩ := List.any_eq_true.1 hc
      rw [ppEq_iff] at e
      subst e
      exact ppL_valid hx)
    go_enter Tryz.func24, Tryz.ntmps24
    go_wp2_with (first
      | ((with_reducible show wpList _ _ _ (⟨some 4, _, _, _, _, _⟩ :: _) _ _); refine wpList_box _ rfl 42 (.tmp 1) rfl (ppC p A1 n1 c1 A2 n2 c2) rfl ?_; intro w1 y1 y2 y3; have HI1 := Lib.hid y1; have HB1 := Lib.hid y2; clear y1 y2 y3)
      | (go_at_call 39; refine (newView_any A n c es w1 (H.out.kept stay_en HB1.out) HN.out).mono ?_; rintro e w2 ⟨cv, rfl, x1, x2⟩; have HV2 := Lib.hid x1; have HI2 := Lib.hid (HI1.out.kept x2); have HB2 := Lib.hid (below_then HB1.out x2); obtain ⟨AA, nn, cc, bm, vs, f, ecv, z1, z2, _⟩ := x1; subst ecv; have HPV2 := Lib.hid z1; have HVS := Lib.hid z2; clear x2 z1 z2)
      | ((with_reducible show wpList _ _ _ (⟨some 8, _, _, _, _, _⟩ :: _) _ _); refine wpList_alloc _ rfl 84 rfl vwZ vwZero ?_; intro w3 a1 a2 a3; have HW3 := Lib.hid a1; have HX3 := Lib.hid a2; clear a1 a2 a3)
      | ((with_reducible show wpList _ _ _ (⟨none, _, _, _, _, _⟩ :: _) _ _); refine wpList_storev _ rfl 84 (.tmp 8) (.tmp 10) rfl 2 (by kernel_rfl) w2.heap.size 0 _ vwZ [.slice AA nn cc, .map (some bm)] rfl rfl HW3.out rfl (one_val _ rfl) (by decide) ?_; intro w4 a1 a2 a3; have b4 := low_kp HX3.out a2 (fun i hi e => by omega); have HW4 : Hid (BL w4 w2.heap.size 84 [.slice AA nn cc, .map (some bm)]) := Lib.hid a1; have q0 := HW4.out.get (j := 0) rfl; have HI4 := Lib.hid (HI2.out.kept b4); have HV4 := Lib.hid (HV2.out.kept b4); have HPV4 := Lib.hid (HPV2.out.kept b4); have HB4 := Lib.hid (below_then HB2.out b4); clear a1 a2 a3 b4)
      | ((with_reducible show wpList _ _ _ (⟨some 13, _, _, _, _, _⟩ :: _) _ _); refine wpList_loadv _ rfl 42 (.tmp 4) rfl 5 (by kernel_rfl) w.heap.size 0 _ rfl (BL.all HI4.out) rfl ?_)
      | (go_at_call 55; refine (cont_eq AA nn cc (ppL (dd es)) _ p w4 (by have h9 := (HPV4.out.lt (by have h8 := congrArg List.length HVS.out; rw [List.length_map] at h8; have := HLE.out; omega)).1; rwa [HVS.out] at h9) (stay_pp _ _ _ _ HP.out HB4.out)).mono ?_; rintro e w5 ⟨rfl, b5⟩; rw [hc]; have HB5 := Lib.hid (below_then HB4.out b5); have HW5 := Lib.hid (HW4.out.kept b5); have HI5 := Lib.hid (HI4.out.kept b5); have HV5 := Lib.hid (HV4.out.kept b5); clear b5)
      | ((with_reducible show wpList _ _ _ (⟨some 17, _, _, _, _, _⟩ :: _) _ _); refine wpList_loadv _ rfl 84 (.tmp 8) rfl 2 (by kernel_rfl) w2.heap.size 0 _ rfl (BL.all HW5.out) rfl ?_)
      | ((with_reducible show wpList _ _ _ (⟨some 18, _, _, _, _, _⟩ :: _) _ _); refine wpList_loadv _ rfl 42 (.tmp 4) rfl 5 (by kernel_rfl) w.heap.size 0 _ rfl (BL.all HI5.out) rfl ?_)
      | (go_at_call 47; refine (state_any _ (dd es) _ p A9 n9 c9 ex w5 HV5.out.m (stay_pp _ _ _ _ HP.out HB5.out) (valid_dev HV.out).1 (by have := (valid_dev HV.out).2.2; omega) (HEX.out.kept stay_int HB5.out)).mono ?_; rintro e w6 ⟨rfl, b6⟩; have HB6 := Lib.hid (below_then HB5.out b6); clear b6))
    go_ret2
    exact ⟨by rw [HR.out]; rfl, HB6.out⟩
end
end Go.Proofs.YtfonbliomokffaaGreat
