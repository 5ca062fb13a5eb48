/- Several texts in one: Wx, Yf, Yg. -/
import Derived.Test.YtboglaokdgnpaaaB6
import Derived.Test.YtboglaokdgnpaaaA14
import Derived.Test.YtboglaokdgnpaaaA25
import Derived.Test.YtboglaokdgnpaaaA26
import Derived.Test.YtboglaokdgnpaaaB5
import Derived.Test.YtboglaokdgnpaaaA27
/- The reference's Rewrites. -/
namespace Go.Proofs.Ytboglaokdgnpaaa
open Go Go.RowKit Gf Sha

/-- The refs that are not used yet. -/
def frL : List Rf → List Bool → List Rf
 | a :: l, b :: u => if b then frL l u else a :: frL l u
 | _, _ => []
theorem frL_start : ∀ l : List Rf, frL l (List.replicate l.length false) = l
 | [] => rfl
 | a :: l => by
  rw [List.length_cons, List.replicate_succ]
  show a :: frL l _ = _
  rw [frL_start l]
theorem frL_take : ∀ {l : List Rf} {u : List Bool} {i : Nat} {r : Rf}, l[i]? = some r → u[i]? = some false → (frL l u).Perm (r :: frL l (u.set i true))
 | a :: l, b :: u, 0, r, h1, h2 => by
  rw [List.getElem?_cons_zero] at h1 h2
  cases h1
  cases h2
  exact List.Perm.refl _
 | a :: l, b :: u, i + 1, r, h1, h2 => by
  have ih := frL_take (l := l) (u := u) (i := i) (r := r) (by simpa using h1) (by simpa using h2)
  rw [List.set_cons_succ]
  cases b with
  | true => exact ih
  | false => exact (List.Perm.cons a ih).trans (List.Perm.swap r a _)
 | [], _, _, _, h1, _ => by simp at h1
 | _ :: _, [], _, _, _, h2 => by simp at h2
theorem frL_none : ∀ {l : List Rf} {u : List Bool} {r : Rf}, (∀ j : Nat, u[j]? = some false → l[j]? ≠ some r) → ¬ r ∈ frL l u
 | [], _, _, _ => by simp [frL]
 | _ :: _, [], _, _ => by simp [frL]
 | a :: l, b :: u, r, h => by
  have ih := frL_none (l := l) (u := u) (r := r) (fun j hj => by have := h (j + 1) (by simpa using hj); simpa using this)
  cases b with
  | true => exact ih
  | false =>
   intro hm
   rcases List.mem_cons.1 (show r ∈ a :: frL l u from hm) with e | hm
   ·
    exact h 0 rfl (by rw [e]; rfl)
   ·
    exact ih hm
theorem frL_end {rs l : List Rf} {u : List Bool} (h : (frL rs u ++ l).Perm rs) (hl : rs.length = l.length) : rs.isPerm l = true := by
 have h1 := h.length_eq
 rw [List.length_append] at h1
 have h2 : frL rs u = [] := List.eq_nil_of_length_eq_zero (by omega)
 rw [h2, List.nil_append] at h
 exact List.isPerm_iff.2 h.symm
theorem frL_fail {rs l : List Rf} {u : List Bool} {k : Nat} {r : Rf} (h : (frL rs u ++ l.take k).Perm rs) (hk : l[k]? = some r) (hn : ¬ r ∈ frL rs u) : rs.isPerm l = false := by
 rw [Bool.eq_false_iff]
 intro he
 have hp := List.isPerm_iff.1 he
 have h1 : (l.take k ++ frL rs u).Perm (l.take k ++ l.drop k) := List.perm_append_comm.trans (h.trans (by rw [List.take_append_drop]; exact hp))
 have h2 := (List.perm_append_left_iff _).1 h1
 refine hn (h2.mem_iff.2 (List.mem_of_getElem? (i := 0) ?_))
 rw [List.getElem?_drop]; simpa using hk
theorem frL_next {rs l : List Rf} {u : List Bool} {k i : Nat} {r : Rf} (h : (frL rs u ++ l.take k).Perm rs) (hk : l[k]? = some r) (h1 : rs[i]? = some r) (h2 : u[i]? = some false) : (frL rs (u.set i true) ++ l.take (k + 1)).Perm rs := by
 rw [take_next hk]
 have h3 := frL_take h1 h2
 refine List.Perm.trans ?_ h
 refine List.Perm.trans ?_ (List.Perm.append_right _ h3.symm)
 rw [← List.append_assoc]
 exact (List.perm_append_singleton r _).trans (by rw [List.cons_append])
theorem perm_len {rs l : List Rf} (h : rs.length ≠ l.length) : rs.isPerm l = false := by
 rw [Bool.eq_false_iff]
 intro he
 exact h (List.isPerm_iff.1 he).length_eq
/-- Are made stripes those of a Rewrite? -/
def rwtB (y : Si) (s : Stp) (made : List Sp) : Bool := (made.all fun t => !(findS y t.id).isSome) && (okB spB spN made && (made.flatMap (·.refs)).isPerm s.refs)
theorem refsl_lim : ∀ (l : List Sp), (∀ s ∈ l, s.refs.length ≤ 10) → (l.flatMap (·.refs)).length ≤ 10 * l.length
 | [], _ => by simp
 | s :: l, h => by
  have h1 := refsl_lim l (fun t ht => h t (by simp [ht]))
  have h2 := h s (by simp)
  rw [List.flatMap_cons, List.length_append, List.length_cons]; omega
theorem flat_next {l : List Sp} {k : Nat} {t : Sp} (h : l[k]? = some t) : ((l.take (k + 1)).flatMap (·.refs)) = ((l.take k).flatMap (·.refs)) ++ t.refs := by
 rw [take_next h, List.flatMap_append]; simp
theorem infoBo : (Try.prog.info? 4).map (fun i => (i.zero, i.size, i.bytes)) = some (some (.bool false), 1, 1) := by kernel_rfl
/-- The place found so far. -/
def atI (rs : List Rf) (us : List Bool) (r : Rf) (i : Nat) (av : Int) : Prop := (av = -1 ∧ ∀ j, j < i → us[j]? = some false → rs[j]? ≠ some r) ∨ ∃ m : Nat, m < i ∧ av = (m : Int) ∧ us[m]? = some false ∧ rs[m]? = some r
set_option maxRecDepth 100000 in
set_option maxHeartbeats 8000000 in
theorem rewrites_any (cx : List Value) (y : Si) (w : World) (hx : rSi w cx y) (cs : List Value) (s : Stp) (hs : rStp w cs s) (B : Option Addr) (l d : Nat) (made : List Sp) (hm : LS rSp 6 72 w B l d made) (hl1 : l ≤ 1000) (hr10 : ∀ t ∈ made, t.refs.length ≤ 10) :
  Calls Try.prog 65 #[.agg cx.toArray, .agg cs.toArray, .slice B l d] w fun e w' => e = .returned (.bool (rwtB y s made)) ∧ Below w.heap.size w w' := by
 obtain ⟨a0, n0, c0, a1, n1, c1, a2, n2, c2, a3, n3, c3, a4, n4, c4, a5, n5, c5, rfl, hq⟩ := hx
 obtain ⟨A0, m0, k0, A1, m1, k1, rfl, _, h1, _⟩ := hs
 have HQ := Lib.hid hq
 have HM := Lib.hid hm
 have HML := Lib.hid hm.1
 have HSR := Lib.hid h1
 have HSL := Lib.hid h1.1
 have hn := hm.len_le
 have hn1 := h1.len_le
 have HL1 := Lib.hid hl1
 have HR10 := Lib.hid hr10
 clear hq hm h1 hl1 hr10
 go_enter Try.func65, Try.ntmps65
 go_wp2_with (first
  | ((with_reducible show OpW 3); refine wpList_box _ rfl 26 (.tmp 0) rfl (siC a0 n0 c0 a1 n1 c1 a2 n2 c2 a3 n3 c3 a4 n4 c4 a5 n5 c5 y.pct) rfl ?_; intro w1 y1 y2 y3; have HB1 := Lib.hid y2; have HS1 := Lib.hid y1; clear y1 y2 y3)
  | ((with_reducible show OpW 4); refine wpList_box _ rfl 42 (.tmp 1) rfl (stC s A0 m0 k0 A1 m1 k1) rfl ?_; intro w2 y1 y2 y3; have HT2 := Lib.hid y1; have HB2 := Lib.hid (below_then HB1.out y2); have HS2 := Lib.hid (HS1.out.kept y2); clear y1 y2 y3))
 go_loopw [7, 19] (fun v iv wr => ∃ k : Nat, k ≤ l ∧ iv = .int .i64 (k : Int) ∧ Hid (OL rRf 3 73 w2 wr v ((made.take k).flatMap (·.refs))) ∧ Hid (((made.take k).all fun t => !(findS y t.id).isSome) = true) ∧ Hid (Below w2.heap.size w2 wr)) (fun _ iv _ => l - (intOf iv).toNat)
 case atStart => exact ⟨0, by omega, rfl, Lib.hid (OL.nil _ _ _ _ _), Lib.hid rfl, Lib.hid (Below.refl _ _)⟩
 case round =>
  obtain ⟨k, hk, rfl, ho, hall, hb⟩ := hrel
  obtain ⟨wx, hwx⟩ : ∃ x, x = wr := ⟨_, rfl⟩
  rw [← hwx] at ho hb ⊢
  clear hwx
  have HBx := Lib.hid (below_thenB HB2.out HB2.out.size hb.out)
  have HSx := Lib.hid (HS2.out.kept hb.out)
  by_cases hlt : k < l
  ·
   obtain ⟨t, g, o, cst, hs, ea, hat, htp⟩ := HM.out.at_ stay_sp HB2.out hlt
   obtain ⟨A', m', c', rfl, hlr, _⟩ := htp
   have HLR := Lib.hid hlr
   have HMT : Hid (m' = t.refs.length) := Lib.hid hlr.1.symm
   have HX := Lib.hid hs
   have HA := Lib.hid (hat.kept hb.out)
   have HT10 : Hid (m' ≤ 10) := Lib.hid (by rw [HMT.out]; exact HR10.out t (List.mem_of_getElem? hs))
   subst ea
   clear hs hat hlr
   cases hf : (findS y t.id).isSome with
   | true =>
    have HR : Hid (rwtB y s made = false) := Lib.hid (by rw [rwtB, all_miss HX.out (by rw [hf]; rfl)]; rfl)
    go_wp2_with (first
     | ((with_reducible show OpW 22); refine wpList_loadv _ rfl 61 (.tmp 21) rfl 6 (by kernel_rfl) g (o + k * 6) (spC t A' m' c') (by go_simp) HA.out rfl ?_)
     | ((with_reducible show OpW 9); refine wpList_alloc _ rfl 61 rfl spZ spZero ?_; intro w3 a1 a2 a3; have HV3 := Lib.hid a1; have HX3 := Lib.hid a2; clear a1 a2 a3)
     | ((with_reducible show OpN); refine wpList_storev _ rfl 61 (.tmp 9) (.tmp 22) rfl 6 (by kernel_rfl) wx.heap.size 0 _ spZ (spC t A' m' c') rfl rfl HV3.out rfl (one_sp t A' m' c') (by decide) ?_; intro w4 a1 a2 a3; have HV4 : Hid (BL w4 wx.heap.size 61 (spC t A' m' c')) := Lib.hid a1; have HX4 : Hid (Below wx.heap.size wx w4) := Lib.hid (((Kp.of_below (S := fun _ => False) HX3.out).after a2 (fun i hi e => by omega)).below (Nat.le_refl _) (fun _ h => h.elim)); clear a1 a2 a3; have r0 := HV4.out.get (j := 0) rfl; have HS4 := Lib.hid (HSx.out.kept HX4.out); have HB4 := Lib.hid (below_thenB HBx.out HBx.out.size HX4.out))
     | ((with_reducible show OpW 24); refine wpList_loadv _ rfl 26 (.tmp 3) rfl 7 (by kernel_rfl) w.heap.size 0 _ rfl (BL.all HS4.out) rfl ?_)
     | (go_at_call 66; refine (find_any _ y t.id _ (show rSi w4 _ _ from ⟨_, _, _, _, _, _, _, _, _, _, _, _, _, _, _, _, _, _, rfl, HQ.out.kept HB4.out⟩)).mono ?_; rintro e w5 ⟨fs, rfl, hfs, bl5⟩; rw [hf]; obtain ⟨Af, mf, cf, rfl, _⟩ := hfs; have HX5 := Lib.hid (below_thenB HX4.out HX4.out.size bl5); have HV5 := Lib.hid (HV4.out.kept bl5); clear bl5)
     | ((with_reducible show OpW 10); refine wpList_alloc _ rfl 61 rfl spZ spZero ?_; intro w6 y1 y2 y3; have HV6 := Lib.hid (HV5.out.kept y2); have HF6 := Lib.hid y1; have HX6 := Lib.hid (below_thenB HX5.out HX5.out.size y2); clear y1 y2 y3)
     | ((with_reducible show OpN); refine wpList_storev _ rfl 61 (.tmp 10) (.tmp 28) rfl 6 (by kernel_rfl) w5.heap.size 0 _ spZ (spC ((findS y t.id).getD spE) Af mf cf) rfl rfl HF6.out rfl (one_sp _ Af mf cf) (by decide) ?_; intro w7 y1 y2 y3; have HX7 : Hid (Below wx.heap.size wx w7) := Lib.hid (((Kp.of_below (S := fun _ => False) HX6.out).after y2 (fun i hi e => by have := HX5.out.size; omega)).below (Nat.le_refl _) (fun _ h => h.elim)); have r5 := (y2.bl HV6.out (by have h1 := HV5.out.lt; omega)).get (j := 5) rfl; clear y1 y2 y3)
     )
    go_ret
    exact ⟨ret_bool HR.out.symm, below_thenB HBx.out HBx.out.size HX7.out⟩
   | false =>
    have HAL := Lib.hid (all_step HX.out hall.out (show (!(findS y t.id).isSome) = true by rw [hf]; rfl))
    have HNF0 : Hid (((made.take k).flatMap (·.refs)).length ≤ 10 * k) := Lib.hid (by
     have h9 := refsl_lim (made.take k) (fun t ht => HR10.out t (List.mem_of_mem_take ht))
     rw [List.length_take] at h9; omega)
    obtain ⟨nf, hnf⟩ : ∃ nf, ((made.take k).flatMap (·.refs)).length = nf := ⟨_, rfl⟩
    obtain ⟨css, hc1, hc2, hc3, hc4, hc5⟩ := ho.out
    rw [hnf] at hc4 HNF0
    have HN := Lib.hid hnf
    have HC1 := Lib.hid hc1
    have HC2 := Lib.hid hc2
    have HC3 := Lib.hid hc3
    have HC4 := Lib.hid hc4
    have HC5 := Lib.hid hc5
    clear hnf hc1 hc2 hc3 hc4 hc5
    obtain ⟨dss, k1', k2', k3', hsrc⟩ := HLR.out.src (P := Try.prog) len_rf ones_rf Try.underlying40
    have HD1 := Lib.hid k1'
    have HD2 := Lib.hid k2'
    have HD3 := Lib.hid k3'
    have HSRC := Lib.hid hsrc
    clear k1' k2' k3' hsrc
    go_wp2_with (first
     | ((with_reducible show OpW 22); refine wpList_loadv _ rfl 61 (.tmp 21) rfl 6 (by kernel_rfl) g (o + k * 6) (spC t A' m' c') (by go_simp) HA.out rfl ?_)
     | ((with_reducible show OpW 9); refine wpList_alloc _ rfl 61 rfl spZ spZero ?_; intro w3 a1 a2 a3; have HV3 := Lib.hid a1; have HX3 := Lib.hid a2; clear a1 a2 a3)
     | ((with_reducible show OpN); refine wpList_storev _ rfl 61 (.tmp 9) (.tmp 22) rfl 6 (by kernel_rfl) wx.heap.size 0 _ spZ (spC t A' m' c') rfl rfl HV3.out rfl (one_sp t A' m' c') (by decide) ?_; intro w4 a1 a2 a3; have HV4 : Hid (BL w4 wx.heap.size 61 (spC t A' m' c')) := Lib.hid a1; have HX4 : Hid (Below wx.heap.size wx w4) := Lib.hid (((Kp.of_below (S := fun _ => False) HX3.out).after a2 (fun i hi e => by omega)).below (Nat.le_refl _) (fun _ h => h.elim)); clear a1 a2 a3; have r0 := HV4.out.get (j := 0) rfl; have HS4 := Lib.hid (HSx.out.kept HX4.out); have HB4 := Lib.hid (below_thenB HBx.out HBx.out.size HX4.out))
     | ((with_reducible show OpW 24); refine wpList_loadv _ rfl 26 (.tmp 3) rfl 7 (by kernel_rfl) w.heap.size 0 _ rfl (BL.all HS4.out) rfl ?_)
     | (go_at_call 66; refine (find_any _ y t.id _ (show rSi w4 _ _ from ⟨_, _, _, _, _, _, _, _, _, _, _, _, _, _, _, _, _, _, rfl, HQ.out.kept HB4.out⟩)).mono ?_; rintro e w5 ⟨fs, rfl, hfs, bl5⟩; rw [hf]; obtain ⟨Af, mf, cf, rfl, _⟩ := hfs; have HX5 := Lib.hid (below_thenB HX4.out HX4.out.size bl5); have HV5 := Lib.hid (HV4.out.kept bl5); clear bl5)
     | ((with_reducible show OpW 10); refine wpList_alloc _ rfl 61 rfl spZ spZero ?_; intro w6 y1 y2 y3; have HV6 := Lib.hid (HV5.out.kept y2); have HF6 := Lib.hid y1; have HX6 := Lib.hid (below_thenB HX5.out HX5.out.size y2); clear y1 y2 y3)
     | ((with_reducible show OpN); refine wpList_storev _ rfl 61 (.tmp 10) (.tmp 28) rfl 6 (by kernel_rfl) w5.heap.size 0 _ spZ (spC ((findS y t.id).getD spE) Af mf cf) rfl rfl HF6.out rfl (one_sp _ Af mf cf) (by decide) ?_; intro w7 y1 y2 y3; have HX7 : Hid (Below wx.heap.size wx w7) := Lib.hid (((Kp.of_below (S := fun _ => False) HX6.out).after y2 (fun i hi e => by have := HX5.out.size; omega)).below (Nat.le_refl _) (fun _ h => h.elim)); have r5 := (y2.bl HV6.out (by have h1 := HV5.out.lt; omega)).get (j := 5) rfl; clear y1 y2 y3)
     | ((with_reducible show OpW 34); obtain ⟨iS, i1, i2, i3, i4⟩ := info_some infoRf; refine wpList_appX _ rfl (.tmp 31) (.tmp 33) 40 73 3 iS _ rfl Try.underlying40 i1 i2 i3 rfl _ nf _ rfl (HC4.out.kept HX7.out) _ m' _ rfl (HSRC.out _ (below_thenB hb.out hb.out.size HX7.out)) (by rw [i4]; have := HNF0.out; have := HT10.out; have := HL1.out; omega) (by have := HNF0.out; have := HT10.out; have := HL1.out; omega) ?_; intro v' w9 z1; have HR9 := Lib.hid z1; clear z1 i1 i2 i3 i4))
    have HO9 : Hid (OL rRf 3 73 w2 w9 v' ((made.take (k + 1)).flatMap (·.refs))) := Lib.hid (by
     rw [flat_next HX.out]
     exact OL.app HC1.out HC2.out HC3.out HC5.out HN.out HD1.out HD2.out HD3.out HMT.out.symm (by have := hb.out.size; have := HX7.out.size; omega) HR9.out)
    have HB9 : Hid (Below w2.heap.size w2 w9) := Lib.hid (((Kp.of_below (S := fun _ => False) (below_thenB hb.out hb.out.size HX7.out)).after HR9.out.kp (fun i hi e => by have := HC5.out i e; omega)).below (Nat.le_refl _) (fun _ h => h.elim))
    go_roundw
    case rel => exact ⟨k + 1, by omega, by go_num, HO9, HAL, HB9⟩
    case measure => simp [intOf]; omega
  ·
   obtain rfl : k = l := by omega
   have h9 := ho.out
   rw [take_end HML.out] at h9
   have hall9 := hall.out
   rw [take_end HML.out] at hall9
   have HALL := Lib.hid hall9
   have hlim := refsl_lim made HR10.out
   obtain ⟨rs, hrs⟩ : ∃ rs, rs = made.flatMap (·.refs) := ⟨_, rfl⟩
   have HRS := Lib.hid hrs
   rw [← hrs] at h9 hlim
   have HLIM : Hid (rs.length ≤ 10000) := Lib.hid (by have := HML.out; have := HL1.out; omega)
   obtain ⟨A7, c7, e7, l7⟩ := OL.ls (b := 32) (L := rs) h9 stay_rf hb.out (by have := HLIM.out; unfold lim; omega)
   subst e7
   obtain ⟨N, hN⟩ : ∃ N, N = rs.length := ⟨_, rfl⟩
   have HNN := Lib.hid hN
   rw [← hN] at l7 ⊢
   have HR7 := Lib.hid l7
   have HN10 : Hid (N ≤ 10000) := Lib.hid (by rw [hN]; exact HLIM.out)
   clear h9 hall9 hlim hrs l7 hN ho hall
   have q4 := (HT2.out.kept hb.out).get (j := 4) rfl
   cases hok : okB spB spN made with
   | false =>
    have HR : Hid (rwtB y s made = false) := Lib.hid (by rw [rwtB, hok]; simp)
    go_wp2_with (first
     | (go_at_call 41; refine (stripes_any _ _ _ made _ (HM.out.kept stay_sp HBx.out)).mono ?_; rintro e ws ⟨rfl, bl5⟩; rw [hok]; have HBs := Lib.hid (below_thenB HBx.out HBx.out.size bl5); clear bl5))
    go_ret
    exact ⟨ret_bool HR.out.symm, HBs.out⟩
   | true =>
    by_cases hne : N = m1
    ·
     subst hne
     have fne : ((N : Int) != (N : Int)) = false := by simp
     have HRR : Hid (rwtB y s made = rs.isPerm s.refs) := Lib.hid (by rw [rwtB, HALL.out, hok, HRS.out]; rfl)
     go_wp2_with (first
      | (go_at_call 41; refine (stripes_any _ _ _ made _ (HM.out.kept stay_sp HBx.out)).mono ?_; rintro e ws ⟨rfl, bl5⟩; rw [hok]; have HBs := Lib.hid (below_thenB HBx.out HBx.out.size bl5); have HTs := Lib.hid ((HT2.out.kept hb.out).kept bl5); have HRs := Lib.hid (HR7.out.kept stay_rf bl5); have q4 := HTs.out.get (j := 4) rfl; clear bl5)
      | ((with_reducible show OpW 49); refine wpList_mk _ rfl 128 4 _ _ rfl (.bool false) 1 Try.underlying128 infoBo rfl N N _ _ rfl rfl rfl rfl (by omega) (by have := HN10.out; omega) (by have := HN10.out; omega) ?_; intro wm y1 y2 y3; have HU0 := Lib.hid y1; have HBm := Lib.hid y2; have q4 := (HTs.out.kept y2).get (j := 4) rfl; clear y1 y2 y3))
     clear hok hb
     go_loopw [53] (fun iv wr => ∃ (k : Nat) (us : List Bool), k ≤ N ∧ iv = .int .i64 (k : Int) ∧ Hid (us.length = N) ∧ Hid (BL wr ws.heap.size 4 (us.map Value.bool)) ∧ Hid ((frL rs us ++ s.refs.take k).Perm rs) ∧ Hid (Below ws.heap.size ws wr)) (fun iv _ => N - (intOf iv).toNat)
     case atStart => exact ⟨0, List.replicate N false, by omega, rfl, Lib.hid (by simp), Lib.hid (by rw [List.map_replicate]; exact HU0.out), Lib.hid (by rw [HNN.out, frL_start]; simp), HBm⟩
     case round =>
      obtain ⟨k, us, hk, rfl, hul, hu, hpm, hb⟩ := hrel
      obtain ⟨wx, hwx⟩ : ∃ x, x = wr := ⟨_, rfl⟩
      rw [← hwx] at hu hb ⊢
      clear hwx
      by_cases hlt : k < N
      ·
       obtain ⟨r, g, o, csr, hs, ea, hat, rfl, _⟩ := HSR.out.at_ stay_rf (below_thenB HBs.out HBs.out.size hb.out) hlt
       have HX := Lib.hid hs
       have HA := Lib.hid hat
       subst ea
       clear hs hat
       go_wp2_with (first
        | ((with_reducible show OpW 56); refine wpList_loadv _ rfl 73 (.tmp 55) rfl 3 (by kernel_rfl) g (o + k * 3) (rfL r) (by go_simp) HA.out rfl ?_)
        | ((with_reducible show OpW 14); refine wpList_alloc _ rfl 73 rfl rfZ rfZero ?_; intro w3 a1 a2 a3; have HV3 := Lib.hid a1; have HX3 := Lib.hid a2; clear a1 a2 a3)
        | ((with_reducible show OpN); refine wpList_storev _ rfl 73 (.tmp 14) (.tmp 56) rfl 3 (by kernel_rfl) wx.heap.size 0 _ rfZ (rfL r) rfl rfl HV3.out rfl (one_rf r) (by decide) ?_; intro w4 a1 a2 a3; have HV4 : Hid (BL w4 wx.heap.size 73 (rfL r)) := Lib.hid a1; have HX4 : Hid (Below wx.heap.size wx w4) := Lib.hid (((Kp.of_below (S := fun _ => False) HX3.out).after a2 (fun i hi e => by omega)).below (Nat.le_refl _) (fun _ h => h.elim)); clear a1 a2 a3; have HU4 := Lib.hid (hu.out.kept HX4.out); have HB4 := Lib.hid (below_thenB hb.out hb.out.size HX4.out))
        | fail)
       go_loopw [15, 59] (fun ov iv wr => ∃ (i : Nat) (av : Int), i ≤ N ∧ ov = .int .i64 av ∧ iv = .int .i64 (i : Int) ∧ Hid (atI rs us r i av) ∧ Hid (Below w4.heap.size w4 wr)) (fun _ iv _ => N - (intOf iv).toNat)
       case atStart => exact ⟨0, -1, by omega, rfl, rfl, Lib.hid (.inl ⟨rfl, fun j hj => absurd hj (by omega)⟩), Lib.hid (Below.refl _ _)⟩
       case round =>
        obtain ⟨i, av, hi, rfl, rfl, hat, hbz⟩ := hrel
        obtain ⟨wz, hwz⟩ : ∃ x, x = wr := ⟨_, rfl⟩
        rw [← hwz] at hbz ⊢
        clear hwz
        by_cases hli : i < N
        ·
         rcases hat.out with ⟨hav, hno⟩ | ⟨m, hmi, hav, hm1, hm2⟩
         ·
          subst hav
          have HNO := Lib.hid hno
          obtain ⟨b, hub⟩ : ∃ b, us[i]? = some b := ⟨us[i]'(by rw [hul.out]; exact hli), List.getElem?_eq_getElem _⟩
          have HUB := Lib.hid hub
          have hcell : wz.cell? ⟨ws.heap.size, i, none⟩ = some (.bool b) := (HU4.out.kept hbz.out).get (by rw [List.getElem?_map, hub]; rfl)
          have HCE := Lib.hid hcell
          clear hno hub hcell hat
          cases b with
          | true =>
           go_wp2_with fail
           refine Text.wp_region_text (fun w' => w'.cell? ⟨ws.heap.size, i, none⟩ = some (.bool true)) [(0, 4), (1, 4), (2, 4), (3, 4), (4, 4), (5, 4), (6, 0), (7, 4), (8, 4), (9, 4), (10, 4), (11, 4), (12, 4), (13, 4), (14, 4), (15, 4), (16, 4)] (by kernel_rfl) (by kernel_rfl) (fun _ _ _ _ _ h => h) (HCE.out) ?_
           iterate 6 (refine Text.purek rfl rfl (fun K hK => ⟨_, fun w' => by go_simp <;> rfl, ?_⟩); go_simp; refine hK _ ?_; clear hK K)
           (refine Text.heldk rfl rfl (fun K hK => ⟨_, fun w' hw' => by go_simp <;> rfl, ?_⟩); go_simp; refine hK _ ?_; clear hK K)
           iterate 3 (refine Text.purek rfl rfl (fun K hK => ⟨_, fun w' => by go_simp <;> rfl, ?_⟩); go_simp; refine hK _ ?_; clear hK K)
           iterate 6 (refine Text.skipk (.inr (.inr rfl)) rfl rfl (fun K hK => ?_); go_simp; refine hK _ ?_; clear hK K)
           (refine Text.purek rfl rfl (fun K hK => ⟨_, fun w' => by go_simp <;> rfl, ?_⟩); go_simp; refine hK _ ?_; clear hK K)
           refine Text.done ?_
           go_wp2_with fail
           go_roundw
           case rel => exact ⟨i + 1, -1, by omega, rfl, by go_num, Lib.hid (.inl ⟨rfl, fun j hj h5 => if e : j < i then HNO.out j e h5 else (by rw [show j = i by omega, HUB.out] at h5; cases h5)⟩), Lib.hid (below_thenB hbz.out hbz.out.size (Below.refl _ _).drew)⟩
           case measure => simp [intOf]; omega
          | false =>
           obtain ⟨q, gq, oq, csq, hsq, eq', hatq, rfl, _⟩ := HRs.out.at_ stay_rf (below_thenB HB4.out HB4.out.size hbz.out) hli
           have HXq := Lib.hid hsq
           have HAq := Lib.hid hatq
           subst eq'
           clear hsq hatq
           by_cases he : q = r
           ·
            have er : ∀ w, (Op.equalIn 10000 73 (.agg (rfL q).toArray) (.agg (rfL r).toArray)).run Try.prog w = .ok true w := fun w => by rw [eqIn_rf, decide_eq_true he]
            have HE := Lib.hid he
            clear he
            go_wp2_with fail
            refine Text.wp_region_text (fun w' => Below wz.heap.size wz w' ∧ w'.cell? ⟨ws.heap.size, i, none⟩ = some (.bool false)) [(0, 4), (1, 4), (2, 4), (3, 4), (4, 4), (5, 4), (6, 0), (7, 4), (8, 4), (9, 4), (10, 4), (11, 4), (12, 4), (13, 0), (14, 0), (15, 4), (16, 4)] (by kernel_rfl) (by kernel_rfl) (fun _ _ _ _ _ h => h) (⟨(Below.refl _ _).drew, HCE.out⟩) ?_
            iterate 6 (refine Text.purek rfl rfl (fun K hK => ⟨_, fun w' => by go_simp <;> rfl, ?_⟩); go_simp; refine hK _ ?_; clear hK K)
            (refine Text.heldk rfl rfl (fun K hK => ⟨_, fun w' hw' => by go_simp <;> rfl, ?_⟩); go_simp; refine hK _ ?_; clear hK K)
            iterate 6 (refine Text.purek rfl rfl (fun K hK => ⟨_, fun w' => by go_simp <;> rfl, ?_⟩); go_simp; refine hK _ ?_; clear hK K)
            refine Text.heldk rfl rfl (fun K hK => ?_)
            refine ⟨_, fun w' hw' => exec_loadv 73 (.tmp 74) rfl 3 (by kernel_rfl) gq (oq + i * 3) (rfL q) (by go_simp) (HAq.out.kept hw'.1) rfl, ?_⟩
            go_simp
            refine hK _ ?_
            clear hK K
            refine Text.heldk rfl rfl (fun K hK => ?_)
            refine ⟨_, fun w' hw' => exec_loadv 73 (.tmp 14) rfl 3 (by kernel_rfl) wx.heap.size 0 (rfL r) rfl (BL.all ((HV4.out.kept hbz.out).kept hw'.1)) rfl, ?_⟩
            go_simp
            refine hK _ ?_
            clear hK K
            iterate 2 (refine Text.purek rfl rfl (fun K hK => ⟨_, fun w' => by go_simp <;> rfl, ?_⟩); go_simp; refine hK _ ?_; clear hK K)
            refine Text.done ?_
            go_wp2_with fail
            go_roundw
            case rel => exact ⟨i + 1, (i : Int), by omega, by go_num, by go_num, Lib.hid (.inr ⟨i, by omega, rfl, HUB.out, by rw [HXq.out, HE.out]⟩), Lib.hid (below_thenB hbz.out hbz.out.size (Below.refl _ _).drew)⟩
            case measure => simp [intOf]; omega
           ·
            have er : ∀ w, (Op.equalIn 10000 73 (.agg (rfL q).toArray) (.agg (rfL r).toArray)).run Try.prog w = .ok false w := fun w => by rw [eqIn_rf, decide_eq_false he]
            have HE := Lib.hid he
            clear he
            go_wp2_with fail
            refine Text.wp_region_text (fun w' => Below wz.heap.size wz w' ∧ w'.cell? ⟨ws.heap.size, i, none⟩ = some (.bool false)) [(0, 4), (1, 4), (2, 4), (3, 4), (4, 4), (5, 4), (6, 0), (7, 4), (8, 4), (9, 4), (10, 4), (11, 4), (12, 4), (13, 0), (14, 0), (15, 4), (16, 4)] (by kernel_rfl) (by kernel_rfl) (fun _ _ _ _ _ h => h) (⟨(Below.refl _ _).drew, HCE.out⟩) ?_
            iterate 6 (refine Text.purek rfl rfl (fun K hK => ⟨_, fun w' => by go_simp <;> rfl, ?_⟩); go_simp; refine hK _ ?_; clear hK K)
            (refine Text.heldk rfl rfl (fun K hK => ⟨_, fun w' hw' => by go_simp <;> rfl, ?_⟩); go_simp; refine hK _ ?_; clear hK K)
            iterate 6 (refine Text.purek rfl rfl (fun K hK => ⟨_, fun w' => by go_simp <;> rfl, ?_⟩); go_simp; refine hK _ ?_; clear hK K)
            refine Text.heldk rfl rfl (fun K hK => ?_)
            refine ⟨_, fun w' hw' => exec_loadv 73 (.tmp 74) rfl 3 (by kernel_rfl) gq (oq + i * 3) (rfL q) (by go_simp) (HAq.out.kept hw'.1) rfl, ?_⟩
            go_simp
            refine hK _ ?_
            clear hK K
            refine Text.heldk rfl rfl (fun K hK => ?_)
            refine ⟨_, fun w' hw' => exec_loadv 73 (.tmp 14) rfl 3 (by kernel_rfl) wx.heap.size 0 (rfL r) rfl (BL.all ((HV4.out.kept hbz.out).kept hw'.1)) rfl, ?_⟩
            go_simp
            refine hK _ ?_
            clear hK K
            iterate 2 (refine Text.purek rfl rfl (fun K hK => ⟨_, fun w' => by go_simp <;> rfl, ?_⟩); go_simp; refine hK _ ?_; clear hK K)
            refine Text.done ?_
            go_wp2_with fail
            go_roundw
            case rel => exact ⟨i + 1, -1, by omega, rfl, by go_num, Lib.hid (.inl ⟨rfl, fun j hj h5 h6 => if e : j < i then HNO.out j e h5 h6 else (by rw [show j = i by omega, HXq.out] at h6; exact HE.out (Option.some.inj h6))⟩), Lib.hid (below_thenB hbz.out hbz.out.size (Below.refl _ _).drew)⟩
            case measure => simp [intOf]; omega
         ·
          subst hav
          have fm : decide ((m : Int) < 0) = false := decide_eq_false (by omega)
          have HM1 := Lib.hid hm1
          have HM2 := Lib.hid hm2
          clear hat hm1 hm2
          go_wp2_with fail
          refine Text.wp_region_text (fun _ => True) [(0, 4), (1, 4), (2, 4), (3, 4), (4, 4), (5, 4), (6, 4), (7, 4), (8, 4), (9, 4), (10, 4), (11, 4), (12, 4), (13, 4), (14, 4), (15, 4), (16, 4)] (by kernel_rfl) (by kernel_rfl) (fun _ _ _ _ _ h => h) (trivial) ?_
          iterate 3 (refine Text.purek rfl rfl (fun K hK => ⟨_, fun w' => by go_simp <;> rfl, ?_⟩); go_simp; refine hK _ ?_; clear hK K)
          iterate 5 (refine Text.skipk (.inr (.inr rfl)) rfl rfl (fun K hK => ?_); go_simp; refine hK _ ?_; clear hK K)
          iterate 2 (refine Text.purek rfl rfl (fun K hK => ⟨_, fun w' => by go_simp <;> rfl, ?_⟩); go_simp; refine hK _ ?_; clear hK K)
          iterate 6 (refine Text.skipk (.inr (.inr rfl)) rfl rfl (fun K hK => ?_); go_simp; refine hK _ ?_; clear hK K)
          (refine Text.purek rfl rfl (fun K hK => ⟨_, fun w' => by go_simp <;> rfl, ?_⟩); go_simp; refine hK _ ?_; clear hK K)
          refine Text.done ?_
          go_wp2_with fail
          go_roundw
          case rel => exact ⟨i + 1, (m : Int), by omega, rfl, by go_num, Lib.hid (.inr ⟨m, by omega, rfl, HM1.out, HM2.out⟩), Lib.hid (below_thenB hbz.out hbz.out.size (Below.refl _ _).drew)⟩
          case measure => simp [intOf]; omega
        ·
         obtain rfl : i = N := by omega
         have HB5 := Lib.hid (below_thenB HB4.out HB4.out.size hbz.out)
         rcases hat.out with ⟨hav, hno⟩ | ⟨m, hmi, hav, hm1, hm2⟩
         ·
          subst hav
          have HR : Hid (rwtB y s made = false) := Lib.hid (by
           rw [HRR.out]
           exact frL_fail hpm.out HX.out (frL_none (fun j h5 => hno j (by have := (List.getElem?_eq_some_iff.1 h5).1; have := hul.out; omega) h5)))
          clear hno hat
          go_wp2_with fail
          go_ret
          exact ⟨ret_bool HR.out.symm, below_thenB HBs.out HBs.out.size HB5.out⟩
         ·
          subst hav
          have fm : decide ((m : Int) < 0) = false := decide_eq_false (by omega)
          have HPM := Lib.hid (frL_next hpm.out HX.out hm2 hm1)
          have HUZ := Lib.hid (HU4.out.kept hbz.out)
          clear hat hm1 hm2
          go_wp2_with (first
           | ((with_reducible show OpN); refine wpList_store1 _ rfl 4 (.tmp 85) (.const (.bool true)) rfl (slSz _ (by kernel_rfl) _) ws.heap.size m _ _ (.bool true) (by go_simp) rfl HUZ.out rfl rfl (by rw [List.length_map, hul.out]; exact hmi) ?_; intro wy y1 y2 y3; have HUY := Lib.hid y1; have HKY := Lib.hid y2; clear y1 y2 y3))
          have HBY : Hid (Below ws.heap.size ws wy) := Lib.hid (((Kp.of_below (S := fun _ => False) HB5.out).after HKY.out (fun i hi e => by omega)).below (Nat.le_refl _) (fun _ h => h.elim))
          go_roundw
          case rel => exact ⟨k + 1, us.set m true, by omega, by go_num, Lib.hid (by rw [List.length_set]; exact hul.out), Lib.hid (by rw [List.map_set]; exact HUY.out), HPM, HBY⟩
          case measure => simp [intOf]; omega
      ·
       obtain rfl : k = N := by omega
       have HR : Hid (rwtB y s made = true) := Lib.hid (by
        have h5 := hpm.out
        rw [take_end HSL.out] at h5
        rw [HRR.out]
        exact frL_end h5 (by rw [HSL.out]; exact HNN.out.symm))
       go_wp2_with fail
       go_ret
       exact ⟨ret_bool HR.out.symm, below_thenB HBs.out HBs.out.size hb.out⟩
    ·
     have fne : ((N : Int) != (m1 : Int)) = true := by simp; omega
     have HR : Hid (rwtB y s made = false) := Lib.hid (by rw [rwtB, ← HRS.out, perm_len (by rw [← HNN.out, HSL.out]; exact hne)]; simp)
     clear hne
     go_wp2_with (first
      | (go_at_call 41; refine (stripes_any _ _ _ made _ (HM.out.kept stay_sp HBx.out)).mono ?_; rintro e ws ⟨rfl, bl5⟩; rw [hok]; have HBs := Lib.hid (below_thenB HBx.out HBx.out.size bl5); have q4 := ((HT2.out.kept hb.out).kept bl5).get (j := 4) rfl; clear bl5))
     go_ret
     exact ⟨ret_bool HR.out.symm, HBs.out⟩
end Go.Proofs.Ytboglaokdgnpaaa
/- The reference's After: a rewriting. -/
namespace Go.Proofs.Ytboglaokdgnpaaa
open Go Go.RowKit Gf Sha

set_option maxRecDepth 100000 in
set_option maxHeartbeats 4000000 in
theorem rafter1_no (cx : List Value) (y : Si) (w : World) (hx : rSi w cx y) (cs : List Value) (s : Stp) (hs : rStp w cs s) (B : Option Addr) (l d : Nat) (made : List Sp) (hm : LS rSp 6 72 w B l d made) (hl1 : l ≤ 1000) (hr10 : ∀ t ∈ made, t.refs.length ≤ 10) (hk : s.kind = 1) (h1 : rwtB y s made = false) :
  Calls Try.prog 22 #[.agg cx.toArray, .agg cs.toArray, .slice B l d] w (AfterR siE 1 w) := by
 have HSTP := Lib.hid hs
 obtain ⟨a0, n0, c0, a1, n1, c1, a2, n2, c2, a3, n3, c3, a4, n4, c4, a5, n5, c5, rfl, hq⟩ := hx
 obtain ⟨B0, p0, d0, B1, p1, d1, rfl, _⟩ := hs
 have HQ := Lib.hid hq
 have HM := Lib.hid hm
 have HL1K := Lib.hid hl1
 have HR10 := Lib.hid hr10
 have f1 : decide (s.kind < 1) = false := by rw [hk]; rfl
 have f2 : decide (4 < s.kind) = false := by rw [hk]; rfl
 have f3 : (s.kind != 1) = false := by rw [hk]; rfl
 have f4 : (s.kind == 3) = false := by rw [hk]; rfl
 have f6 : (s.kind == 1) = true := by rw [hk]; rfl
 clear hq hm hl1 hr10 hk
 go_enter Try.func22, Try.ntmps22
 go_wp2_with (first
  | ((with_reducible show OpW 3); refine wpList_box _ rfl 26 (.tmp 0) rfl (siC a0 n0 c0 a1 n1 c1 a2 n2 c2 a3 n3 c3 a4 n4 c4 a5 n5 c5 y.pct) rfl ?_; intro w1 y1 y2 y3; have HB1 := Lib.hid y2; have HS1 := Lib.hid y1; clear y1 y2 y3)
  | ((with_reducible show OpW 4); refine wpList_box _ rfl 42 (.tmp 1) rfl (stC s B0 p0 d0 B1 p1 d1) rfl ?_; intro w2 y1 y2 y3; have HT2 := Lib.hid y1; have HB2 := Lib.hid (below_then HB1.out y2); have HS2 := Lib.hid (HS1.out.kept y2); clear y1 y2 y3)
  | ((with_reducible show OpW 6); refine wpList_alloc _ rfl 26 rfl siZ siqZero ?_; intro w3 y1 y2 y3; have HR3 := Lib.hid y1; have HB3 := Lib.hid (below_then HB2.out y2); have HS3 := Lib.hid (HS2.out.kept y2); have HT3 := Lib.hid (HT2.out.kept y2); have HG := Lib.hid HB2.out.size; have HL1 := Lib.hid HS1.out.lt; have HL2 := Lib.hid HT2.out.lt; have t0 := (HT2.out.kept y2).get (j := 0) rfl; have t1 := (HT2.out.kept y2).get (j := 1) rfl; clear y1 y2 y3)
  | ((with_reducible show OpW 70); refine wpList_loadv _ rfl 26 (.tmp 3) rfl 7 (by kernel_rfl) w.heap.size 0 _ rfl (BL.all HS3.out) rfl ?_)
  | ((with_reducible show OpW 71); refine wpList_loadv _ rfl 42 (.tmp 4) rfl 5 (by kernel_rfl) w1.heap.size 0 (stC s B0 p0 d0 B1 p1 d1) rfl (BL.all HT3.out) rfl ?_)
  | (go_at_call 65; refine (rewrites_any _ y w3 (show rSi w3 _ _ from ⟨a0, n0, c0, a1, n1, c1, a2, n2, c2, a3, n3, c3, a4, n4, c4, a5, n5, c5, rfl, HQ.out.kept HB3.out⟩) _ s (stay_stp _ _ _ _ HSTP.out HB3.out) _ _ _ made (HM.out.kept stay_sp HB3.out) HL1K.out HR10.out).mono ?_; rintro e wh ⟨rfl, bl⟩; rw [h1]; have HBh := Lib.hid (below_thenB HB3.out HB3.out.size bl); have HRh := Lib.hid (HR3.out.kept bl); have HSh := Lib.hid (HS3.out.kept bl); clear bl)
  | ((with_reducible show OpW 75); refine wpList_build _ rfl 26 #[] rfl #[] (by rfl) (.agg siZ.toArray) (bldSiq0 _) ?_)
  | ((with_reducible show OpN); refine wpList_storev _ rfl 26 (.tmp 6) (.tmp 75) rfl 7 (by kernel_rfl) w2.heap.size 0 _ siZ siZ rfl rfl HRh.out rfl one_siZ (by decide) ?_; intro w9 y1 y2 y3; have HT9 : Hid (BL w9 w2.heap.size 26 siZ) := Lib.hid y1; have HK9 := Lib.hid y2; clear y1 y2 y3)
  | fail)
 (try simp only [Exit.inBlock, Exit.then])
 exact bodyPost_ret (results_at2 w9 Try.results22 (n := 7) (by kernel_rfl) (g := w2.heap.size) (o := 0) rfl (ms := siZ) (BL.all HT9.out) rfl) rfl ⟨_, rfl, rSi_zero _, ((Kp.of_below (S := fun _ => False) HBh.out).after HK9.out (fun i hi e => by have := HG.out; omega)).below (Nat.le_refl _) (fun _ h => h.elim)⟩
set_option maxRecDepth 100000 in
set_option maxHeartbeats 4000000 in
theorem rafter1 (cx : List Value) (y : Si) (w : World) (hx : rSi w cx y) (hbig : y.sp.length ≤ 1000) (cs : List Value) (s : Stp) (hs : rStp w cs s) (B : Option Addr) (l d : Nat) (made : List Sp) (hm : LS rSp 6 72 w B l d made) (hl1 : l ≤ 1000) (hr10 : ∀ t ∈ made, t.refs.length ≤ 10) (hk : s.kind = 1) (h1 : rwtB y s made = true) :
  Calls Try.prog 22 #[.agg cx.toArray, .agg cs.toArray, .slice B l d] w (AfterR { y with sp := y.sp ++ made } 0 w) := by
 have HSTP := Lib.hid hs
 obtain ⟨a0, n0, c0, a1, n1, c1, a2, n2, c2, a3, n3, c3, a4, n4, c4, a5, n5, c5, rfl, hq⟩ := hx
 obtain ⟨B0, p0, d0, B1, p1, d1, rfl, _⟩ := hs
 have HQ := Lib.hid hq
 have HM := Lib.hid hm
 have HL1K := Lib.hid hl1
 have HR10 := Lib.hid hr10
 have HNS := Lib.hid hq.sp.1
 have HNM := Lib.hid hm.1
 have HBG : Hid (n0 ≤ 1000) := Lib.hid (by rw [← hq.sp.1]; exact hbig)
 obtain ⟨css, j1, j2, j3, hsrc⟩ := hq.sp.src (P := Try.prog) len_sp ones_sp Try.underlying22
 obtain ⟨dss, k1, k2, k3, hsrc2⟩ := hm.src (P := Try.prog) len_sp ones_sp Try.underlying22
 have HJ1 := Lib.hid j1
 have HJ2 := Lib.hid j2
 have HJ3 := Lib.hid j3
 have HK1 := Lib.hid k1
 have HK2 := Lib.hid k2
 have HK3 := Lib.hid k3
 have HSRC := Lib.hid hsrc
 have HSRC2 := Lib.hid hsrc2
 have f1 : decide (s.kind < 1) = false := by rw [hk]; rfl
 have f2 : decide (4 < s.kind) = false := by rw [hk]; rfl
 have f3 : (s.kind != 1) = false := by rw [hk]; rfl
 have f4 : (s.kind == 3) = false := by rw [hk]; rfl
 have f6 : (s.kind == 1) = true := by rw [hk]; rfl
 clear hq hm hl1 hr10 hk hbig j1 j2 j3 k1 k2 k3 hsrc hsrc2
 go_enter Try.func22, Try.ntmps22
 go_wp2_with (first
  | ((with_reducible show OpW 3); refine wpList_box _ rfl 26 (.tmp 0) rfl (siC a0 n0 c0 a1 n1 c1 a2 n2 c2 a3 n3 c3 a4 n4 c4 a5 n5 c5 y.pct) rfl ?_; intro w1 y1 y2 y3; have HB1 := Lib.hid y2; have HS1 := Lib.hid y1; clear y1 y2 y3)
  | ((with_reducible show OpW 4); refine wpList_box _ rfl 42 (.tmp 1) rfl (stC s B0 p0 d0 B1 p1 d1) rfl ?_; intro w2 y1 y2 y3; have HT2 := Lib.hid y1; have HB2 := Lib.hid (below_then HB1.out y2); have HS2 := Lib.hid (HS1.out.kept y2); clear y1 y2 y3)
  | ((with_reducible show OpW 6); refine wpList_alloc _ rfl 26 rfl siZ siqZero ?_; intro w3 y1 y2 y3; have HR3 := Lib.hid y1; have HB3 := Lib.hid (below_then HB2.out y2); have HS3 := Lib.hid (HS2.out.kept y2); have HT3 := Lib.hid (HT2.out.kept y2); have HG := Lib.hid HB2.out.size; have HL1 := Lib.hid HS1.out.lt; have HL2 := Lib.hid HT2.out.lt; have t0 := (HT2.out.kept y2).get (j := 0) rfl; have t1 := (HT2.out.kept y2).get (j := 1) rfl; clear y1 y2 y3)
  | ((with_reducible show OpW 70); refine wpList_loadv _ rfl 26 (.tmp 3) rfl 7 (by kernel_rfl) w.heap.size 0 _ rfl (BL.all HS3.out) rfl ?_)
  | ((with_reducible show OpW 71); refine wpList_loadv _ rfl 42 (.tmp 4) rfl 5 (by kernel_rfl) w1.heap.size 0 (stC s B0 p0 d0 B1 p1 d1) rfl (BL.all HT3.out) rfl ?_)
  | (go_at_call 65; refine (rewrites_any _ y w3 (show rSi w3 _ _ from ⟨a0, n0, c0, a1, n1, c1, a2, n2, c2, a3, n3, c3, a4, n4, c4, a5, n5, c5, rfl, HQ.out.kept HB3.out⟩) _ s (stay_stp _ _ _ _ HSTP.out HB3.out) _ _ _ made (HM.out.kept stay_sp HB3.out) HL1K.out HR10.out).mono ?_; rintro e wh ⟨rfl, bl⟩; rw [h1]; have HBh := Lib.hid (below_thenB HB3.out HB3.out.size bl); have HRh := Lib.hid (HR3.out.kept bl); have HSh := Lib.hid (HS3.out.kept bl); clear bl)
  | ((with_reducible show OpW 76); refine wpList_bslice _ rfl 22 61 0 _ rfl #[] (by rw [List.map_toArray]; rfl) [] (bsl0_sp _) ?_; intro w4 y1 y2 y3; have HG4 := Lib.hid y1; have HB4 := Lib.hid (below_thenB HBh.out HBh.out.size y2); have HX4 := Lib.hid y2; have s0 := (HSh.out.kept y2).get (j := 0) rfl; clear y1 y2 y3)
  | ((with_reducible show OpW 79); obtain ⟨iS, i1, i2, i3, i4⟩ := info_some infoSp; refine wpList_appX _ rfl (.tmp 76) (.tmp 78) 22 61 6 iS _ rfl Try.underlying22 i1 i2 i3 rfl _ 0 [] rfl (RW.of_blk (n := 0) HG4.out (by simp) (by decide)) _ n0 _ rfl (HSRC.out _ HB4.out) (by rw [i4]; have := HBG.out; omega) (by have := HBG.out; omega) ?_; intro v5 w5 ap; have HX5 : Hid (Below wh.heap.size wh w5) := Lib.hid (((Kp.of_below (S := fun _ => False) HX4.out).after ap.kp (fun i hi e => by have e' : wh.heap.size = i := Option.some.inj e; omega)).below (Nat.le_refl _) (fun _ h => h.elim)); have ho5 : OL rSp 6 61 w w5 v5 ([] ++ y.sp) := OL.app (css := []) rfl (fun _ h => by cases h) (fun _ h => absurd h (by simp)) (fun b hb => by cases hb; exact HBh.out.size) rfl HJ1.out HJ2.out HJ3.out HNS.out HB4.out.size ap; obtain ⟨css5, g1, g2, g3, g4, g5⟩ := ho5; have HC1 := Lib.hid g1; have HC2 := Lib.hid g2; have HC3 := Lib.hid g3; have HC4 := Lib.hid (show RW w5 61 6 v5 n0 css5.flatten by rw [← HNS.out]; exact g4); have HC5 := Lib.hid g5; clear ap i1 i2 i3 i4 g1 g2 g3 g4 g5)
  | ((with_reducible show OpW 81); obtain ⟨iS, i1, i2, i3, i4⟩ := info_some infoSp; refine wpList_appX _ rfl (.tmp 79) (.tmp 80) 22 61 6 iS _ rfl Try.underlying22 i1 i2 i3 rfl _ n0 _ rfl HC4.out _ l _ rfl (HSRC2.out _ (below_thenB HBh.out HBh.out.size HX5.out)) (by rw [i4]; have := HBG.out; have := HL1K.out; omega) (by have := HBG.out; have := HL1K.out; omega) ?_; intro v6 w6 ap; have HB6 : Hid (Below w.heap.size w w6) := Lib.hid (((Kp.of_below (S := fun _ => False) (below_thenB HBh.out HBh.out.size HX5.out)).after ap.kp (fun i hi e => by have := HC5.out i e; omega)).below (Nat.le_refl _) (fun _ h => h.elim)); have HS6 := Lib.hid (ap.kp.bl (HSh.out.kept HX5.out) (fun e => HC4.out.ne_bl (HSh.out.kept HX5.out) (by decide) _ e rfl)); have HR6 := Lib.hid (ap.kp.bl (HRh.out.kept HX5.out) (fun e => HC4.out.ne_bl (HRh.out.kept HX5.out) (by decide) _ e rfl)); have ho6 : OL rSp 6 61 w w6 v6 (([] ++ y.sp) ++ made) := OL.app HC1.out HC2.out HC3.out HC5.out HNS.out HK1.out HK2.out HK3.out HNM.out (by have := HBh.out.size; have := HX5.out.size; omega) ap; rw [List.nil_append] at ho6; obtain ⟨A6, c6, e6, l6⟩ := OL.ls (b := 72) (L := y.sp ++ made) ho6 stay_sp HB6.out (by rw [List.length_append, HNS.out, HNM.out]; have := HBG.out; have := HL1K.out; unfold lim; omega); subst e6; have HL6 := Lib.hid l6; obtain ⟨n6, hn6⟩ : ∃ n6, n6 = (y.sp ++ made).length := ⟨_, rfl⟩; rw [← hn6] at HL6 ⊢; clear ap i1 i2 i3 i4 ho6 l6 hn6)
  | ((with_reducible show OpN); refine wpList_store1 _ rfl 22 (.tmp 82) (.tmp 81) rfl (slSz _ (by kernel_rfl) _) w.heap.size 0 _ _ (.slice A6 n6 c6) rfl rfl HS6.out rfl rfl (by simp) ?_; intro w7 y1 y2 y3; have HS7 : Hid (BL w7 w.heap.size 26 (siC A6 n6 c6 a1 n1 c1 a2 n2 c2 a3 n3 c3 a4 n4 c4 a5 n5 c5 y.pct)) := Lib.hid y1; have HK7 := Lib.hid y2; clear y1 y2 y3)
  | ((with_reducible show OpW 83); have HR7 := Lib.hid (HK7.out.bl HR6.out (fun e => by have := HL1.out; have := HL2.out; omega)); refine wpList_loadv _ rfl 26 (.tmp 3) rfl 7 (by kernel_rfl) w.heap.size 0 _ rfl (BL.all HS7.out) rfl ?_)
  | ((with_reducible show OpN); refine wpList_storev _ rfl 26 (.tmp 6) (.tmp 83) rfl 7 (by kernel_rfl) w2.heap.size 0 _ siZ (siC A6 n6 c6 a1 n1 c1 a2 n2 c2 a3 n3 c3 a4 n4 c4 a5 n5 c5 y.pct) rfl rfl HR7.out rfl (one_val _ rfl) (by decide) ?_; intro w8 y1 y2 y3; have HT8 : Hid (BL w8 w2.heap.size 26 (siC A6 n6 c6 a1 n1 c1 a2 n2 c2 a3 n3 c3 a4 n4 c4 a5 n5 c5 y.pct)) := Lib.hid y1; have HK8 := Lib.hid y2; clear y1 y2 y3))
 (try simp only [Exit.inBlock, Exit.then])
 have HQx := HQ.out.kept HB6.out
 have h5 : SiOk w6 A6 n6 c6 a1 n1 c1 a2 n2 c2 a3 n3 c3 a4 n4 c4 a5 n5 c5 { y with sp := y.sp ++ made } := ⟨HL6.out, HQx.need, HQx.cond, HQx.drop, HQx.carr, HQx.held, HQx.pct⟩
 have h7 := (h5.put HK7.out HS6.out).put HK8.out HR7.out
 exact bodyPost_ret (results_at2 w8 Try.results22 (n := 7) (by kernel_rfl) (g := w2.heap.size) (o := 0) rfl (ms := siC A6 n6 c6 a1 n1 c1 a2 n2 c2 a3 n3 c3 a4 n4 c4 a5 n5 c5 y.pct) (BL.all HT8.out) rfl) rfl ⟨_, rfl, ⟨_, _, _, _, _, _, _, _, _, _, _, _, _, _, _, _, _, _, rfl, h7⟩, (((Kp.of_below (S := fun _ => False) HB6.out).after HK7.out (fun i hi e => by omega)).after HK8.out (fun i hi e => by have := HG.out; omega)).below (Nat.le_refl _) (fun _ h => h.elim)⟩
end Go.Proofs.Ytboglaokdgnpaaa
/- After, program and reference: one law. -/
namespace Go.Proofs.Ytboglaokdgnpaaa
open Go Go.RowKit Gf Sha

/-- Is a step none, or are there stripes made for another step than a rewriting? -/
def badS (s : Stp) (made : List Sp) : Bool := (decide (s.kind < 1) || decide (4 < s.kind)) || ((s.kind != 1) && decide (0 < made.length))
def aftE (x : Si) (s : Stp) (made : List Sp) : Int := if badS s made = true then 1 else refE (st0 x) s made
def aftK (x : Si) (s : Stp) (made : List Sp) : Si := if s.kind = 3 then dropHeld x s.pc else if s.kind = 4 then forgetY x s.sts else if s.kind = 1 then { x with sp := x.sp ++ made } else condY x s.sts
def aftY (x : Si) (s : Stp) (made : List Sp) : Si := if badS s made = true then siE else if refE (st0 x) s made = 0 then aftK x s made else siE
theorem bad_yes {s : Stp} {made : List Sp} {l : Nat} (hl : made.length = l) (h : badS s made = true) : (decide (s.kind < 1) || decide (4 < s.kind)) = true ∨ (decide (s.kind < 1) = false ∧ decide (4 < s.kind) = false ∧ (s.kind != 1) = true ∧ decide (0 < l) = true) := by
 unfold badS at h
 rw [hl] at h
 cases f1 : decide (s.kind < 1) with
 | true => exact .inl rfl
 | false =>
  cases f2 : decide (4 < s.kind) with
  | true => exact .inl rfl
  | false =>
   rw [f1, f2] at h
   have h2 : ((s.kind != 1) && decide (0 < l)) = true := h
   rw [Bool.and_eq_true] at h2
   exact .inr ⟨rfl, rfl, h2.1, h2.2⟩
theorem bad_no {s : Stp} {made : List Sp} {l : Nat} (hl : made.length = l) (h : badS s made = false) : decide (s.kind < 1) = false ∧ decide (4 < s.kind) = false ∧ (s.kind = 3 ∨ s.kind = 4 ∨ s.kind = 1 ∨ s.kind = 2) ∧ (s.kind ≠ 1 → l = 0) := by
 unfold badS at h
 rw [hl] at h
 simp only [Bool.or_eq_false_iff] at h
 obtain ⟨⟨h1, h2⟩, h3⟩ := h
 have e1 := of_decide_eq_false h1
 have e2 := of_decide_eq_false h2
 refine ⟨h1, h2, by omega, fun hk => ?_⟩
 have hk' : (s.kind != 1) = true := by simpa using hk
 rw [hk', Bool.true_and] at h3
 have := of_decide_eq_false h3
 omega
theorem after_all (a0 : Option Addr) (n0 c0 : Nat) (a1 : Option Addr) (n1 c1 : Nat) (a2 : Option Addr) (n2 c2 : Nat) (a3 : Option Addr) (n3 c3 : Nat) (a4 : Option Addr) (n4 c4 : Nat) (a5 : Option Addr) (n5 c5 : Nat) (x : Si) (w : World) (hq : SiOk w a0 n0 c0 a1 n1 c1 a2 n2 c2 a3 n3 c3 a4 n4 c4 a5 n5 c5 x) (hbig : x.sp.length ≤ 1000) (hv : siB x = true) (s : Stp) (cs : List Value) (hs : rStp w cs s) (B : Option Addr) (l d : Nat) (made : List Sp) (hm : LS rSp 6 72 w B l d made) (hmb : l ≤ 1000) (hbd : x.cond.length + s.sts.length ≤ 100000) :
  Calls Try.prog 18 #[.agg (siC a0 n0 c0 a1 n1 c1 a2 n2 c2 a3 n3 c3 a4 n4 c4 a5 n5 c5 x.pct).toArray, .agg cs.toArray, .slice B l d] w (AfterR (aftY x s made) (aftE x s made) w) := by
 cases hb : badS s made with
 | true =>
  unfold aftY aftE
  rw [if_pos hb, if_pos hb]
  exact after_bad a0 n0 c0 a1 n1 c1 a2 n2 c2 a3 n3 c3 a4 n4 c4 a5 n5 c5 x w hq hbig hv s cs hs B l d (bad_yes hm.1 hb)
 | false =>
  obtain ⟨f1, f2, hk, hz⟩ := bad_no hm.1 hb
  unfold aftY aftE
  have hb9 : ¬ badS s made = true := by rw [hb]; simp
  rw [if_neg hb9, if_neg hb9]
  by_cases hr : refE (st0 x) s made = 0
  ·
   rw [if_pos hr, hr]
   unfold aftK
   rcases hk with h | h | h | h
   ·
    rw [if_pos h]; exact after3 a0 n0 c0 a1 n1 c1 a2 n2 c2 a3 n3 c3 a4 n4 c4 a5 n5 c5 x w hq hbig hv s cs hs B l d made hm h (hz (by omega)) hr
   ·
    rw [if_neg (by omega), if_pos h]; exact after4 a0 n0 c0 a1 n1 c1 a2 n2 c2 a3 n3 c3 a4 n4 c4 a5 n5 c5 x w hq hbig hv s cs hs B l d made hm h (hz (by omega)) hr
   ·
    rw [if_neg (by omega), if_neg (by omega), if_pos h]; exact after_rw a0 n0 c0 a1 n1 c1 a2 n2 c2 a3 n3 c3 a4 n4 c4 a5 n5 c5 x w hq hbig hv s cs hs B l d made hm hmb h hr
   ·
    rw [if_neg (by omega), if_neg (by omega), if_neg (by omega)]; exact after2 a0 n0 c0 a1 n1 c1 a2 n2 c2 a3 n3 c3 a4 n4 c4 a5 n5 c5 x w hq hbig hv s cs hs B l d made hm h (hz (by omega)) hr hbd
  ·
   rw [if_neg hr]
   refine after_err a0 n0 c0 a1 n1 c1 a2 n2 c2 a3 n3 c3 a4 n4 c4 a5 n5 c5 x w hq hbig hv s cs hs B l d made hm f1 f2 (fun hl => ?_) hr
   rcases Int.decEq s.kind 1 with h | h
   ·
    have := hz h; omega
   ·
    exact h
theorem ok_iff {p : Sp → Bool} {l : List Sp} : okB p spN l = true ↔ ∀ k t, l[k]? = some t → p t = true ∧ ((l.take k).any fun y => spN y == spN t) = false := by
 unfold okB
 rw [List.all_eq_true]
 constructor
 ·
  intro h k t ht
  have h1 := h k (List.mem_range.2 (List.getElem?_eq_some_iff.1 ht).1)
  unfold okAt at h1
  rw [ht] at h1
  simpa using h1
 ·
  intro h k hk
  have hk' := List.mem_range.1 hk
  have := h k _ (List.getElem?_eq_getElem hk')
  unfold okAt
  rw [List.getElem?_eq_getElem hk']
  simp only [this.1, this.2]
  rfl
theorem ok_and (p q : Sp → Bool) (l : List Sp) : okB (fun t => p t && q t) spN l = (l.all p && okB q spN l) := by
 rw [Bool.eq_iff_iff, Bool.and_eq_true, ok_iff, ok_iff, List.all_eq_true]
 constructor
 ·
  intro h
  refine ⟨fun t ht => ?_, fun k t ht => ?_⟩
  ·
   obtain ⟨k, hk⟩ := List.mem_iff_getElem?.1 ht
   exact (Bool.and_eq_true_iff.1 (h k t hk).1).1
  ·
   exact ⟨(Bool.and_eq_true_iff.1 (h k t ht).1).2, (h k t ht).2⟩
 ·
  rintro ⟨h1, h2⟩ k t ht
  exact ⟨Bool.and_eq_true_iff.2 ⟨h1 t (List.mem_of_getElem? ht), (h2 k t ht).1⟩, (h2 k t ht).2⟩
theorem perm_comm (a b : List Rf) : a.isPerm b = b.isPerm a := by
 rw [Bool.eq_iff_iff, List.isPerm_iff, List.isPerm_iff]
 exact ⟨List.Perm.symm, List.Perm.symm⟩
theorem fit_rwt (x : Si) (s : Stp) (made : List Sp) : fitB (st0 x) s.refs made = rwtB x s made := by
 have hr := Rel.start x
 have e : (fun t : Sp => ((st0 x).pl t.id).isNone && spB t) = fun t => (!(findS x t.id).isSome) && spB t := by
  funext t
  rw [hr.find t.id]
  cases (st0 x).pl t.id <;> rfl
 unfold fitB rwtB
 rw [e, ok_and, perm_comm, Bool.and_assoc]
theorem rafter_all (cx : List Value) (x : Si) (w : World) (hx : rSi w cx x) (hbig : x.sp.length ≤ 1000) (cs : List Value) (s : Stp) (hs : rStp w cs s) (B : Option Addr) (l d : Nat) (made : List Sp) (hm : LS rSp 6 72 w B l d made) (hl1 : l ≤ 1000) (hr10 : ∀ t ∈ made, t.refs.length ≤ 10) (hbd : x.cond.length + s.sts.length ≤ 100000) :
  Calls Try.prog 22 #[.agg cx.toArray, .agg cs.toArray, .slice B l d] w (AfterR (aftY x s made) (aftE x s made) w) := by
 have hr := Rel.start x
 cases hb : badS s made with
 | true =>
  unfold aftY aftE
  rw [if_pos hb, if_pos hb]
  exact rafter_bad cx x w hx cs s hs B l d (bad_yes hm.1 hb)
 | false =>
  obtain ⟨f1, f2, hk, hz⟩ := bad_no hm.1 hb
  unfold aftY aftE
  have hb9 : ¬ badS s made = true := by rw [hb]; simp
  rw [if_neg hb9, if_neg hb9]
  unfold aftK
  have e1 : (s.sts.all fun id => ((st0 x).pl id).isSome) = okAll x s := by
   unfold okAll
   congr 1
   funext id
   exact (hr.find id).symm
  have e2 : s.sts.all (st0 x).drop = okDrop x s := by
   exact congrArg _ (funext hr.drop)
  rcases hk with h | h | h | h
  ·
   have e : refE (st0 x) s made = if heldB x s.pc = true then 0 else 4 := by unfold refE; rw [if_pos h, hr.held]
   rw [e]
   cases h1 : heldB x s.pc with
   | true =>
    rw [if_pos rfl, if_pos rfl, if_pos h]
    exact rafter3 cx x w hx cs s hs B l d h (hz (by omega)) h1
   | false =>
    rw [if_neg (by simp), if_neg (by decide)]
    exact rafter3_no cx x w hx cs s hs B l d h (hz (by omega)) h1
  ·
   have e : refE (st0 x) s made = if okAll x s = true then (if okDrop x s = true then 0 else 6) else 4 := by unfold refE; rw [if_neg (by omega), if_neg (by omega), e1, if_pos h, e2]
   rw [e]
   cases h1 : okAll x s with
   | true =>
    cases h2 : okDrop x s with
    | true =>
     rw [if_pos rfl, if_pos rfl, if_pos rfl, if_neg (by omega), if_pos h]
     exact rafter4 cx x w hx cs s hs B l d h (hz (by omega)) h1 h2
    | false =>
     rw [if_pos rfl, if_neg (by simp), if_neg (by decide)]
     exact rafter4_st cx x w hx cs s hs B l d h (hz (by omega)) h1 h2
   | false =>
    rw [if_neg (by simp), if_neg (by decide)]
    exact rafter24_no cx x w hx cs s hs B l d (.inr h) (hz (by omega)) h1
  ·
   have e : refE (st0 x) s made = if rwtB x s made = true then 0 else 1 := by unfold refE; rw [if_neg (by omega), if_pos h, fit_rwt]
   rw [e]
   cases h1 : rwtB x s made with
   | true =>
    rw [if_pos rfl, if_pos rfl, if_neg (by omega), if_neg (by omega), if_pos h]
    exact rafter1 cx x w hx hbig cs s hs B l d made hm hl1 hr10 h h1
   | false =>
    rw [if_neg (by simp), if_neg (by decide)]
    exact rafter1_no cx x w hx cs s hs B l d made hm hl1 hr10 h h1
  ·
   have e : refE (st0 x) s made = if okAll x s = true then 0 else 4 := by unfold refE; rw [if_neg (by omega), if_neg (by omega), e1, if_neg (show ¬ s.kind = 4 by omega)]
   rw [e]
   cases h1 : okAll x s with
   | true =>
    rw [if_pos rfl, if_pos rfl, if_neg (by omega), if_neg (by omega), if_neg (by omega)]
    exact rafter2 cx x w hx cs s hs B l d h (hz (by omega)) h1 hbd
   | false =>
    rw [if_neg (by simp), if_neg (by decide)]
    exact rafter24_no cx x w hx cs s hs B l d (.inl h) (hz (by omega)) h1
end Go.Proofs.Ytboglaokdgnpaaa
