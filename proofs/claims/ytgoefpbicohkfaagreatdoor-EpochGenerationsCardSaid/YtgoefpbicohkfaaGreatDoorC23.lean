/- Several texts in one: Ep. -/
import Derived.Test.YtgoefpbicohkfaaGreatDoorC22
/- epoch.newView. -/
namespace Go.Proofs.YtgoefpbicohkfaaGreatDoor
open Go Go.RowKit Go.ChangeMaps Gf Sha

def leP (a b : Pp) : Bool := !ltP b a
/-- Proposals in order. -/
def sortP (l : List Pp) : List Pp := l.mergeSort leP
theorem leP_iff (p q : Pp) : leP p q = true ↔ p.dev < q.dev ∨ (p.dev = q.dev ∧ p.seq ≤ q.seq) := by
  rw [leP, Bool.not_eq_true', ← Bool.not_eq_true, ltP_iff]; omega
theorem leP_trans (a b c : Pp) (h1 : leP a b = true) (h2 : leP b c = true) : leP a c = true := by rw [leP_iff] at *; omega
theorem leP_total (a b : Pp) : (leP a b || leP b a) = true := by rw [Bool.or_eq_true, leP_iff, leP_iff]; omega
theorem sortP_perm (l : List Pp) : (sortP l).Perm l := List.mergeSort_perm l leP
theorem sortP_pw (l : List Pp) : (sortP l).Pairwise (fun a b => leP a b = true) := List.pairwise_mergeSort leP_trans leP_total l
/-- No two proposals have the same number. -/
def KeyI (l : List Pp) : Prop := ∀ p ∈ l, ∀ q ∈ l, p.dev = q.dev → p.seq = q.seq → p = q
theorem sort_one {l m : List Pp} (hk : KeyI l) (hp : m.Perm l) (hs : m.Pairwise (fun a b => leP a b = true)) : m = sortP l := by
  refine List.Perm.eq_of_pairwise (le := fun a b => leP a b = true) (fun a b ha hb h1 h2 => ?_) hs (sortP_pw l) (hp.trans (sortP_perm l).symm)
  rw [leP_iff] at h1 h2
  exact hk a (hp.mem_iff.1 ha) b ((sortP_perm l).mem_iff.1 hb) (by omega) (by omega)
theorem decM_key {x : En} {p : Pp} (h : decM x = some p) : p.dev = x.dev ∧ p.seq = x.seq ∧ validB p = true := by
  unfold decM at h
  split at h
  · split at h
    · rename_i h1
      cases h
      exact ⟨rfl, rfl, h1.2⟩
    · cases h
  · cases h
/-- Entries of different numbers. -/
def DistE (D : List En) : Prop := D.Pairwise fun x y => keyE x ≠ keyE y
theorem dd_dist (es : List En) : DistE (dd es) := by
  have h : ∀ (l D : List En), DistE D → DistE (l.foldl ddS D) := by
    intro l
    induction l with
    | nil => intro D h; exact h
    | cons x l ih =>
      intro D h
      refine ih _ ?_
      unfold ddS
      split
      · exact h
      · rename_i h1
        refine List.pairwise_append.2 ⟨h, List.pairwise_singleton _ _, fun a ha b hb => ?_⟩
        rw [List.mem_singleton] at hb
        subst hb
        intro e
        exact h1 (List.any_eq_true.2 ⟨a, ha, by simpa using e⟩)
  exact h es [] List.Pairwise.nil
theorem dist_inj {D : List En} (h : DistE D) {x y : En} (hx : x ∈ D) (hy : y ∈ D) (e : keyE x = keyE y) : x = y := by
  obtain ⟨i, hi⟩ := List.mem_iff_getElem?.1 hx
  obtain ⟨j, hj⟩ := List.mem_iff_getElem?.1 hy
  obtain ⟨hi1, hi2⟩ := List.getElem?_eq_some_iff.1 hi
  obtain ⟨hj1, hj2⟩ := List.getElem?_eq_some_iff.1 hj
  have hp := List.pairwise_iff_getElem.1 h
  rcases Nat.lt_trichotomy i j with h1 | rfl | h1
  · exact absurd (by rw [hi2, hj2]; exact e) (hp i j hi1 hj1 h1)
  · rw [← hi2, ← hj2]
  · exact absurd (by rw [hi2, hj2]; exact e.symm) (hp j i hj1 hi1 h1)
theorem pps_keyI {D : List En} (h : DistE D) : KeyI (pps D) := by
  intro p hp q hq h1 h2
  obtain ⟨x, hx, ex⟩ := List.mem_filterMap.1 hp
  obtain ⟨y, hy, ey⟩ := List.mem_filterMap.1 hq
  obtain ⟨a1, a2, _⟩ := decM_key ex
  obtain ⟨b1, b2, _⟩ := decM_key ey
  have := dist_inj h hx hy (by rw [keyE, keyE, ← a1, ← a2, ← b1, ← b2, h1, h2])
  subst this
  rw [ex] at ey
  cases ey
  rfl
/-- The proposals of a view. -/
def ppL (D : List En) : List Pp := sortP (pps D)
/-- A view in memory. -/
def View (w : World) (cs : List Value) (D : List En) : Prop :=
  ∃ A n c bm vs f, cs = [.slice A n c, .map (some bm)] ∧ PvL w (.slice A n c) vs ∧ vs.map (·.p) = ppL D ∧ MF Tryz.prog 87 ansV w bm f ∧ RepF f D
theorem View.kept {w w' : World} {cs : List Value} {D : List En} (h : View w cs D) (hb : Below w.heap.size w w') : View w' cs D :=
  let ⟨A, n, c, bm, vs, f, e, h1, h2, h3, h4⟩ := h; ⟨A, n, c, bm, vs, f, e, h1.kept hb, h2, h3.kept hb, h4⟩
def vwZ : List Value := [.slice none 0 0, .map none]
theorem vwZero : (Tryz.prog.info? 60).map (·.zero) = some (some (.agg vwZ.toArray)) := by kernel_rfl
theorem numZero : (Tryz.prog.info? 82).map (·.zero) = some (some (.agg [Value.int .i64 0, .int .i64 0].toArray)) := by kernel_rfl
theorem ansZero : (Tryz.prog.info? 87).map (·.zero) = some (some (.agg [Value.int .i64 0, .string (strB [])].toArray)) := by kernel_rfl
theorem bldVw (w : World) (b : Nat) : (Instr.build 60 #[(1, .map (some b))]).run Tryz.prog w = .ok (.agg [.slice none 0 0, .map (some b)].toArray) w := by kernel_rfl
theorem bldNum (w : World) (i j : Int) : (Instr.build 82 #[(0, .int .i64 i), (1, .int .i64 j)]).run Tryz.prog w = .ok (.agg [.int .i64 i, .int .i64 j].toArray) w := by kernel_rfl
theorem bldAns (w : World) (i : Int) (s : ByteArray) : (Instr.build 87 #[(0, .int .i64 i), (1, .string s)]).run Tryz.prog w = .ok (.agg [.int .i64 i, .string s].toArray) w := by kernel_rfl
theorem bslPp (x : PpV) (w : World) : (Instr.buildSlice 43 1 #[(0, .agg (pvC x).toArray)]).run Tryz.prog w = .ok (.slice (some ⟨w.heap.size, 0, none⟩) 1 1) (w.alloc (.cells (pvC x).toArray 34)) := by kernel_rfl
def ViewR (es : List En) (w : World) (e : Ending) (w' : World) : Prop := ∃ cs, e = .returned (.agg cs.toArray) ∧ View w' cs (dd es) ∧ Below w.heap.size w w'
theorem pps_none {D : List En} {x : En} (h : decM x = none) : pps (D ++ [x]) = pps D := by rw [pps_snoc, h]; exact List.append_nil _
theorem pps_some {D : List En} {x : En} {p : Pp} (h : decM x = some p) : pps (D ++ [x]) = pps D ++ [p] := by rw [pps_snoc, h]
set_option maxRecDepth 100000 in
set_option maxHeartbeats 8000000 in
theorem newView_any (A : Option Addr) (n c : Nat) (es : List En) (w : World) (h : LS rEn 6 72 w A n c es) (hn : n ≤ 2000) :
    Calls Tryz.prog 25 #[.slice A n c] w (ViewR es w) := by
  have H := Lib.hid h
  have HL := Lib.hid h.1
  clear h
  go_enter Tryz.func25, Tryz.ntmps25
  go_wp2_with (first
    | ((with_reducible show wpList _ _ _ (⟨some 2, _, _, _, _, _⟩ :: _) _ _); refine wpList_alloc _ rfl 60 rfl vwZ vwZero ?_; intro w1 a1 a2 a3; have HR1 := Lib.hid a1; have HB1 := Lib.hid a2; clear a1 a2 a3)
    | ((with_reducible show wpList _ _ _ (⟨some 13, _, _, _, _, _⟩ :: _) _ _); refine wpList_makeF (enc := ansV) _ rfl 58 87 rfl ?_; intro w2 a1 a2 a3; have HM2 := Lib.hid a1; have HB2 := Lib.hid a2; clear a1 a2 a3)
    | ((with_reducible show wpList _ _ _ (⟨some 14, _, _, _, _, _⟩ :: _) _ _); refine wpList_build _ rfl 60 _ rfl #[(1, .map (some w1.heap.size))] (by rw [List.map_toArray]; rfl) _ (bldVw _ _) ?_)
    | ((with_reducible show wpList _ _ _ (⟨some 3, _, _, _, _, _⟩ :: _) _ _); refine wpList_alloc _ rfl 60 rfl vwZ vwZero ?_; intro w3 a1 a2 a3; have HV3 := Lib.hid a1; have HX3 := Lib.hid a2; clear a1 a2 a3)
    | ((with_reducible show wpList _ _ _ (⟨none, _, _, _, _, _⟩ :: _) _ _); refine wpList_storev _ rfl 60 (.tmp 3) (.tmp 14) rfl 2 (by kernel_rfl) w2.heap.size 0 _ vwZ [.slice none 0 0, .map (some w1.heap.size)] rfl rfl HV3.out rfl (one_val _ rfl) (by decide) ?_; intro w4 a1 a2 a3; have b4 := low_kp HX3.out a2 (fun i hi e => by omega); have HV4 : Hid (BL w4 w2.heap.size 60 [.slice none 0 0, .map (some w1.heap.size)]) := Lib.hid a1; have HM4 := Lib.hid (HM2.out.kept b4); have HB4 := Lib.hid (below_then HB2.out b4); have HZ4 := Lib.hid b4.size; clear a1 a2 a3 b4)
    | ((with_reducible show wpList _ _ _ (⟨some 15, _, _, _, _, _⟩ :: _) _ _); refine wpList_makeG (enc := numV) _ rfl 80 82 rfl (.bool false) ?_; intro w5 a1 a2 a3; have HS5 := Lib.hid a1; have HM5 := Lib.hid (HM4.out.kept a2); have HV5 := Lib.hid (HV4.out.kept a2); have HB5 := Lib.hid (below_then HB4.out a2); clear a1 a2 a3))
  obtain ⟨bm, hbm⟩ : ∃ g, g = w1.heap.size := ⟨_, rfl⟩
  obtain ⟨gv, hgv⟩ : ∃ g, g = w2.heap.size := ⟨_, rfl⟩
  obtain ⟨bs, hbs⟩ : ∃ g, g = w4.heap.size := ⟨_, rfl⟩
  have HN5 : Hid (NV w1 w5 gv bm bs (.slice none 0 0) (.slice none 0 0) [] (fun _ => none) (snF []) []) := Lib.hid ⟨by rw [hgv, hbm]; exact HV5.out, PvL.nil _, (fun b e => by cases e), by rw [hbm]; exact HM5.out, by rw [hbs]; exact HS5.out, HB5.out,
    ⟨by have := HB2.out.size; omega, by omega, by have := HB4.out.size; omega, by have := HM2.out.lt; have := HZ4.out; omega⟩, (fun q hq => by cases hq)⟩
  rw [← hgv, ← hbs]
  clear hbm hgv hbs
  go_loopw [18] (fun iv wr => ∃ (k : Nat) (v : Value) (vs : List PpV) (f : Int × List UInt8 → Option Value), k ≤ n ∧ iv = .int .i64 (k : Int) ∧ Hid (NV w1 wr gv bm bs v v vs f (snF (dd (es.take k))) []) ∧ Hid (vs.map (·.p) = pps (dd (es.take k))) ∧ Hid (vs.length ≤ k) ∧ Hid (RepF f (dd (es.take k)))) (fun iv _ => n - (intOf iv).toNat)
  case atStart => exact ⟨0, _, [], _, by omega, rfl, HN5, Lib.hid rfl, Lib.hid (Nat.le_refl _), Lib.hid (fun key => rfl)⟩
  case round =>
    obtain ⟨k, v, vs, f, hk, rfl, hnv, hvs, hvn, hrf⟩ := hrel
    obtain ⟨wx, hwx⟩ : ∃ x, x = wr := ⟨_, rfl⟩
    rw [← hwx] at hnv ⊢
    clear hwx
    by_cases hlt : k < n
    · obtain ⟨x, g, o, cs, hx, rfl, hat, hen⟩ := H.out.at_ stay_en (Below.refl _ _) hlt
      have HEN := Lib.hid hen
      obtain ⟨A, m, c, rfl, hbs, hd, hsq, _⟩ := hen
      have HX := Lib.hid hx
      have HA := Lib.hid (hat.kept (below_then HB1.out hnv.out.low))
      have HKN := Lib.hid (keyNum (keyE x) hd hsq)
      have HVN : Hid (vs.length ≤ 2000) := Lib.hid (by have := hvn.out; omega)
      have HBS := Lib.hid hbs
      have HWD := Lib.hid hd
      clear hx hat hbs hd hsq
      cases hsn : snF (dd (es.take k)) (keyE x) with
      | true =>
        have HDD : Hid (dd (es.take (k + 1)) = dd (es.take k)) := Lib.hid (dd_dup HX.out hsn)
        go_wp2_with (first
          | ((with_reducible show wpList _ _ _ (⟨some 21, _, _, _, _, _⟩ :: _) _ _); refine wpList_loadv _ rfl 38 (.tmp 20) rfl 6 (by kernel_rfl) g (o + k * 6) (enC x A m c) (by go_simp) HA.out rfl ?_)
          | ((with_reducible show wpList _ _ _ (⟨some 6, _, _, _, _, _⟩ :: _) _ _); refine wpList_alloc _ rfl 38 rfl enZ enZero ?_; intro w3 a1 a2 a3; have HV3 := Lib.hid a1; have HX3 := Lib.hid a2; clear a1 a2 a3)
          | ((with_reducible show wpList _ _ _ (⟨none, _, _, _, _, _⟩ :: _) _ _); refine wpList_storev _ rfl 38 (.tmp 6) (.tmp 21) rfl 6 (by kernel_rfl) wx.heap.size 0 _ enZ (enC x A m c) rfl rfl HV3.out rfl (one_en x A m c) (by decide) ?_; intro w4 a1 a2 a3; have HN4 := Lib.hid (hnv.out.var HX3.out a2 (show BL w4 wx.heap.size 38 (enC x A m c) from a1) (by decide) (by decide)); have q0 := a1.get (j := 0) rfl; have q1 := a1.get (j := 1) rfl; clear a1 a2 a3)
          | ((with_reducible show wpList _ _ _ (⟨some 26, _, _, _, _, _⟩ :: _) _ _); refine wpList_build _ rfl 82 _ rfl #[(0, .int .i64 x.dev), (1, .int .i64 x.seq)] (by rw [List.map_toArray]; rfl) _ (bldNum _ _ _) ?_)
          | ((with_reducible show wpList _ _ _ (⟨some 7, _, _, _, _, _⟩ :: _) _ _); refine wpList_alloc _ rfl 82 rfl [.int .i64 0, .int .i64 0] numZero ?_; intro w5 a1 a2 a3; have HV5 := Lib.hid a1; have HX5 := Lib.hid a2; clear a1 a2 a3)
          | ((with_reducible show wpList _ _ _ (⟨none, _, _, _, _, _⟩ :: _) _ _); refine wpList_storev _ rfl 82 (.tmp 7) (.tmp 26) rfl 2 (by kernel_rfl) w4.heap.size 0 _ [.int .i64 0, .int .i64 0] [.int .i64 x.dev, .int .i64 x.seq] rfl rfl HV5.out rfl (one_val _ rfl) (by decide) ?_; intro w6 a1 a2 a3; have HN6 := Lib.hid (HN4.out.var HX5.out a2 (show BL w6 w4.heap.size 82 [.int .i64 x.dev, .int .i64 x.seq] from a1) (by decide) (by decide)); clear a1 a2 a3)
          | ((with_reducible show wpList _ _ _ (⟨some 28, _, _, _, _, _⟩ :: _) _ _); refine wpList_loadv _ rfl 82 (.tmp 7) rfl 2 (by kernel_rfl) w4.heap.size 0 [.int .i64 x.dev, .int .i64 x.seq] rfl (BL.all (HN6.out.ex (w4.heap.size, 82, [.int .i64 x.dev, .int .i64 x.seq]) (by simp)).1) rfl ?_)
          | ((with_reducible show wpList _ _ _ (⟨some 29, _, _, _, _, _⟩ :: _) _ _); refine wpList_lookGv _ rfl (.tmp 27) (.tmp 28) 80 82 4 rfl numKeyed mapNB (.bool false) boolZero bs _ rfl HN6.out.mg (keyE x) rfl HKN.out (.bool true) (by rw [show (snF (dd (es.take k)) (keyE x)) = _ from hsn]) ?_)
          | fail)
        go_roundw
        case rel => exact ⟨k + 1, v, vs, f, by omega, by go_num, Lib.hid (by rw [HDD.out]; exact HN6.out.drop), Lib.hid (by rw [HDD.out]; exact hvs.out), Lib.hid (by have := hvn.out; omega), Lib.hid (by rw [HDD.out]; exact hrf.out)⟩
        case measure => simp [intOf]; omega
      | false =>
        have HDD : Hid (dd (es.take (k + 1)) = dd (es.take k) ++ [x]) := Lib.hid (dd_new HX.out hsn)
        cases hdm : decM x with
        | none =>
          cases hrp : isRep x with
          | false =>
            go_wp2_with (first
              | ((with_reducible show wpList _ _ _ (⟨some 21, _, _, _, _, _⟩ :: _) _ _); refine wpList_loadv _ rfl 38 (.tmp 20) rfl 6 (by kernel_rfl) g (o + k * 6) (enC x A m c) (by go_simp) HA.out rfl ?_)
              | ((with_reducible show wpList _ _ _ (⟨some 6, _, _, _, _, _⟩ :: _) _ _); refine wpList_alloc _ rfl 38 rfl enZ enZero ?_; intro w3 a1 a2 a3; have HV3 := Lib.hid a1; have HX3 := Lib.hid a2; clear a1 a2 a3)
              | ((with_reducible show wpList _ _ _ (⟨none, _, _, _, _, _⟩ :: _) _ _); refine wpList_storev _ rfl 38 (.tmp 6) (.tmp 21) rfl 6 (by kernel_rfl) wx.heap.size 0 _ enZ (enC x A m c) rfl rfl HV3.out rfl (one_en x A m c) (by decide) ?_; intro w4 a1 a2 a3; have HN4 := Lib.hid (hnv.out.var HX3.out a2 (show BL w4 wx.heap.size 38 (enC x A m c) from a1) (by decide) (by decide)); have q0 := a1.get (j := 0) rfl; have q1 := a1.get (j := 1) rfl; clear a1 a2 a3)
              | ((with_reducible show wpList _ _ _ (⟨some 26, _, _, _, _, _⟩ :: _) _ _); refine wpList_build _ rfl 82 _ rfl #[(0, .int .i64 x.dev), (1, .int .i64 x.seq)] (by rw [List.map_toArray]; rfl) _ (bldNum _ _ _) ?_)
              | ((with_reducible show wpList _ _ _ (⟨some 7, _, _, _, _, _⟩ :: _) _ _); refine wpList_alloc _ rfl 82 rfl [.int .i64 0, .int .i64 0] numZero ?_; intro w5 a1 a2 a3; have HV5 := Lib.hid a1; have HX5 := Lib.hid a2; clear a1 a2 a3)
              | ((with_reducible show wpList _ _ _ (⟨none, _, _, _, _, _⟩ :: _) _ _); refine wpList_storev _ rfl 82 (.tmp 7) (.tmp 26) rfl 2 (by kernel_rfl) w4.heap.size 0 _ [.int .i64 0, .int .i64 0] [.int .i64 x.dev, .int .i64 x.seq] rfl rfl HV5.out rfl (one_val _ rfl) (by decide) ?_; intro w6 a1 a2 a3; have HN6 := Lib.hid (HN4.out.var HX5.out a2 (show BL w6 w4.heap.size 82 [.int .i64 x.dev, .int .i64 x.seq] from a1) (by decide) (by decide)); clear a1 a2 a3)
              | ((with_reducible show wpList _ _ _ (⟨some 28, _, _, _, _, _⟩ :: _) _ _); refine wpList_loadv _ rfl 82 (.tmp 7) rfl 2 (by kernel_rfl) w4.heap.size 0 [.int .i64 x.dev, .int .i64 x.seq] rfl (BL.all (HN6.out.ex (w4.heap.size, 82, [.int .i64 x.dev, .int .i64 x.seq]) (by simp)).1) rfl ?_)
              | ((with_reducible show wpList _ _ _ (⟨some 29, _, _, _, _, _⟩ :: _) _ _); refine wpList_lookGv _ rfl (.tmp 27) (.tmp 28) 80 82 4 rfl numKeyed mapNB (.bool false) boolZero bs _ rfl HN6.out.mg (keyE x) rfl HKN.out (.bool false) (by rw [show (snF (dd (es.take k)) (keyE x)) = _ from hsn]) ?_)
              | ((with_reducible show wpList _ _ _ (⟨some 31, _, _, _, _, _⟩ :: _) _ _); refine wpList_loadv _ rfl 82 (.tmp 7) rfl 2 (by kernel_rfl) w4.heap.size 0 [.int .i64 x.dev, .int .i64 x.seq] rfl (BL.all (HN6.out.ex (w4.heap.size, 82, [.int .i64 x.dev, .int .i64 x.seq]) (by simp)).1) rfl ?_)
              | ((with_reducible show wpList _ _ _ (⟨none, _, _, _, _, _⟩ :: _) _ _); refine wpList_updG _ numV_inj rfl (.tmp 30) (.tmp 31) (.const (.bool true)) 80 82 4 rfl numKeyed mapNB (.bool false) bs _ rfl HN6.out.mg (keyE x) (.bool true) rfl rfl HKN.out ?_; intro w7 a1 a2 a3; have HN7 := Lib.hid (HN6.out.seen (sn' := snF (dd (es.take k) ++ [x])) a2 (a1.to (fun y => by rw [snF_snoc]; split <;> rfl))); clear a1 a2 a3)
              | ((with_reducible show wpList _ _ _ (⟨some 33, _, _, _, _, _⟩ :: _) _ _); refine wpList_loadv _ rfl 38 (.tmp 6) rfl 6 (by kernel_rfl) wx.heap.size 0 (enC x A m c) rfl (BL.all (HN7.out.ex (wx.heap.size, 38, enC x A m c) (by simp)).1) rfl ?_)
              | (go_at_call 48; refine (decp_any _ x w7 (stay_en _ _ _ _ HEN.out (below_then HB1.out HN7.out.low))).mono ?_; rintro e w8 ⟨_, d2, d3⟩; obtain ⟨z, hz⟩ : ∃ z : Int, z = (if x.kind = 3 then 3 else 1) := ⟨_, rfl⟩; have e9 := d2 hdm; rw [← hz] at e9; subst e9; have fz : (z == 0) = false := (by rw [hz]; split <;> rfl); clear hz; have HN8 := Lib.hid (HN7.out.kept d3); clear d2 d3)
              | ((with_reducible show wpList _ _ _ (⟨some 8, _, _, _, _, _⟩ :: _) _ _); refine wpList_alloc _ rfl 34 rfl ppZ ppZero ?_; intro w9 a1 a2 a3; have HV9 := Lib.hid a1; have HX9 := Lib.hid a2; clear a1 a2 a3)
              | ((with_reducible show wpList _ _ _ (⟨none, _, _, _, _, _⟩ :: _) _ _); refine wpList_storev _ rfl 34 (.tmp 8) (.tmp 35) rfl 5 (by kernel_rfl) w8.heap.size 0 _ ppZ ppZ rfl rfl HV9.out rfl one_ppz (by decide) ?_; intro w13 a1 a2 a3; have HNx := Lib.hid (HN8.out.kept (low_kp HX9.out a2 (fun i hi e => by omega))); clear a1 a2 a3)
              | ((with_reducible show wpList _ _ _ (⟨some 45, _, _, _, _, _⟩ :: _) _ _); refine wpList_loadv _ rfl 38 (.tmp 6) rfl 6 (by kernel_rfl) wx.heap.size 0 (enC x A m c) rfl (BL.all (HNx.out.ex (wx.heap.size, 38, enC x A m c) (by simp)).1) rfl ?_)
              | (go_at_call 49; refine (isRep_any _ x w13 (stay_en _ _ _ _ HEN.out (below_then HB1.out HNx.out.low))).mono ?_; rintro e w14 ⟨rfl, b1⟩; rw [hrp]; have HNy := Lib.hid (HNx.out.kept b1); have q3 := ((HNx.out.kept b1).ex (wx.heap.size, 38, enC x A m c) (by simp)).1.get (j := 4) rfl; have q4 := ((HNx.out.kept b1).ex (wx.heap.size, 38, enC x A m c) (by simp)).1.get (j := 0) rfl; have hcs := conv_str (HBS.out.kept (below_then HB1.out (HNx.out.kept b1).low)); clear b1)
              | fail)
            go_roundw
            case rel => exact ⟨k + 1, _, _, _, by omega, by go_num, Lib.hid (by rw [HDD.out]; exact HNy.out.drop), Lib.hid (by rw [HDD.out, pps_none hdm]; exact hvs.out), Lib.hid (by have := hvn.out; omega), Lib.hid (by rw [HDD.out]; exact hrf.out.same (fun key => best_not (by rw [okRep, hrp]; rfl) key))⟩
            case measure => simp [intOf]; omega
          | true =>
            by_cases h20 : m ≤ 20
            rotate_left
            · have f20 : decide (m ≤ 20) = false := decide_eq_false h20
              have HOK : Hid (okRep x = false) := Lib.hid (by rw [okRep, hrp, HBS.out.1, f20]; rfl)
              have h20i : (20 : Int) < (m : Int) := by omega
              clear h20
              go_wp2_with (first
                | ((with_reducible show wpList _ _ _ (⟨some 21, _, _, _, _, _⟩ :: _) _ _); refine wpList_loadv _ rfl 38 (.tmp 20) rfl 6 (by kernel_rfl) g (o + k * 6) (enC x A m c) (by go_simp) HA.out rfl ?_)
                | ((with_reducible show wpList _ _ _ (⟨some 6, _, _, _, _, _⟩ :: _) _ _); refine wpList_alloc _ rfl 38 rfl enZ enZero ?_; intro w3 a1 a2 a3; have HV3 := Lib.hid a1; have HX3 := Lib.hid a2; clear a1 a2 a3)
                | ((with_reducible show wpList _ _ _ (⟨none, _, _, _, _, _⟩ :: _) _ _); refine wpList_storev _ rfl 38 (.tmp 6) (.tmp 21) rfl 6 (by kernel_rfl) wx.heap.size 0 _ enZ (enC x A m c) rfl rfl HV3.out rfl (one_en x A m c) (by decide) ?_; intro w4 a1 a2 a3; have HN4 := Lib.hid (hnv.out.var HX3.out a2 (show BL w4 wx.heap.size 38 (enC x A m c) from a1) (by decide) (by decide)); have q0 := a1.get (j := 0) rfl; have q1 := a1.get (j := 1) rfl; clear a1 a2 a3)
                | ((with_reducible show wpList _ _ _ (⟨some 26, _, _, _, _, _⟩ :: _) _ _); refine wpList_build _ rfl 82 _ rfl #[(0, .int .i64 x.dev), (1, .int .i64 x.seq)] (by rw [List.map_toArray]; rfl) _ (bldNum _ _ _) ?_)
                | ((with_reducible show wpList _ _ _ (⟨some 7, _, _, _, _, _⟩ :: _) _ _); refine wpList_alloc _ rfl 82 rfl [.int .i64 0, .int .i64 0] numZero ?_; intro w5 a1 a2 a3; have HV5 := Lib.hid a1; have HX5 := Lib.hid a2; clear a1 a2 a3)
                | ((with_reducible show wpList _ _ _ (⟨none, _, _, _, _, _⟩ :: _) _ _); refine wpList_storev _ rfl 82 (.tmp 7) (.tmp 26) rfl 2 (by kernel_rfl) w4.heap.size 0 _ [.int .i64 0, .int .i64 0] [.int .i64 x.dev, .int .i64 x.seq] rfl rfl HV5.out rfl (one_val _ rfl) (by decide) ?_; intro w6 a1 a2 a3; have HN6 := Lib.hid (HN4.out.var HX5.out a2 (show BL w6 w4.heap.size 82 [.int .i64 x.dev, .int .i64 x.seq] from a1) (by decide) (by decide)); clear a1 a2 a3)
                | ((with_reducible show wpList _ _ _ (⟨some 28, _, _, _, _, _⟩ :: _) _ _); refine wpList_loadv _ rfl 82 (.tmp 7) rfl 2 (by kernel_rfl) w4.heap.size 0 [.int .i64 x.dev, .int .i64 x.seq] rfl (BL.all (HN6.out.ex (w4.heap.size, 82, [.int .i64 x.dev, .int .i64 x.seq]) (by simp)).1) rfl ?_)
                | ((with_reducible show wpList _ _ _ (⟨some 29, _, _, _, _, _⟩ :: _) _ _); refine wpList_lookGv _ rfl (.tmp 27) (.tmp 28) 80 82 4 rfl numKeyed mapNB (.bool false) boolZero bs _ rfl HN6.out.mg (keyE x) rfl HKN.out (.bool false) (by rw [show (snF (dd (es.take k)) (keyE x)) = _ from hsn]) ?_)
                | ((with_reducible show wpList _ _ _ (⟨some 31, _, _, _, _, _⟩ :: _) _ _); refine wpList_loadv _ rfl 82 (.tmp 7) rfl 2 (by kernel_rfl) w4.heap.size 0 [.int .i64 x.dev, .int .i64 x.seq] rfl (BL.all (HN6.out.ex (w4.heap.size, 82, [.int .i64 x.dev, .int .i64 x.seq]) (by simp)).1) rfl ?_)
                | ((with_reducible show wpList _ _ _ (⟨none, _, _, _, _, _⟩ :: _) _ _); refine wpList_updG _ numV_inj rfl (.tmp 30) (.tmp 31) (.const (.bool true)) 80 82 4 rfl numKeyed mapNB (.bool false) bs _ rfl HN6.out.mg (keyE x) (.bool true) rfl rfl HKN.out ?_; intro w7 a1 a2 a3; have HN7 := Lib.hid (HN6.out.seen (sn' := snF (dd (es.take k) ++ [x])) a2 (a1.to (fun y => by rw [snF_snoc]; split <;> rfl))); clear a1 a2 a3)
                | ((with_reducible show wpList _ _ _ (⟨some 33, _, _, _, _, _⟩ :: _) _ _); refine wpList_loadv _ rfl 38 (.tmp 6) rfl 6 (by kernel_rfl) wx.heap.size 0 (enC x A m c) rfl (BL.all (HN7.out.ex (wx.heap.size, 38, enC x A m c) (by simp)).1) rfl ?_)
                | (go_at_call 48; refine (decp_any _ x w7 (stay_en _ _ _ _ HEN.out (below_then HB1.out HN7.out.low))).mono ?_; rintro e w8 ⟨_, d2, d3⟩; obtain ⟨z, hz⟩ : ∃ z : Int, z = (if x.kind = 3 then 3 else 1) := ⟨_, rfl⟩; have e9 := d2 hdm; rw [← hz] at e9; subst e9; have fz : (z == 0) = false := (by rw [hz]; split <;> rfl); clear hz; have HN8 := Lib.hid (HN7.out.kept d3); clear d2 d3)
                | ((with_reducible show wpList _ _ _ (⟨some 8, _, _, _, _, _⟩ :: _) _ _); refine wpList_alloc _ rfl 34 rfl ppZ ppZero ?_; intro w9 a1 a2 a3; have HV9 := Lib.hid a1; have HX9 := Lib.hid a2; clear a1 a2 a3)
                | ((with_reducible show wpList _ _ _ (⟨none, _, _, _, _, _⟩ :: _) _ _); refine wpList_storev _ rfl 34 (.tmp 8) (.tmp 35) rfl 5 (by kernel_rfl) w8.heap.size 0 _ ppZ ppZ rfl rfl HV9.out rfl one_ppz (by decide) ?_; intro w13 a1 a2 a3; have HNx := Lib.hid (HN8.out.kept (low_kp HX9.out a2 (fun i hi e => by omega))); clear a1 a2 a3)
                | ((with_reducible show wpList _ _ _ (⟨some 45, _, _, _, _, _⟩ :: _) _ _); refine wpList_loadv _ rfl 38 (.tmp 6) rfl 6 (by kernel_rfl) wx.heap.size 0 (enC x A m c) rfl (BL.all (HNx.out.ex (wx.heap.size, 38, enC x A m c) (by simp)).1) rfl ?_)
                | (go_at_call 49; refine (isRep_any _ x w13 (stay_en _ _ _ _ HEN.out (below_then HB1.out HNx.out.low))).mono ?_; rintro e w14 ⟨rfl, b1⟩; rw [hrp]; have HNy := Lib.hid (HNx.out.kept b1); have q3 := ((HNx.out.kept b1).ex (wx.heap.size, 38, enC x A m c) (by simp)).1.get (j := 4) rfl; have q4 := ((HNx.out.kept b1).ex (wx.heap.size, 38, enC x A m c) (by simp)).1.get (j := 0) rfl; have hcs := conv_str (HBS.out.kept (below_then HB1.out (HNx.out.kept b1).low)); clear b1)
                | fail)
              go_roundw
              case rel => exact ⟨k + 1, _, _, _, by omega, by go_num, Lib.hid (by rw [HDD.out]; exact HNy.out.drop), Lib.hid (by rw [HDD.out, pps_none hdm]; exact hvs.out), Lib.hid (by have := hvn.out; omega), Lib.hid (by rw [HDD.out]; exact hrf.out.same (fun key => best_not HOK.out key))⟩
              case measure => simp [intOf]; omega
            · have f20 : decide (m ≤ 20) = true := decide_eq_true h20
              have HOK : Hid (okRep x = true) := Lib.hid (by rw [okRep, hrp, HBS.out.1, f20]; rfl)
              have HKA : Hid (∃ lx, keyOf Tryz.prog 87 (ansV (keyA x)) = some lx) := Lib.hid (keyAns (keyA x) HWD.out (by show x.body.length ≤ _; rw [HBS.out.1]; omega))
              have h20i : ¬ (20 : Int) < (m : Int) := by omega
              clear h20
              cases hbe : best (dd (es.take k)) (keyA x) with
              | none =>
                have HFK := Lib.hid (hrf.out.no hbe)
                go_wp2_with (first
                  | ((with_reducible show wpList _ _ _ (⟨some 21, _, _, _, _, _⟩ :: _) _ _); refine wpList_loadv _ rfl 38 (.tmp 20) rfl 6 (by kernel_rfl) g (o + k * 6) (enC x A m c) (by go_simp) HA.out rfl ?_)
                  | ((with_reducible show wpList _ _ _ (⟨some 6, _, _, _, _, _⟩ :: _) _ _); refine wpList_alloc _ rfl 38 rfl enZ enZero ?_; intro w3 a1 a2 a3; have HV3 := Lib.hid a1; have HX3 := Lib.hid a2; clear a1 a2 a3)
                  | ((with_reducible show wpList _ _ _ (⟨none, _, _, _, _, _⟩ :: _) _ _); refine wpList_storev _ rfl 38 (.tmp 6) (.tmp 21) rfl 6 (by kernel_rfl) wx.heap.size 0 _ enZ (enC x A m c) rfl rfl HV3.out rfl (one_en x A m c) (by decide) ?_; intro w4 a1 a2 a3; have HN4 := Lib.hid (hnv.out.var HX3.out a2 (show BL w4 wx.heap.size 38 (enC x A m c) from a1) (by decide) (by decide)); have q0 := a1.get (j := 0) rfl; have q1 := a1.get (j := 1) rfl; clear a1 a2 a3)
                  | ((with_reducible show wpList _ _ _ (⟨some 26, _, _, _, _, _⟩ :: _) _ _); refine wpList_build _ rfl 82 _ rfl #[(0, .int .i64 x.dev), (1, .int .i64 x.seq)] (by rw [List.map_toArray]; rfl) _ (bldNum _ _ _) ?_)
                  | ((with_reducible show wpList _ _ _ (⟨some 7, _, _, _, _, _⟩ :: _) _ _); refine wpList_alloc _ rfl 82 rfl [.int .i64 0, .int .i64 0] numZero ?_; intro w5 a1 a2 a3; have HV5 := Lib.hid a1; have HX5 := Lib.hid a2; clear a1 a2 a3)
                  | ((with_reducible show wpList _ _ _ (⟨none, _, _, _, _, _⟩ :: _) _ _); refine wpList_storev _ rfl 82 (.tmp 7) (.tmp 26) rfl 2 (by kernel_rfl) w4.heap.size 0 _ [.int .i64 0, .int .i64 0] [.int .i64 x.dev, .int .i64 x.seq] rfl rfl HV5.out rfl (one_val _ rfl) (by decide) ?_; intro w6 a1 a2 a3; have HN6 := Lib.hid (HN4.out.var HX5.out a2 (show BL w6 w4.heap.size 82 [.int .i64 x.dev, .int .i64 x.seq] from a1) (by decide) (by decide)); clear a1 a2 a3)
                  | ((with_reducible show wpList _ _ _ (⟨some 28, _, _, _, _, _⟩ :: _) _ _); refine wpList_loadv _ rfl 82 (.tmp 7) rfl 2 (by kernel_rfl) w4.heap.size 0 [.int .i64 x.dev, .int .i64 x.seq] rfl (BL.all (HN6.out.ex (w4.heap.size, 82, [.int .i64 x.dev, .int .i64 x.seq]) (by simp)).1) rfl ?_)
                  | ((with_reducible show wpList _ _ _ (⟨some 29, _, _, _, _, _⟩ :: _) _ _); refine wpList_lookGv _ rfl (.tmp 27) (.tmp 28) 80 82 4 rfl numKeyed mapNB (.bool false) boolZero bs _ rfl HN6.out.mg (keyE x) rfl HKN.out (.bool false) (by rw [show (snF (dd (es.take k)) (keyE x)) = _ from hsn]) ?_)
                  | ((with_reducible show wpList _ _ _ (⟨some 31, _, _, _, _, _⟩ :: _) _ _); refine wpList_loadv _ rfl 82 (.tmp 7) rfl 2 (by kernel_rfl) w4.heap.size 0 [.int .i64 x.dev, .int .i64 x.seq] rfl (BL.all (HN6.out.ex (w4.heap.size, 82, [.int .i64 x.dev, .int .i64 x.seq]) (by simp)).1) rfl ?_)
                  | ((with_reducible show wpList _ _ _ (⟨none, _, _, _, _, _⟩ :: _) _ _); refine wpList_updG _ numV_inj rfl (.tmp 30) (.tmp 31) (.const (.bool true)) 80 82 4 rfl numKeyed mapNB (.bool false) bs _ rfl HN6.out.mg (keyE x) (.bool true) rfl rfl HKN.out ?_; intro w7 a1 a2 a3; have HN7 := Lib.hid (HN6.out.seen (sn' := snF (dd (es.take k) ++ [x])) a2 (a1.to (fun y => by rw [snF_snoc]; split <;> rfl))); clear a1 a2 a3)
                  | ((with_reducible show wpList _ _ _ (⟨some 33, _, _, _, _, _⟩ :: _) _ _); refine wpList_loadv _ rfl 38 (.tmp 6) rfl 6 (by kernel_rfl) wx.heap.size 0 (enC x A m c) rfl (BL.all (HN7.out.ex (wx.heap.size, 38, enC x A m c) (by simp)).1) rfl ?_)
                  | (go_at_call 48; refine (decp_any _ x w7 (stay_en _ _ _ _ HEN.out (below_then HB1.out HN7.out.low))).mono ?_; rintro e w8 ⟨_, d2, d3⟩; obtain ⟨z, hz⟩ : ∃ z : Int, z = (if x.kind = 3 then 3 else 1) := ⟨_, rfl⟩; have e9 := d2 hdm; rw [← hz] at e9; subst e9; have fz : (z == 0) = false := (by rw [hz]; split <;> rfl); clear hz; have HN8 := Lib.hid (HN7.out.kept d3); clear d2 d3)
                  | ((with_reducible show wpList _ _ _ (⟨some 8, _, _, _, _, _⟩ :: _) _ _); refine wpList_alloc _ rfl 34 rfl ppZ ppZero ?_; intro w9 a1 a2 a3; have HV9 := Lib.hid a1; have HX9 := Lib.hid a2; clear a1 a2 a3)
                  | ((with_reducible show wpList _ _ _ (⟨none, _, _, _, _, _⟩ :: _) _ _); refine wpList_storev _ rfl 34 (.tmp 8) (.tmp 35) rfl 5 (by kernel_rfl) w8.heap.size 0 _ ppZ ppZ rfl rfl HV9.out rfl one_ppz (by decide) ?_; intro w13 a1 a2 a3; have HNx := Lib.hid (HN8.out.kept (low_kp HX9.out a2 (fun i hi e => by omega))); clear a1 a2 a3)
                  | ((with_reducible show wpList _ _ _ (⟨some 45, _, _, _, _, _⟩ :: _) _ _); refine wpList_loadv _ rfl 38 (.tmp 6) rfl 6 (by kernel_rfl) wx.heap.size 0 (enC x A m c) rfl (BL.all (HNx.out.ex (wx.heap.size, 38, enC x A m c) (by simp)).1) rfl ?_)
                  | (go_at_call 49; refine (isRep_any _ x w13 (stay_en _ _ _ _ HEN.out (below_then HB1.out HNx.out.low))).mono ?_; rintro e w14 ⟨rfl, b1⟩; rw [hrp]; have HNy := Lib.hid (HNx.out.kept b1); have q3 := ((HNx.out.kept b1).ex (wx.heap.size, 38, enC x A m c) (by simp)).1.get (j := 4) rfl; have q4 := ((HNx.out.kept b1).ex (wx.heap.size, 38, enC x A m c) (by simp)).1.get (j := 0) rfl; have hcs := conv_str (HBS.out.kept (below_then HB1.out (HNx.out.kept b1).low)); clear b1)
                  | ((with_reducible show wpList _ _ _ (⟨some 58, _, _, _, _, _⟩ :: _) _ _); refine wpList_build _ rfl 87 _ rfl #[(0, .int .i64 x.dev), (1, .string (strB x.body))] (by rw [List.map_toArray]; rfl) _ (bldAns _ _ _) ?_)
                  | ((with_reducible show wpList _ _ _ (⟨some 10, _, _, _, _, _⟩ :: _) _ _); refine wpList_alloc _ rfl 87 rfl [.int .i64 0, .string (strB [])] ansZero ?_; intro w15 a1 a2 a3; have HV15 := Lib.hid a1; have HX15 := Lib.hid a2; clear a1 a2 a3)
                  | ((with_reducible show wpList _ _ _ (⟨none, _, _, _, _, _⟩ :: _) _ _); refine wpList_storev _ rfl 87 (.tmp 10) (.tmp 58) rfl 2 (by kernel_rfl) w14.heap.size 0 _ [.int .i64 0, .string (strB [])] [.int .i64 x.dev, .string (strB x.body)] rfl rfl HV15.out rfl (one_val _ rfl) (by decide) ?_; intro w16 a1 a2 a3; have HN16 := Lib.hid (HNy.out.var HX15.out a2 (show BL w16 w14.heap.size 87 [.int .i64 x.dev, .string (strB x.body)] from a1) (by decide) (by decide)); have q5 := HN16.out.bl.get (j := 1) rfl; clear a1 a2 a3)
                  | ((with_reducible show wpList _ _ _ (⟨some 62, _, _, _, _, _⟩ :: _) _ _); refine wpList_loadv _ rfl 87 (.tmp 10) rfl 2 (by kernel_rfl) w14.heap.size 0 [.int .i64 x.dev, .string (strB x.body)] rfl (BL.all (HN16.out.ex (w14.heap.size, 87, [.int .i64 x.dev, .string (strB x.body)]) (by simp)).1) rfl ?_)
                  | ((with_reducible show wpList _ _ _ (⟨some 63, _, _, _, _, _⟩ :: _) _ _); refine wpList_lookokFv _ rfl (.tmp 61) (.tmp 62) 58 87 38 rfl ansKeyed mapAL (.agg enZ.toArray) enZero bm _ rfl HN16.out.mf (keyA x) rfl HKA.out (.agg (enZ).toArray) false (by rw [HFK.out]; rfl) (by rw [HFK.out]; rfl) ?_)
                  | ((with_reducible show wpList _ _ _ (⟨some 11, _, _, _, _, _⟩ :: _) _ _); refine wpList_alloc _ rfl 38 rfl enZ enZero ?_; intro w17 a1 a2 a3; have HV17 := Lib.hid a1; have HX17 := Lib.hid a2; clear a1 a2 a3)
                  | ((with_reducible show wpList _ _ _ (⟨none, _, _, _, _, _⟩ :: _) _ _); refine wpList_storev _ rfl 38 (.tmp 11) (.tmp 64) rfl 6 (by kernel_rfl) w16.heap.size 0 _ enZ (enZ) rfl rfl HV17.out rfl (one_val _ rfl) (by decide) ?_; intro w18 a1 a2 a3; have HN18 := Lib.hid (HN16.out.var HX17.out a2 (show BL w18 w16.heap.size 38 (enZ) from a1) (by decide) (by decide)); have q6 := (show BL w18 w16.heap.size 38 (enZ) from a1).get (j := 1) rfl; have q7 := (HN18.out.ex (wx.heap.size, 38, enC x A m c) (by simp)).1.get (j := 1) rfl; have q8 := HN18.out.bl.get (j := 1) rfl; clear a1 a2 a3)
                  | ((with_reducible show wpList _ _ _ (⟨some 77, _, _, _, _, _⟩ :: _) _ _); refine wpList_loadv _ rfl 87 (.tmp 10) rfl 2 (by kernel_rfl) w14.heap.size 0 [.int .i64 x.dev, .string (strB x.body)] rfl (BL.all (HN18.out.ex (w14.heap.size, 87, [.int .i64 x.dev, .string (strB x.body)]) (by simp)).1) rfl ?_)
                  | ((with_reducible show wpList _ _ _ (⟨some 78, _, _, _, _, _⟩ :: _) _ _); refine wpList_loadv _ rfl 38 (.tmp 6) rfl 6 (by kernel_rfl) wx.heap.size 0 (enC x A m c) rfl (BL.all (HN18.out.ex (wx.heap.size, 38, enC x A m c) (by simp)).1) rfl ?_)
                  | ((with_reducible show wpList _ _ _ (⟨none, _, _, _, _, _⟩ :: _) _ _); refine wpList_updF _ ansV_inj rfl (.tmp 76) (.tmp 77) (.tmp 78) 58 87 38 rfl ansKeyed mapAL bm _ rfl HN18.out.mf (keyA x) (.agg (enC x A m c).toArray) rfl rfl HKA.out ?_; intro w19 a1 a2 a3; have HN19 := Lib.hid (HN18.out.rep a2 a1); clear a1 a2 a3)
                  | fail)
                go_roundw
                case rel => exact ⟨k + 1, _, _, _, by omega, by go_num, Lib.hid (by rw [HDD.out]; exact HN19.out.drop), Lib.hid (by rw [HDD.out, pps_none hdm]; exact hvs.out), Lib.hid (by have := hvn.out; omega), Lib.hid (by rw [HDD.out]; exact hrf.out.upd (best_new HOK.out hbe))⟩
                case measure => simp [intOf]; omega
              | some y =>
                obtain ⟨A', n', c', hfk⟩ := hrf.out.yes hbe
                have HFK := Lib.hid hfk
                clear hfk
                by_cases hlt2 : x.seq < y.seq
                · have fl : decide (x.seq < y.seq) = true := decide_eq_true hlt2
                  have HLT := Lib.hid hlt2
                  clear hlt2
                  go_wp2_with (first
                    | ((with_reducible show wpList _ _ _ (⟨some 21, _, _, _, _, _⟩ :: _) _ _); refine wpList_loadv _ rfl 38 (.tmp 20) rfl 6 (by kernel_rfl) g (o + k * 6) (enC x A m c) (by go_simp) HA.out rfl ?_)
                    | ((with_reducible show wpList _ _ _ (⟨some 6, _, _, _, _, _⟩ :: _) _ _); refine wpList_alloc _ rfl 38 rfl enZ enZero ?_; intro w3 a1 a2 a3; have HV3 := Lib.hid a1; have HX3 := Lib.hid a2; clear a1 a2 a3)
                    | ((with_reducible show wpList _ _ _ (⟨none, _, _, _, _, _⟩ :: _) _ _); refine wpList_storev _ rfl 38 (.tmp 6) (.tmp 21) rfl 6 (by kernel_rfl) wx.heap.size 0 _ enZ (enC x A m c) rfl rfl HV3.out rfl (one_en x A m c) (by decide) ?_; intro w4 a1 a2 a3; have HN4 := Lib.hid (hnv.out.var HX3.out a2 (show BL w4 wx.heap.size 38 (enC x A m c) from a1) (by decide) (by decide)); have q0 := a1.get (j := 0) rfl; have q1 := a1.get (j := 1) rfl; clear a1 a2 a3)
                    | ((with_reducible show wpList _ _ _ (⟨some 26, _, _, _, _, _⟩ :: _) _ _); refine wpList_build _ rfl 82 _ rfl #[(0, .int .i64 x.dev), (1, .int .i64 x.seq)] (by rw [List.map_toArray]; rfl) _ (bldNum _ _ _) ?_)
                    | ((with_reducible show wpList _ _ _ (⟨some 7, _, _, _, _, _⟩ :: _) _ _); refine wpList_alloc _ rfl 82 rfl [.int .i64 0, .int .i64 0] numZero ?_; intro w5 a1 a2 a3; have HV5 := Lib.hid a1; have HX5 := Lib.hid a2; clear a1 a2 a3)
                    | ((with_reducible show wpList _ _ _ (⟨none, _, _, _, _, _⟩ :: _) _ _); refine wpList_storev _ rfl 82 (.tmp 7) (.tmp 26) rfl 2 (by kernel_rfl) w4.heap.size 0 _ [.int .i64 0, .int .i64 0] [.int .i64 x.dev, .int .i64 x.seq] rfl rfl HV5.out rfl (one_val _ rfl) (by decide) ?_; intro w6 a1 a2 a3; have HN6 := Lib.hid (HN4.out.var HX5.out a2 (show BL w6 w4.heap.size 82 [.int .i64 x.dev, .int .i64 x.seq] from a1) (by decide) (by decide)); clear a1 a2 a3)
                    | ((with_reducible show wpList _ _ _ (⟨some 28, _, _, _, _, _⟩ :: _) _ _); refine wpList_loadv _ rfl 82 (.tmp 7) rfl 2 (by kernel_rfl) w4.heap.size 0 [.int .i64 x.dev, .int .i64 x.seq] rfl (BL.all (HN6.out.ex (w4.heap.size, 82, [.int .i64 x.dev, .int .i64 x.seq]) (by simp)).1) rfl ?_)
                    | ((with_reducible show wpList _ _ _ (⟨some 29, _, _, _, _, _⟩ :: _) _ _); refine wpList_lookGv _ rfl (.tmp 27) (.tmp 28) 80 82 4 rfl numKeyed mapNB (.bool false) boolZero bs _ rfl HN6.out.mg (keyE x) rfl HKN.out (.bool false) (by rw [show (snF (dd (es.take k)) (keyE x)) = _ from hsn]) ?_)
                    | ((with_reducible show wpList _ _ _ (⟨some 31, _, _, _, _, _⟩ :: _) _ _); refine wpList_loadv _ rfl 82 (.tmp 7) rfl 2 (by kernel_rfl) w4.heap.size 0 [.int .i64 x.dev, .int .i64 x.seq] rfl (BL.all (HN6.out.ex (w4.heap.size, 82, [.int .i64 x.dev, .int .i64 x.seq]) (by simp)).1) rfl ?_)
                    | ((with_reducible show wpList _ _ _ (⟨none, _, _, _, _, _⟩ :: _) _ _); refine wpList_updG _ numV_inj rfl (.tmp 30) (.tmp 31) (.const (.bool true)) 80 82 4 rfl numKeyed mapNB (.bool false) bs _ rfl HN6.out.mg (keyE x) (.bool true) rfl rfl HKN.out ?_; intro w7 a1 a2 a3; have HN7 := Lib.hid (HN6.out.seen (sn' := snF (dd (es.take k) ++ [x])) a2 (a1.to (fun y => by rw [snF_snoc]; split <;> rfl))); clear a1 a2 a3)
                    | ((with_reducible show wpList _ _ _ (⟨some 33, _, _, _, _, _⟩ :: _) _ _); refine wpList_loadv _ rfl 38 (.tmp 6) rfl 6 (by kernel_rfl) wx.heap.size 0 (enC x A m c) rfl (BL.all (HN7.out.ex (wx.heap.size, 38, enC x A m c) (by simp)).1) rfl ?_)
                    | (go_at_call 48; refine (decp_any _ x w7 (stay_en _ _ _ _ HEN.out (below_then HB1.out HN7.out.low))).mono ?_; rintro e w8 ⟨_, d2, d3⟩; obtain ⟨z, hz⟩ : ∃ z : Int, z = (if x.kind = 3 then 3 else 1) := ⟨_, rfl⟩; have e9 := d2 hdm; rw [← hz] at e9; subst e9; have fz : (z == 0) = false := (by rw [hz]; split <;> rfl); clear hz; have HN8 := Lib.hid (HN7.out.kept d3); clear d2 d3)
                    | ((with_reducible show wpList _ _ _ (⟨some 8, _, _, _, _, _⟩ :: _) _ _); refine wpList_alloc _ rfl 34 rfl ppZ ppZero ?_; intro w9 a1 a2 a3; have HV9 := Lib.hid a1; have HX9 := Lib.hid a2; clear a1 a2 a3)
                    | ((with_reducible show wpList _ _ _ (⟨none, _, _, _, _, _⟩ :: _) _ _); refine wpList_storev _ rfl 34 (.tmp 8) (.tmp 35) rfl 5 (by kernel_rfl) w8.heap.size 0 _ ppZ ppZ rfl rfl HV9.out rfl one_ppz (by decide) ?_; intro w13 a1 a2 a3; have HNx := Lib.hid (HN8.out.kept (low_kp HX9.out a2 (fun i hi e => by omega))); clear a1 a2 a3)
                    | ((with_reducible show wpList _ _ _ (⟨some 45, _, _, _, _, _⟩ :: _) _ _); refine wpList_loadv _ rfl 38 (.tmp 6) rfl 6 (by kernel_rfl) wx.heap.size 0 (enC x A m c) rfl (BL.all (HNx.out.ex (wx.heap.size, 38, enC x A m c) (by simp)).1) rfl ?_)
                    | (go_at_call 49; refine (isRep_any _ x w13 (stay_en _ _ _ _ HEN.out (below_then HB1.out HNx.out.low))).mono ?_; rintro e w14 ⟨rfl, b1⟩; rw [hrp]; have HNy := Lib.hid (HNx.out.kept b1); have q3 := ((HNx.out.kept b1).ex (wx.heap.size, 38, enC x A m c) (by simp)).1.get (j := 4) rfl; have q4 := ((HNx.out.kept b1).ex (wx.heap.size, 38, enC x A m c) (by simp)).1.get (j := 0) rfl; have hcs := conv_str (HBS.out.kept (below_then HB1.out (HNx.out.kept b1).low)); clear b1)
                    | ((with_reducible show wpList _ _ _ (⟨some 58, _, _, _, _, _⟩ :: _) _ _); refine wpList_build _ rfl 87 _ rfl #[(0, .int .i64 x.dev), (1, .string (strB x.body))] (by rw [List.map_toArray]; rfl) _ (bldAns _ _ _) ?_)
                    | ((with_reducible show wpList _ _ _ (⟨some 10, _, _, _, _, _⟩ :: _) _ _); refine wpList_alloc _ rfl 87 rfl [.int .i64 0, .string (strB [])] ansZero ?_; intro w15 a1 a2 a3; have HV15 := Lib.hid a1; have HX15 := Lib.hid a2; clear a1 a2 a3)
                    | ((with_reducible show wpList _ _ _ (⟨none, _, _, _, _, _⟩ :: _) _ _); refine wpList_storev _ rfl 87 (.tmp 10) (.tmp 58) rfl 2 (by kernel_rfl) w14.heap.size 0 _ [.int .i64 0, .string (strB [])] [.int .i64 x.dev, .string (strB x.body)] rfl rfl HV15.out rfl (one_val _ rfl) (by decide) ?_; intro w16 a1 a2 a3; have HN16 := Lib.hid (HNy.out.var HX15.out a2 (show BL w16 w14.heap.size 87 [.int .i64 x.dev, .string (strB x.body)] from a1) (by decide) (by decide)); have q5 := HN16.out.bl.get (j := 1) rfl; clear a1 a2 a3)
                    | ((with_reducible show wpList _ _ _ (⟨some 62, _, _, _, _, _⟩ :: _) _ _); refine wpList_loadv _ rfl 87 (.tmp 10) rfl 2 (by kernel_rfl) w14.heap.size 0 [.int .i64 x.dev, .string (strB x.body)] rfl (BL.all (HN16.out.ex (w14.heap.size, 87, [.int .i64 x.dev, .string (strB x.body)]) (by simp)).1) rfl ?_)
                    | ((with_reducible show wpList _ _ _ (⟨some 63, _, _, _, _, _⟩ :: _) _ _); refine wpList_lookokFv _ rfl (.tmp 61) (.tmp 62) 58 87 38 rfl ansKeyed mapAL (.agg enZ.toArray) enZero bm _ rfl HN16.out.mf (keyA x) rfl HKA.out (.agg (enC y A' n' c').toArray) true (by rw [HFK.out]; rfl) (by rw [HFK.out]; rfl) ?_)
                    | ((with_reducible show wpList _ _ _ (⟨some 11, _, _, _, _, _⟩ :: _) _ _); refine wpList_alloc _ rfl 38 rfl enZ enZero ?_; intro w17 a1 a2 a3; have HV17 := Lib.hid a1; have HX17 := Lib.hid a2; clear a1 a2 a3)
                    | ((with_reducible show wpList _ _ _ (⟨none, _, _, _, _, _⟩ :: _) _ _); refine wpList_storev _ rfl 38 (.tmp 11) (.tmp 64) rfl 6 (by kernel_rfl) w16.heap.size 0 _ enZ (enC y A' n' c') rfl rfl HV17.out rfl (one_val _ rfl) (by decide) ?_; intro w18 a1 a2 a3; have HN18 := Lib.hid (HN16.out.var HX17.out a2 (show BL w18 w16.heap.size 38 (enC y A' n' c') from a1) (by decide) (by decide)); have q6 := (show BL w18 w16.heap.size 38 (enC y A' n' c') from a1).get (j := 1) rfl; have q7 := (HN18.out.ex (wx.heap.size, 38, enC x A m c) (by simp)).1.get (j := 1) rfl; have q8 := HN18.out.bl.get (j := 1) rfl; clear a1 a2 a3)
                    | ((with_reducible show wpList _ _ _ (⟨some 77, _, _, _, _, _⟩ :: _) _ _); refine wpList_loadv _ rfl 87 (.tmp 10) rfl 2 (by kernel_rfl) w14.heap.size 0 [.int .i64 x.dev, .string (strB x.body)] rfl (BL.all (HN18.out.ex (w14.heap.size, 87, [.int .i64 x.dev, .string (strB x.body)]) (by simp)).1) rfl ?_)
                    | ((with_reducible show wpList _ _ _ (⟨some 78, _, _, _, _, _⟩ :: _) _ _); refine wpList_loadv _ rfl 38 (.tmp 6) rfl 6 (by kernel_rfl) wx.heap.size 0 (enC x A m c) rfl (BL.all (HN18.out.ex (wx.heap.size, 38, enC x A m c) (by simp)).1) rfl ?_)
                    | ((with_reducible show wpList _ _ _ (⟨none, _, _, _, _, _⟩ :: _) _ _); refine wpList_updF _ ansV_inj rfl (.tmp 76) (.tmp 77) (.tmp 78) 58 87 38 rfl ansKeyed mapAL bm _ rfl HN18.out.mf (keyA x) (.agg (enC x A m c).toArray) rfl rfl HKA.out ?_; intro w19 a1 a2 a3; have HN19 := Lib.hid (HN18.out.rep a2 a1); clear a1 a2 a3)
                    | fail)
                  go_roundw
                  case rel => exact ⟨k + 1, _, _, _, by omega, by go_num, Lib.hid (by rw [HDD.out]; exact HN19.out.drop), Lib.hid (by rw [HDD.out, pps_none hdm]; exact hvs.out), Lib.hid (by have := hvn.out; omega), Lib.hid (by rw [HDD.out]; exact hrf.out.upd (best_less HOK.out hbe HLT.out))⟩
                  case measure => simp [intOf]; omega
                · have fl : decide (x.seq < y.seq) = false := decide_eq_false hlt2
                  have HLT := Lib.hid hlt2
                  clear hlt2
                  go_wp2_with (first
                    | ((with_reducible show wpList _ _ _ (⟨some 21, _, _, _, _, _⟩ :: _) _ _); refine wpList_loadv _ rfl 38 (.tmp 20) rfl 6 (by kernel_rfl) g (o + k * 6) (enC x A m c) (by go_simp) HA.out rfl ?_)
                    | ((with_reducible show wpList _ _ _ (⟨some 6, _, _, _, _, _⟩ :: _) _ _); refine wpList_alloc _ rfl 38 rfl enZ enZero ?_; intro w3 a1 a2 a3; have HV3 := Lib.hid a1; have HX3 := Lib.hid a2; clear a1 a2 a3)
                    | ((with_reducible show wpList _ _ _ (⟨none, _, _, _, _, _⟩ :: _) _ _); refine wpList_storev _ rfl 38 (.tmp 6) (.tmp 21) rfl 6 (by kernel_rfl) wx.heap.size 0 _ enZ (enC x A m c) rfl rfl HV3.out rfl (one_en x A m c) (by decide) ?_; intro w4 a1 a2 a3; have HN4 := Lib.hid (hnv.out.var HX3.out a2 (show BL w4 wx.heap.size 38 (enC x A m c) from a1) (by decide) (by decide)); have q0 := a1.get (j := 0) rfl; have q1 := a1.get (j := 1) rfl; clear a1 a2 a3)
                    | ((with_reducible show wpList _ _ _ (⟨some 26, _, _, _, _, _⟩ :: _) _ _); refine wpList_build _ rfl 82 _ rfl #[(0, .int .i64 x.dev), (1, .int .i64 x.seq)] (by rw [List.map_toArray]; rfl) _ (bldNum _ _ _) ?_)
                    | ((with_reducible show wpList _ _ _ (⟨some 7, _, _, _, _, _⟩ :: _) _ _); refine wpList_alloc _ rfl 82 rfl [.int .i64 0, .int .i64 0] numZero ?_; intro w5 a1 a2 a3; have HV5 := Lib.hid a1; have HX5 := Lib.hid a2; clear a1 a2 a3)
                    | ((with_reducible show wpList _ _ _ (⟨none, _, _, _, _, _⟩ :: _) _ _); refine wpList_storev _ rfl 82 (.tmp 7) (.tmp 26) rfl 2 (by kernel_rfl) w4.heap.size 0 _ [.int .i64 0, .int .i64 0] [.int .i64 x.dev, .int .i64 x.seq] rfl rfl HV5.out rfl (one_val _ rfl) (by decide) ?_; intro w6 a1 a2 a3; have HN6 := Lib.hid (HN4.out.var HX5.out a2 (show BL w6 w4.heap.size 82 [.int .i64 x.dev, .int .i64 x.seq] from a1) (by decide) (by decide)); clear a1 a2 a3)
                    | ((with_reducible show wpList _ _ _ (⟨some 28, _, _, _, _, _⟩ :: _) _ _); refine wpList_loadv _ rfl 82 (.tmp 7) rfl 2 (by kernel_rfl) w4.heap.size 0 [.int .i64 x.dev, .int .i64 x.seq] rfl (BL.all (HN6.out.ex (w4.heap.size, 82, [.int .i64 x.dev, .int .i64 x.seq]) (by simp)).1) rfl ?_)
                    | ((with_reducible show wpList _ _ _ (⟨some 29, _, _, _, _, _⟩ :: _) _ _); refine wpList_lookGv _ rfl (.tmp 27) (.tmp 28) 80 82 4 rfl numKeyed mapNB (.bool false) boolZero bs _ rfl HN6.out.mg (keyE x) rfl HKN.out (.bool false) (by rw [show (snF (dd (es.take k)) (keyE x)) = _ from hsn]) ?_)
                    | ((with_reducible show wpList _ _ _ (⟨some 31, _, _, _, _, _⟩ :: _) _ _); refine wpList_loadv _ rfl 82 (.tmp 7) rfl 2 (by kernel_rfl) w4.heap.size 0 [.int .i64 x.dev, .int .i64 x.seq] rfl (BL.all (HN6.out.ex (w4.heap.size, 82, [.int .i64 x.dev, .int .i64 x.seq]) (by simp)).1) rfl ?_)
                    | ((with_reducible show wpList _ _ _ (⟨none, _, _, _, _, _⟩ :: _) _ _); refine wpList_updG _ numV_inj rfl (.tmp 30) (.tmp 31) (.const (.bool true)) 80 82 4 rfl numKeyed mapNB (.bool false) bs _ rfl HN6.out.mg (keyE x) (.bool true) rfl rfl HKN.out ?_; intro w7 a1 a2 a3; have HN7 := Lib.hid (HN6.out.seen (sn' := snF (dd (es.take k) ++ [x])) a2 (a1.to (fun y => by rw [snF_snoc]; split <;> rfl))); clear a1 a2 a3)
                    | ((with_reducible show wpList _ _ _ (⟨some 33, _, _, _, _, _⟩ :: _) _ _); refine wpList_loadv _ rfl 38 (.tmp 6) rfl 6 (by kernel_rfl) wx.heap.size 0 (enC x A m c) rfl (BL.all (HN7.out.ex (wx.heap.size, 38, enC x A m c) (by simp)).1) rfl ?_)
                    | (go_at_call 48; refine (decp_any _ x w7 (stay_en _ _ _ _ HEN.out (below_then HB1.out HN7.out.low))).mono ?_; rintro e w8 ⟨_, d2, d3⟩; obtain ⟨z, hz⟩ : ∃ z : Int, z = (if x.kind = 3 then 3 else 1) := ⟨_, rfl⟩; have e9 := d2 hdm; rw [← hz] at e9; subst e9; have fz : (z == 0) = false := (by rw [hz]; split <;> rfl); clear hz; have HN8 := Lib.hid (HN7.out.kept d3); clear d2 d3)
                    | ((with_reducible show wpList _ _ _ (⟨some 8, _, _, _, _, _⟩ :: _) _ _); refine wpList_alloc _ rfl 34 rfl ppZ ppZero ?_; intro w9 a1 a2 a3; have HV9 := Lib.hid a1; have HX9 := Lib.hid a2; clear a1 a2 a3)
                    | ((with_reducible show wpList _ _ _ (⟨none, _, _, _, _, _⟩ :: _) _ _); refine wpList_storev _ rfl 34 (.tmp 8) (.tmp 35) rfl 5 (by kernel_rfl) w8.heap.size 0 _ ppZ ppZ rfl rfl HV9.out rfl one_ppz (by decide) ?_; intro w13 a1 a2 a3; have HNx := Lib.hid (HN8.out.kept (low_kp HX9.out a2 (fun i hi e => by omega))); clear a1 a2 a3)
                    | ((with_reducible show wpList _ _ _ (⟨some 45, _, _, _, _, _⟩ :: _) _ _); refine wpList_loadv _ rfl 38 (.tmp 6) rfl 6 (by kernel_rfl) wx.heap.size 0 (enC x A m c) rfl (BL.all (HNx.out.ex (wx.heap.size, 38, enC x A m c) (by simp)).1) rfl ?_)
                    | (go_at_call 49; refine (isRep_any _ x w13 (stay_en _ _ _ _ HEN.out (below_then HB1.out HNx.out.low))).mono ?_; rintro e w14 ⟨rfl, b1⟩; rw [hrp]; have HNy := Lib.hid (HNx.out.kept b1); have q3 := ((HNx.out.kept b1).ex (wx.heap.size, 38, enC x A m c) (by simp)).1.get (j := 4) rfl; have q4 := ((HNx.out.kept b1).ex (wx.heap.size, 38, enC x A m c) (by simp)).1.get (j := 0) rfl; have hcs := conv_str (HBS.out.kept (below_then HB1.out (HNx.out.kept b1).low)); clear b1)
                    | ((with_reducible show wpList _ _ _ (⟨some 58, _, _, _, _, _⟩ :: _) _ _); refine wpList_build _ rfl 87 _ rfl #[(0, .int .i64 x.dev), (1, .string (strB x.body))] (by rw [List.map_toArray]; rfl) _ (bldAns _ _ _) ?_)
                    | ((with_reducible show wpList _ _ _ (⟨some 10, _, _, _, _, _⟩ :: _) _ _); refine wpList_alloc _ rfl 87 rfl [.int .i64 0, .string (strB [])] ansZero ?_; intro w15 a1 a2 a3; have HV15 := Lib.hid a1; have HX15 := Lib.hid a2; clear a1 a2 a3)
                    | ((with_reducible show wpList _ _ _ (⟨none, _, _, _, _, _⟩ :: _) _ _); refine wpList_storev _ rfl 87 (.tmp 10) (.tmp 58) rfl 2 (by kernel_rfl) w14.heap.size 0 _ [.int .i64 0, .string (strB [])] [.int .i64 x.dev, .string (strB x.body)] rfl rfl HV15.out rfl (one_val _ rfl) (by decide) ?_; intro w16 a1 a2 a3; have HN16 := Lib.hid (HNy.out.var HX15.out a2 (show BL w16 w14.heap.size 87 [.int .i64 x.dev, .string (strB x.body)] from a1) (by decide) (by decide)); have q5 := HN16.out.bl.get (j := 1) rfl; clear a1 a2 a3)
                    | ((with_reducible show wpList _ _ _ (⟨some 62, _, _, _, _, _⟩ :: _) _ _); refine wpList_loadv _ rfl 87 (.tmp 10) rfl 2 (by kernel_rfl) w14.heap.size 0 [.int .i64 x.dev, .string (strB x.body)] rfl (BL.all (HN16.out.ex (w14.heap.size, 87, [.int .i64 x.dev, .string (strB x.body)]) (by simp)).1) rfl ?_)
                    | ((with_reducible show wpList _ _ _ (⟨some 63, _, _, _, _, _⟩ :: _) _ _); refine wpList_lookokFv _ rfl (.tmp 61) (.tmp 62) 58 87 38 rfl ansKeyed mapAL (.agg enZ.toArray) enZero bm _ rfl HN16.out.mf (keyA x) rfl HKA.out (.agg (enC y A' n' c').toArray) true (by rw [HFK.out]; rfl) (by rw [HFK.out]; rfl) ?_)
                    | ((with_reducible show wpList _ _ _ (⟨some 11, _, _, _, _, _⟩ :: _) _ _); refine wpList_alloc _ rfl 38 rfl enZ enZero ?_; intro w17 a1 a2 a3; have HV17 := Lib.hid a1; have HX17 := Lib.hid a2; clear a1 a2 a3)
                    | ((with_reducible show wpList _ _ _ (⟨none, _, _, _, _, _⟩ :: _) _ _); refine wpList_storev _ rfl 38 (.tmp 11) (.tmp 64) rfl 6 (by kernel_rfl) w16.heap.size 0 _ enZ (enC y A' n' c') rfl rfl HV17.out rfl (one_val _ rfl) (by decide) ?_; intro w18 a1 a2 a3; have HN18 := Lib.hid (HN16.out.var HX17.out a2 (show BL w18 w16.heap.size 38 (enC y A' n' c') from a1) (by decide) (by decide)); have q6 := (show BL w18 w16.heap.size 38 (enC y A' n' c') from a1).get (j := 1) rfl; have q7 := (HN18.out.ex (wx.heap.size, 38, enC x A m c) (by simp)).1.get (j := 1) rfl; have q8 := HN18.out.bl.get (j := 1) rfl; clear a1 a2 a3)
                    | ((with_reducible show wpList _ _ _ (⟨some 77, _, _, _, _, _⟩ :: _) _ _); refine wpList_loadv _ rfl 87 (.tmp 10) rfl 2 (by kernel_rfl) w14.heap.size 0 [.int .i64 x.dev, .string (strB x.body)] rfl (BL.all (HN18.out.ex (w14.heap.size, 87, [.int .i64 x.dev, .string (strB x.body)]) (by simp)).1) rfl ?_)
                    | ((with_reducible show wpList _ _ _ (⟨some 78, _, _, _, _, _⟩ :: _) _ _); refine wpList_loadv _ rfl 38 (.tmp 6) rfl 6 (by kernel_rfl) wx.heap.size 0 (enC x A m c) rfl (BL.all (HN18.out.ex (wx.heap.size, 38, enC x A m c) (by simp)).1) rfl ?_)
                    | ((with_reducible show wpList _ _ _ (⟨none, _, _, _, _, _⟩ :: _) _ _); refine wpList_updF _ ansV_inj rfl (.tmp 76) (.tmp 77) (.tmp 78) 58 87 38 rfl ansKeyed mapAL bm _ rfl HN18.out.mf (keyA x) (.agg (enC x A m c).toArray) rfl rfl HKA.out ?_; intro w19 a1 a2 a3; have HN19 := Lib.hid (HN18.out.rep a2 a1); clear a1 a2 a3)
                    | fail)
                  go_roundw
                  case rel => exact ⟨k + 1, _, _, _, by omega, by go_num, Lib.hid (by rw [HDD.out]; exact HN18.out.drop), Lib.hid (by rw [HDD.out, pps_none hdm]; exact hvs.out), Lib.hid (by have := hvn.out; omega), Lib.hid (by rw [HDD.out]; exact hrf.out.same (fun key => best_more HOK.out hbe (by have := HLT.out; omega) key))⟩
                  case measure => simp [intOf]; omega
        | some p =>
          cases hrp : isRep x with
          | false =>
            go_wp2_with (first
              | ((with_reducible show wpList _ _ _ (⟨some 21, _, _, _, _, _⟩ :: _) _ _); refine wpList_loadv _ rfl 38 (.tmp 20) rfl 6 (by kernel_rfl) g (o + k * 6) (enC x A m c) (by go_simp) HA.out rfl ?_)
              | ((with_reducible show wpList _ _ _ (⟨some 6, _, _, _, _, _⟩ :: _) _ _); refine wpList_alloc _ rfl 38 rfl enZ enZero ?_; intro w3 a1 a2 a3; have HV3 := Lib.hid a1; have HX3 := Lib.hid a2; clear a1 a2 a3)
              | ((with_reducible show wpList _ _ _ (⟨none, _, _, _, _, _⟩ :: _) _ _); refine wpList_storev _ rfl 38 (.tmp 6) (.tmp 21) rfl 6 (by kernel_rfl) wx.heap.size 0 _ enZ (enC x A m c) rfl rfl HV3.out rfl (one_en x A m c) (by decide) ?_; intro w4 a1 a2 a3; have HN4 := Lib.hid (hnv.out.var HX3.out a2 (show BL w4 wx.heap.size 38 (enC x A m c) from a1) (by decide) (by decide)); have q0 := a1.get (j := 0) rfl; have q1 := a1.get (j := 1) rfl; clear a1 a2 a3)
              | ((with_reducible show wpList _ _ _ (⟨some 26, _, _, _, _, _⟩ :: _) _ _); refine wpList_build _ rfl 82 _ rfl #[(0, .int .i64 x.dev), (1, .int .i64 x.seq)] (by rw [List.map_toArray]; rfl) _ (bldNum _ _ _) ?_)
              | ((with_reducible show wpList _ _ _ (⟨some 7, _, _, _, _, _⟩ :: _) _ _); refine wpList_alloc _ rfl 82 rfl [.int .i64 0, .int .i64 0] numZero ?_; intro w5 a1 a2 a3; have HV5 := Lib.hid a1; have HX5 := Lib.hid a2; clear a1 a2 a3)
              | ((with_reducible show wpList _ _ _ (⟨none, _, _, _, _, _⟩ :: _) _ _); refine wpList_storev _ rfl 82 (.tmp 7) (.tmp 26) rfl 2 (by kernel_rfl) w4.heap.size 0 _ [.int .i64 0, .int .i64 0] [.int .i64 x.dev, .int .i64 x.seq] rfl rfl HV5.out rfl (one_val _ rfl) (by decide) ?_; intro w6 a1 a2 a3; have HN6 := Lib.hid (HN4.out.var HX5.out a2 (show BL w6 w4.heap.size 82 [.int .i64 x.dev, .int .i64 x.seq] from a1) (by decide) (by decide)); clear a1 a2 a3)
              | ((with_reducible show wpList _ _ _ (⟨some 28, _, _, _, _, _⟩ :: _) _ _); refine wpList_loadv _ rfl 82 (.tmp 7) rfl 2 (by kernel_rfl) w4.heap.size 0 [.int .i64 x.dev, .int .i64 x.seq] rfl (BL.all (HN6.out.ex (w4.heap.size, 82, [.int .i64 x.dev, .int .i64 x.seq]) (by simp)).1) rfl ?_)
              | ((with_reducible show wpList _ _ _ (⟨some 29, _, _, _, _, _⟩ :: _) _ _); refine wpList_lookGv _ rfl (.tmp 27) (.tmp 28) 80 82 4 rfl numKeyed mapNB (.bool false) boolZero bs _ rfl HN6.out.mg (keyE x) rfl HKN.out (.bool false) (by rw [show (snF (dd (es.take k)) (keyE x)) = _ from hsn]) ?_)
              | ((with_reducible show wpList _ _ _ (⟨some 31, _, _, _, _, _⟩ :: _) _ _); refine wpList_loadv _ rfl 82 (.tmp 7) rfl 2 (by kernel_rfl) w4.heap.size 0 [.int .i64 x.dev, .int .i64 x.seq] rfl (BL.all (HN6.out.ex (w4.heap.size, 82, [.int .i64 x.dev, .int .i64 x.seq]) (by simp)).1) rfl ?_)
              | ((with_reducible show wpList _ _ _ (⟨none, _, _, _, _, _⟩ :: _) _ _); refine wpList_updG _ numV_inj rfl (.tmp 30) (.tmp 31) (.const (.bool true)) 80 82 4 rfl numKeyed mapNB (.bool false) bs _ rfl HN6.out.mg (keyE x) (.bool true) rfl rfl HKN.out ?_; intro w7 a1 a2 a3; have HN7 := Lib.hid (HN6.out.seen (sn' := snF (dd (es.take k) ++ [x])) a2 (a1.to (fun y => by rw [snF_snoc]; split <;> rfl))); clear a1 a2 a3)
              | ((with_reducible show wpList _ _ _ (⟨some 33, _, _, _, _, _⟩ :: _) _ _); refine wpList_loadv _ rfl 38 (.tmp 6) rfl 6 (by kernel_rfl) wx.heap.size 0 (enC x A m c) rfl (BL.all (HN7.out.ex (wx.heap.size, 38, enC x A m c) (by simp)).1) rfl ?_)
              | (go_at_call 48; refine (decp_any _ x w7 (stay_en _ _ _ _ HEN.out (below_then HB1.out HN7.out.low))).mono ?_; rintro e w8 ⟨d1, _, d3⟩; obtain ⟨cs, rfl, d4⟩ := d1 _ hdm; obtain ⟨pv, rfl, ep⟩ := pv_of d4.1; subst ep; have HPV8 := Lib.hid d4; have HN8 := Lib.hid (HN7.out.kept d3); clear d1 d3 d4)
              | ((with_reducible show wpList _ _ _ (⟨some 8, _, _, _, _, _⟩ :: _) _ _); refine wpList_alloc _ rfl 34 rfl ppZ ppZero ?_; intro w9 a1 a2 a3; have HV9 := Lib.hid a1; have HX9 := Lib.hid a2; clear a1 a2 a3)
              | ((with_reducible show wpList _ _ _ (⟨none, _, _, _, _, _⟩ :: _) _ _); refine wpList_storev _ rfl 34 (.tmp 8) (.tmp 35) rfl 5 (by kernel_rfl) w8.heap.size 0 _ ppZ (pvC pv) rfl rfl HV9.out rfl (one_pv pv) (by decide) ?_; intro w10 a1 a2 a3; rw [splice_pp _ (pvC pv) (by rfl)] at a1; have HV10 := Lib.hid a1; have b10 := low_kp HX9.out a2 (fun i hi e => by omega); have HN10 := Lib.hid (HN8.out.kept b10); have HPV10 := Lib.hid (stay_ppt _ _ _ _ HPV8.out b10); have q2 := HN10.out.bl.get (j := 0) rfl; clear a1 a2 a3 b10)
              | ((with_reducible show wpList _ _ _ (⟨some 41, _, _, _, _, _⟩ :: _) _ _); refine wpList_loadv _ rfl 34 (.tmp 8) rfl 5 (by kernel_rfl) w8.heap.size 0 _ rfl (BL.all HV10.out) rfl ?_)
              | ((with_reducible show wpList _ _ _ (⟨some 42, _, _, _, _, _⟩ :: _) _ _); refine wpList_bslice _ rfl 43 34 1 _ rfl #[(0, .agg (pvC pv).toArray)] (by rw [List.map_toArray]; rfl) (pvC pv) (bslPp pv _) ?_; intro w11 a1 a2 a3; have HG11 := Lib.hid a1; have HN11 := Lib.hid (HN10.out.kept a2); have HPV11 := Lib.hid (stay_ppt _ _ _ _ HPV10.out a2); clear a1 a2 a3)
              | ((with_reducible show wpList _ _ _ (⟨some 43, _, _, _, _, _⟩ :: _) _ _); obtain ⟨iS, i1, i2, i3, i4⟩ := info_some infoPp; refine wpList_appRW _ rfl (.tmp 40) (.tmp 42) 43 34 5 iS _ rfl Tryz.underlying43 i1 i2 i3 rfl v vs.length _ rfl HN11.out.pv.row w10.heap.size (pvC pv) rfl HG11.out rfl (one_pv pv) (by rw [i4]; have := HVN.out; omega) (by have := HVN.out; omega) ?_; intro v' w12 ap; obtain ⟨A9, c9, e9, _⟩ := ap.row.form; subst e9; have HN12 := Lib.hid (HN11.out.push HPV11.out ap); clear ap i1 i2 i3 i4)
              | ((with_reducible show wpList _ _ _ (⟨none, _, _, _, _, _⟩ :: _) _ _); refine wpList_store1 _ rfl 43 (.tmp 44) (.tmp 43) rfl (sz1 _ (by kernel_rfl) _) gv 0 _ _ (.slice A9 (vs.length + 1) c9) rfl rfl HN12.out.bl rfl rfl (by simp) ?_; intro w13 a1 a2 a3; have HNx := Lib.hid (HN12.out.put a2 a1); clear a1 a2 a3)
              | ((with_reducible show wpList _ _ _ (⟨some 45, _, _, _, _, _⟩ :: _) _ _); refine wpList_loadv _ rfl 38 (.tmp 6) rfl 6 (by kernel_rfl) wx.heap.size 0 (enC x A m c) rfl (BL.all (HNx.out.ex (wx.heap.size, 38, enC x A m c) (by simp)).1) rfl ?_)
              | (go_at_call 49; refine (isRep_any _ x w13 (stay_en _ _ _ _ HEN.out (below_then HB1.out HNx.out.low))).mono ?_; rintro e w14 ⟨rfl, b1⟩; rw [hrp]; have HNy := Lib.hid (HNx.out.kept b1); have q3 := ((HNx.out.kept b1).ex (wx.heap.size, 38, enC x A m c) (by simp)).1.get (j := 4) rfl; have q4 := ((HNx.out.kept b1).ex (wx.heap.size, 38, enC x A m c) (by simp)).1.get (j := 0) rfl; have hcs := conv_str (HBS.out.kept (below_then HB1.out (HNx.out.kept b1).low)); clear b1)
              | fail)
            go_roundw
            case rel => exact ⟨k + 1, _, _, _, by omega, by go_num, Lib.hid (by rw [HDD.out]; exact HNy.out.drop), Lib.hid (by rw [HDD.out, pps_some hdm, List.map_append, hvs.out]; rfl), Lib.hid (by have := hvn.out; rw [List.length_append]; simp; omega), Lib.hid (by rw [HDD.out]; exact hrf.out.same (fun key => best_not (by rw [okRep, hrp]; rfl) key))⟩
            case measure => simp [intOf]; omega
          | true =>
            by_cases h20 : m ≤ 20
            rotate_left
            · have f20 : decide (m ≤ 20) = false := decide_eq_false h20
              have HOK : Hid (okRep x = false) := Lib.hid (by rw [okRep, hrp, HBS.out.1, f20]; rfl)
              have h20i : (20 : Int) < (m : Int) := by omega
              clear h20
              go_wp2_with (first
                | ((with_reducible show wpList _ _ _ (⟨some 21, _, _, _, _, _⟩ :: _) _ _); refine wpList_loadv _ rfl 38 (.tmp 20) rfl 6 (by kernel_rfl) g (o + k * 6) (enC x A m c) (by go_simp) HA.out rfl ?_)
                | ((with_reducible show wpList _ _ _ (⟨some 6, _, _, _, _, _⟩ :: _) _ _); refine wpList_alloc _ rfl 38 rfl enZ enZero ?_; intro w3 a1 a2 a3; have HV3 := Lib.hid a1; have HX3 := Lib.hid a2; clear a1 a2 a3)
                | ((with_reducible show wpList _ _ _ (⟨none, _, _, _, _, _⟩ :: _) _ _); refine wpList_storev _ rfl 38 (.tmp 6) (.tmp 21) rfl 6 (by kernel_rfl) wx.heap.size 0 _ enZ (enC x A m c) rfl rfl HV3.out rfl (one_en x A m c) (by decide) ?_; intro w4 a1 a2 a3; have HN4 := Lib.hid (hnv.out.var HX3.out a2 (show BL w4 wx.heap.size 38 (enC x A m c) from a1) (by decide) (by decide)); have q0 := a1.get (j := 0) rfl; have q1 := a1.get (j := 1) rfl; clear a1 a2 a3)
                | ((with_reducible show wpList _ _ _ (⟨some 26, _, _, _, _, _⟩ :: _) _ _); refine wpList_build _ rfl 82 _ rfl #[(0, .int .i64 x.dev), (1, .int .i64 x.seq)] (by rw [List.map_toArray]; rfl) _ (bldNum _ _ _) ?_)
                | ((with_reducible show wpList _ _ _ (⟨some 7, _, _, _, _, _⟩ :: _) _ _); refine wpList_alloc _ rfl 82 rfl [.int .i64 0, .int .i64 0] numZero ?_; intro w5 a1 a2 a3; have HV5 := Lib.hid a1; have HX5 := Lib.hid a2; clear a1 a2 a3)
                | ((with_reducible show wpList _ _ _ (⟨none, _, _, _, _, _⟩ :: _) _ _); refine wpList_storev _ rfl 82 (.tmp 7) (.tmp 26) rfl 2 (by kernel_rfl) w4.heap.size 0 _ [.int .i64 0, .int .i64 0] [.int .i64 x.dev, .int .i64 x.seq] rfl rfl HV5.out rfl (one_val _ rfl) (by decide) ?_; intro w6 a1 a2 a3; have HN6 := Lib.hid (HN4.out.var HX5.out a2 (show BL w6 w4.heap.size 82 [.int .i64 x.dev, .int .i64 x.seq] from a1) (by decide) (by decide)); clear a1 a2 a3)
                | ((with_reducible show wpList _ _ _ (⟨some 28, _, _, _, _, _⟩ :: _) _ _); refine wpList_loadv _ rfl 82 (.tmp 7) rfl 2 (by kernel_rfl) w4.heap.size 0 [.int .i64 x.dev, .int .i64 x.seq] rfl (BL.all (HN6.out.ex (w4.heap.size, 82, [.int .i64 x.dev, .int .i64 x.seq]) (by simp)).1) rfl ?_)
                | ((with_reducible show wpList _ _ _ (⟨some 29, _, _, _, _, _⟩ :: _) _ _); refine wpList_lookGv _ rfl (.tmp 27) (.tmp 28) 80 82 4 rfl numKeyed mapNB (.bool false) boolZero bs _ rfl HN6.out.mg (keyE x) rfl HKN.out (.bool false) (by rw [show (snF (dd (es.take k)) (keyE x)) = _ from hsn]) ?_)
                | ((with_reducible show wpList _ _ _ (⟨some 31, _, _, _, _, _⟩ :: _) _ _); refine wpList_loadv _ rfl 82 (.tmp 7) rfl 2 (by kernel_rfl) w4.heap.size 0 [.int .i64 x.dev, .int .i64 x.seq] rfl (BL.all (HN6.out.ex (w4.heap.size, 82, [.int .i64 x.dev, .int .i64 x.seq]) (by simp)).1) rfl ?_)
                | ((with_reducible show wpList _ _ _ (⟨none, _, _, _, _, _⟩ :: _) _ _); refine wpList_updG _ numV_inj rfl (.tmp 30) (.tmp 31) (.const (.bool true)) 80 82 4 rfl numKeyed mapNB (.bool false) bs _ rfl HN6.out.mg (keyE x) (.bool true) rfl rfl HKN.out ?_; intro w7 a1 a2 a3; have HN7 := Lib.hid (HN6.out.seen (sn' := snF (dd (es.take k) ++ [x])) a2 (a1.to (fun y => by rw [snF_snoc]; split <;> rfl))); clear a1 a2 a3)
                | ((with_reducible show wpList _ _ _ (⟨some 33, _, _, _, _, _⟩ :: _) _ _); refine wpList_loadv _ rfl 38 (.tmp 6) rfl 6 (by kernel_rfl) wx.heap.size 0 (enC x A m c) rfl (BL.all (HN7.out.ex (wx.heap.size, 38, enC x A m c) (by simp)).1) rfl ?_)
                | (go_at_call 48; refine (decp_any _ x w7 (stay_en _ _ _ _ HEN.out (below_then HB1.out HN7.out.low))).mono ?_; rintro e w8 ⟨d1, _, d3⟩; obtain ⟨cs, rfl, d4⟩ := d1 _ hdm; obtain ⟨pv, rfl, ep⟩ := pv_of d4.1; subst ep; have HPV8 := Lib.hid d4; have HN8 := Lib.hid (HN7.out.kept d3); clear d1 d3 d4)
                | ((with_reducible show wpList _ _ _ (⟨some 8, _, _, _, _, _⟩ :: _) _ _); refine wpList_alloc _ rfl 34 rfl ppZ ppZero ?_; intro w9 a1 a2 a3; have HV9 := Lib.hid a1; have HX9 := Lib.hid a2; clear a1 a2 a3)
                | ((with_reducible show wpList _ _ _ (⟨none, _, _, _, _, _⟩ :: _) _ _); refine wpList_storev _ rfl 34 (.tmp 8) (.tmp 35) rfl 5 (by kernel_rfl) w8.heap.size 0 _ ppZ (pvC pv) rfl rfl HV9.out rfl (one_pv pv) (by decide) ?_; intro w10 a1 a2 a3; rw [splice_pp _ (pvC pv) (by rfl)] at a1; have HV10 := Lib.hid a1; have b10 := low_kp HX9.out a2 (fun i hi e => by omega); have HN10 := Lib.hid (HN8.out.kept b10); have HPV10 := Lib.hid (stay_ppt _ _ _ _ HPV8.out b10); have q2 := HN10.out.bl.get (j := 0) rfl; clear a1 a2 a3 b10)
                | ((with_reducible show wpList _ _ _ (⟨some 41, _, _, _, _, _⟩ :: _) _ _); refine wpList_loadv _ rfl 34 (.tmp 8) rfl 5 (by kernel_rfl) w8.heap.size 0 _ rfl (BL.all HV10.out) rfl ?_)
                | ((with_reducible show wpList _ _ _ (⟨some 42, _, _, _, _, _⟩ :: _) _ _); refine wpList_bslice _ rfl 43 34 1 _ rfl #[(0, .agg (pvC pv).toArray)] (by rw [List.map_toArray]; rfl) (pvC pv) (bslPp pv _) ?_; intro w11 a1 a2 a3; have HG11 := Lib.hid a1; have HN11 := Lib.hid (HN10.out.kept a2); have HPV11 := Lib.hid (stay_ppt _ _ _ _ HPV10.out a2); clear a1 a2 a3)
                | ((with_reducible show wpList _ _ _ (⟨some 43, _, _, _, _, _⟩ :: _) _ _); obtain ⟨iS, i1, i2, i3, i4⟩ := info_some infoPp; refine wpList_appRW _ rfl (.tmp 40) (.tmp 42) 43 34 5 iS _ rfl Tryz.underlying43 i1 i2 i3 rfl v vs.length _ rfl HN11.out.pv.row w10.heap.size (pvC pv) rfl HG11.out rfl (one_pv pv) (by rw [i4]; have := HVN.out; omega) (by have := HVN.out; omega) ?_; intro v' w12 ap; obtain ⟨A9, c9, e9, _⟩ := ap.row.form; subst e9; have HN12 := Lib.hid (HN11.out.push HPV11.out ap); clear ap i1 i2 i3 i4)
                | ((with_reducible show wpList _ _ _ (⟨none, _, _, _, _, _⟩ :: _) _ _); refine wpList_store1 _ rfl 43 (.tmp 44) (.tmp 43) rfl (sz1 _ (by kernel_rfl) _) gv 0 _ _ (.slice A9 (vs.length + 1) c9) rfl rfl HN12.out.bl rfl rfl (by simp) ?_; intro w13 a1 a2 a3; have HNx := Lib.hid (HN12.out.put a2 a1); clear a1 a2 a3)
                | ((with_reducible show wpList _ _ _ (⟨some 45, _, _, _, _, _⟩ :: _) _ _); refine wpList_loadv _ rfl 38 (.tmp 6) rfl 6 (by kernel_rfl) wx.heap.size 0 (enC x A m c) rfl (BL.all (HNx.out.ex (wx.heap.size, 38, enC x A m c) (by simp)).1) rfl ?_)
                | (go_at_call 49; refine (isRep_any _ x w13 (stay_en _ _ _ _ HEN.out (below_then HB1.out HNx.out.low))).mono ?_; rintro e w14 ⟨rfl, b1⟩; rw [hrp]; have HNy := Lib.hid (HNx.out.kept b1); have q3 := ((HNx.out.kept b1).ex (wx.heap.size, 38, enC x A m c) (by simp)).1.get (j := 4) rfl; have q4 := ((HNx.out.kept b1).ex (wx.heap.size, 38, enC x A m c) (by simp)).1.get (j := 0) rfl; have hcs := conv_str (HBS.out.kept (below_then HB1.out (HNx.out.kept b1).low)); clear b1)
                | fail)
              go_roundw
              case rel => exact ⟨k + 1, _, _, _, by omega, by go_num, Lib.hid (by rw [HDD.out]; exact HNy.out.drop), Lib.hid (by rw [HDD.out, pps_some hdm, List.map_append, hvs.out]; rfl), Lib.hid (by have := hvn.out; rw [List.length_append]; simp; omega), Lib.hid (by rw [HDD.out]; exact hrf.out.same (fun key => best_not HOK.out key))⟩
              case measure => simp [intOf]; omega
            · have f20 : decide (m ≤ 20) = true := decide_eq_true h20
              have HOK : Hid (okRep x = true) := Lib.hid (by rw [okRep, hrp, HBS.out.1, f20]; rfl)
              have HKA : Hid (∃ lx, keyOf Tryz.prog 87 (ansV (keyA x)) = some lx) := Lib.hid (keyAns (keyA x) HWD.out (by show x.body.length ≤ _; rw [HBS.out.1]; omega))
              have h20i : ¬ (20 : Int) < (m : Int) := by omega
              clear h20
              cases hbe : best (dd (es.take k)) (keyA x) with
              | none =>
                have HFK := Lib.hid (hrf.out.no hbe)
                go_wp2_with (first
                  | ((with_reducible show wpList _ _ _ (⟨some 21, _, _, _, _, _⟩ :: _) _ _); refine wpList_loadv _ rfl 38 (.tmp 20) rfl 6 (by kernel_rfl) g (o + k * 6) (enC x A m c) (by go_simp) HA.out rfl ?_)
                  | ((with_reducible show wpList _ _ _ (⟨some 6, _, _, _, _, _⟩ :: _) _ _); refine wpList_alloc _ rfl 38 rfl enZ enZero ?_; intro w3 a1 a2 a3; have HV3 := Lib.hid a1; have HX3 := Lib.hid a2; clear a1 a2 a3)
                  | ((with_reducible show wpList _ _ _ (⟨none, _, _, _, _, _⟩ :: _) _ _); refine wpList_storev _ rfl 38 (.tmp 6) (.tmp 21) rfl 6 (by kernel_rfl) wx.heap.size 0 _ enZ (enC x A m c) rfl rfl HV3.out rfl (one_en x A m c) (by decide) ?_; intro w4 a1 a2 a3; have HN4 := Lib.hid (hnv.out.var HX3.out a2 (show BL w4 wx.heap.size 38 (enC x A m c) from a1) (by decide) (by decide)); have q0 := a1.get (j := 0) rfl; have q1 := a1.get (j := 1) rfl; clear a1 a2 a3)
                  | ((with_reducible show wpList _ _ _ (⟨some 26, _, _, _, _, _⟩ :: _) _ _); refine wpList_build _ rfl 82 _ rfl #[(0, .int .i64 x.dev), (1, .int .i64 x.seq)] (by rw [List.map_toArray]; rfl) _ (bldNum _ _ _) ?_)
                  | ((with_reducible show wpList _ _ _ (⟨some 7, _, _, _, _, _⟩ :: _) _ _); refine wpList_alloc _ rfl 82 rfl [.int .i64 0, .int .i64 0] numZero ?_; intro w5 a1 a2 a3; have HV5 := Lib.hid a1; have HX5 := Lib.hid a2; clear a1 a2 a3)
                  | ((with_reducible show wpList _ _ _ (⟨none, _, _, _, _, _⟩ :: _) _ _); refine wpList_storev _ rfl 82 (.tmp 7) (.tmp 26) rfl 2 (by kernel_rfl) w4.heap.size 0 _ [.int .i64 0, .int .i64 0] [.int .i64 x.dev, .int .i64 x.seq] rfl rfl HV5.out rfl (one_val _ rfl) (by decide) ?_; intro w6 a1 a2 a3; have HN6 := Lib.hid (HN4.out.var HX5.out a2 (show BL w6 w4.heap.size 82 [.int .i64 x.dev, .int .i64 x.seq] from a1) (by decide) (by decide)); clear a1 a2 a3)
                  | ((with_reducible show wpList _ _ _ (⟨some 28, _, _, _, _, _⟩ :: _) _ _); refine wpList_loadv _ rfl 82 (.tmp 7) rfl 2 (by kernel_rfl) w4.heap.size 0 [.int .i64 x.dev, .int .i64 x.seq] rfl (BL.all (HN6.out.ex (w4.heap.size, 82, [.int .i64 x.dev, .int .i64 x.seq]) (by simp)).1) rfl ?_)
                  | ((with_reducible show wpList _ _ _ (⟨some 29, _, _, _, _, _⟩ :: _) _ _); refine wpList_lookGv _ rfl (.tmp 27) (.tmp 28) 80 82 4 rfl numKeyed mapNB (.bool false) boolZero bs _ rfl HN6.out.mg (keyE x) rfl HKN.out (.bool false) (by rw [show (snF (dd (es.take k)) (keyE x)) = _ from hsn]) ?_)
                  | ((with_reducible show wpList _ _ _ (⟨some 31, _, _, _, _, _⟩ :: _) _ _); refine wpList_loadv _ rfl 82 (.tmp 7) rfl 2 (by kernel_rfl) w4.heap.size 0 [.int .i64 x.dev, .int .i64 x.seq] rfl (BL.all (HN6.out.ex (w4.heap.size, 82, [.int .i64 x.dev, .int .i64 x.seq]) (by simp)).1) rfl ?_)
                  | ((with_reducible show wpList _ _ _ (⟨none, _, _, _, _, _⟩ :: _) _ _); refine wpList_updG _ numV_inj rfl (.tmp 30) (.tmp 31) (.const (.bool true)) 80 82 4 rfl numKeyed mapNB (.bool false) bs _ rfl HN6.out.mg (keyE x) (.bool true) rfl rfl HKN.out ?_; intro w7 a1 a2 a3; have HN7 := Lib.hid (HN6.out.seen (sn' := snF (dd (es.take k) ++ [x])) a2 (a1.to (fun y => by rw [snF_snoc]; split <;> rfl))); clear a1 a2 a3)
                  | ((with_reducible show wpList _ _ _ (⟨some 33, _, _, _, _, _⟩ :: _) _ _); refine wpList_loadv _ rfl 38 (.tmp 6) rfl 6 (by kernel_rfl) wx.heap.size 0 (enC x A m c) rfl (BL.all (HN7.out.ex (wx.heap.size, 38, enC x A m c) (by simp)).1) rfl ?_)
                  | (go_at_call 48; refine (decp_any _ x w7 (stay_en _ _ _ _ HEN.out (below_then HB1.out HN7.out.low))).mono ?_; rintro e w8 ⟨d1, _, d3⟩; obtain ⟨cs, rfl, d4⟩ := d1 _ hdm; obtain ⟨pv, rfl, ep⟩ := pv_of d4.1; subst ep; have HPV8 := Lib.hid d4; have HN8 := Lib.hid (HN7.out.kept d3); clear d1 d3 d4)
                  | ((with_reducible show wpList _ _ _ (⟨some 8, _, _, _, _, _⟩ :: _) _ _); refine wpList_alloc _ rfl 34 rfl ppZ ppZero ?_; intro w9 a1 a2 a3; have HV9 := Lib.hid a1; have HX9 := Lib.hid a2; clear a1 a2 a3)
                  | ((with_reducible show wpList _ _ _ (⟨none, _, _, _, _, _⟩ :: _) _ _); refine wpList_storev _ rfl 34 (.tmp 8) (.tmp 35) rfl 5 (by kernel_rfl) w8.heap.size 0 _ ppZ (pvC pv) rfl rfl HV9.out rfl (one_pv pv) (by decide) ?_; intro w10 a1 a2 a3; rw [splice_pp _ (pvC pv) (by rfl)] at a1; have HV10 := Lib.hid a1; have b10 := low_kp HX9.out a2 (fun i hi e => by omega); have HN10 := Lib.hid (HN8.out.kept b10); have HPV10 := Lib.hid (stay_ppt _ _ _ _ HPV8.out b10); have q2 := HN10.out.bl.get (j := 0) rfl; clear a1 a2 a3 b10)
                  | ((with_reducible show wpList _ _ _ (⟨some 41, _, _, _, _, _⟩ :: _) _ _); refine wpList_loadv _ rfl 34 (.tmp 8) rfl 5 (by kernel_rfl) w8.heap.size 0 _ rfl (BL.all HV10.out) rfl ?_)
                  | ((with_reducible show wpList _ _ _ (⟨some 42, _, _, _, _, _⟩ :: _) _ _); refine wpList_bslice _ rfl 43 34 1 _ rfl #[(0, .agg (pvC pv).toArray)] (by rw [List.map_toArray]; rfl) (pvC pv) (bslPp pv _) ?_; intro w11 a1 a2 a3; have HG11 := Lib.hid a1; have HN11 := Lib.hid (HN10.out.kept a2); have HPV11 := Lib.hid (stay_ppt _ _ _ _ HPV10.out a2); clear a1 a2 a3)
                  | ((with_reducible show wpList _ _ _ (⟨some 43, _, _, _, _, _⟩ :: _) _ _); obtain ⟨iS, i1, i2, i3, i4⟩ := info_some infoPp; refine wpList_appRW _ rfl (.tmp 40) (.tmp 42) 43 34 5 iS _ rfl Tryz.underlying43 i1 i2 i3 rfl v vs.length _ rfl HN11.out.pv.row w10.heap.size (pvC pv) rfl HG11.out rfl (one_pv pv) (by rw [i4]; have := HVN.out; omega) (by have := HVN.out; omega) ?_; intro v' w12 ap; obtain ⟨A9, c9, e9, _⟩ := ap.row.form; subst e9; have HN12 := Lib.hid (HN11.out.push HPV11.out ap); clear ap i1 i2 i3 i4)
                  | ((with_reducible show wpList _ _ _ (⟨none, _, _, _, _, _⟩ :: _) _ _); refine wpList_store1 _ rfl 43 (.tmp 44) (.tmp 43) rfl (sz1 _ (by kernel_rfl) _) gv 0 _ _ (.slice A9 (vs.length + 1) c9) rfl rfl HN12.out.bl rfl rfl (by simp) ?_; intro w13 a1 a2 a3; have HNx := Lib.hid (HN12.out.put a2 a1); clear a1 a2 a3)
                  | ((with_reducible show wpList _ _ _ (⟨some 45, _, _, _, _, _⟩ :: _) _ _); refine wpList_loadv _ rfl 38 (.tmp 6) rfl 6 (by kernel_rfl) wx.heap.size 0 (enC x A m c) rfl (BL.all (HNx.out.ex (wx.heap.size, 38, enC x A m c) (by simp)).1) rfl ?_)
                  | (go_at_call 49; refine (isRep_any _ x w13 (stay_en _ _ _ _ HEN.out (below_then HB1.out HNx.out.low))).mono ?_; rintro e w14 ⟨rfl, b1⟩; rw [hrp]; have HNy := Lib.hid (HNx.out.kept b1); have q3 := ((HNx.out.kept b1).ex (wx.heap.size, 38, enC x A m c) (by simp)).1.get (j := 4) rfl; have q4 := ((HNx.out.kept b1).ex (wx.heap.size, 38, enC x A m c) (by simp)).1.get (j := 0) rfl; have hcs := conv_str (HBS.out.kept (below_then HB1.out (HNx.out.kept b1).low)); clear b1)
                  | ((with_reducible show wpList _ _ _ (⟨some 58, _, _, _, _, _⟩ :: _) _ _); refine wpList_build _ rfl 87 _ rfl #[(0, .int .i64 x.dev), (1, .string (strB x.body))] (by rw [List.map_toArray]; rfl) _ (bldAns _ _ _) ?_)
                  | ((with_reducible show wpList _ _ _ (⟨some 10, _, _, _, _, _⟩ :: _) _ _); refine wpList_alloc _ rfl 87 rfl [.int .i64 0, .string (strB [])] ansZero ?_; intro w15 a1 a2 a3; have HV15 := Lib.hid a1; have HX15 := Lib.hid a2; clear a1 a2 a3)
                  | ((with_reducible show wpList _ _ _ (⟨none, _, _, _, _, _⟩ :: _) _ _); refine wpList_storev _ rfl 87 (.tmp 10) (.tmp 58) rfl 2 (by kernel_rfl) w14.heap.size 0 _ [.int .i64 0, .string (strB [])] [.int .i64 x.dev, .string (strB x.body)] rfl rfl HV15.out rfl (one_val _ rfl) (by decide) ?_; intro w16 a1 a2 a3; have HN16 := Lib.hid (HNy.out.var HX15.out a2 (show BL w16 w14.heap.size 87 [.int .i64 x.dev, .string (strB x.body)] from a1) (by decide) (by decide)); have q5 := HN16.out.bl.get (j := 1) rfl; clear a1 a2 a3)
                  | ((with_reducible show wpList _ _ _ (⟨some 62, _, _, _, _, _⟩ :: _) _ _); refine wpList_loadv _ rfl 87 (.tmp 10) rfl 2 (by kernel_rfl) w14.heap.size 0 [.int .i64 x.dev, .string (strB x.body)] rfl (BL.all (HN16.out.ex (w14.heap.size, 87, [.int .i64 x.dev, .string (strB x.body)]) (by simp)).1) rfl ?_)
                  | ((with_reducible show wpList _ _ _ (⟨some 63, _, _, _, _, _⟩ :: _) _ _); refine wpList_lookokFv _ rfl (.tmp 61) (.tmp 62) 58 87 38 rfl ansKeyed mapAL (.agg enZ.toArray) enZero bm _ rfl HN16.out.mf (keyA x) rfl HKA.out (.agg (enZ).toArray) false (by rw [HFK.out]; rfl) (by rw [HFK.out]; rfl) ?_)
                  | ((with_reducible show wpList _ _ _ (⟨some 11, _, _, _, _, _⟩ :: _) _ _); refine wpList_alloc _ rfl 38 rfl enZ enZero ?_; intro w17 a1 a2 a3; have HV17 := Lib.hid a1; have HX17 := Lib.hid a2; clear a1 a2 a3)
                  | ((with_reducible show wpList _ _ _ (⟨none, _, _, _, _, _⟩ :: _) _ _); refine wpList_storev _ rfl 38 (.tmp 11) (.tmp 64) rfl 6 (by kernel_rfl) w16.heap.size 0 _ enZ (enZ) rfl rfl HV17.out rfl (one_val _ rfl) (by decide) ?_; intro w18 a1 a2 a3; have HN18 := Lib.hid (HN16.out.var HX17.out a2 (show BL w18 w16.heap.size 38 (enZ) from a1) (by decide) (by decide)); have q6 := (show BL w18 w16.heap.size 38 (enZ) from a1).get (j := 1) rfl; have q7 := (HN18.out.ex (wx.heap.size, 38, enC x A m c) (by simp)).1.get (j := 1) rfl; have q8 := HN18.out.bl.get (j := 1) rfl; clear a1 a2 a3)
                  | ((with_reducible show wpList _ _ _ (⟨some 77, _, _, _, _, _⟩ :: _) _ _); refine wpList_loadv _ rfl 87 (.tmp 10) rfl 2 (by kernel_rfl) w14.heap.size 0 [.int .i64 x.dev, .string (strB x.body)] rfl (BL.all (HN18.out.ex (w14.heap.size, 87, [.int .i64 x.dev, .string (strB x.body)]) (by simp)).1) rfl ?_)
                  | ((with_reducible show wpList _ _ _ (⟨some 78, _, _, _, _, _⟩ :: _) _ _); refine wpList_loadv _ rfl 38 (.tmp 6) rfl 6 (by kernel_rfl) wx.heap.size 0 (enC x A m c) rfl (BL.all (HN18.out.ex (wx.heap.size, 38, enC x A m c) (by simp)).1) rfl ?_)
                  | ((with_reducible show wpList _ _ _ (⟨none, _, _, _, _, _⟩ :: _) _ _); refine wpList_updF _ ansV_inj rfl (.tmp 76) (.tmp 77) (.tmp 78) 58 87 38 rfl ansKeyed mapAL bm _ rfl HN18.out.mf (keyA x) (.agg (enC x A m c).toArray) rfl rfl HKA.out ?_; intro w19 a1 a2 a3; have HN19 := Lib.hid (HN18.out.rep a2 a1); clear a1 a2 a3)
                  | fail)
                go_roundw
                case rel => exact ⟨k + 1, _, _, _, by omega, by go_num, Lib.hid (by rw [HDD.out]; exact HN19.out.drop), Lib.hid (by rw [HDD.out, pps_some hdm, List.map_append, hvs.out]; rfl), Lib.hid (by have := hvn.out; rw [List.length_append]; simp; omega), Lib.hid (by rw [HDD.out]; exact hrf.out.upd (best_new HOK.out hbe))⟩
                case measure => simp [intOf]; omega
              | some y =>
                obtain ⟨A', n', c', hfk⟩ := hrf.out.yes hbe
                have HFK := Lib.hid hfk
                clear hfk
                by_cases hlt2 : x.seq < y.seq
                · have fl : decide (x.seq < y.seq) = true := decide_eq_true hlt2
                  have HLT := Lib.hid hlt2
                  clear hlt2
                  go_wp2_with (first
                    | ((with_reducible show wpList _ _ _ (⟨some 21, _, _, _, _, _⟩ :: _) _ _); refine wpList_loadv _ rfl 38 (.tmp 20) rfl 6 (by kernel_rfl) g (o + k * 6) (enC x A m c) (by go_simp) HA.out rfl ?_)
                    | ((with_reducible show wpList _ _ _ (⟨some 6, _, _, _, _, _⟩ :: _) _ _); refine wpList_alloc _ rfl 38 rfl enZ enZero ?_; intro w3 a1 a2 a3; have HV3 := Lib.hid a1; have HX3 := Lib.hid a2; clear a1 a2 a3)
                    | ((with_reducible show wpList _ _ _ (⟨none, _, _, _, _, _⟩ :: _) _ _); refine wpList_storev _ rfl 38 (.tmp 6) (.tmp 21) rfl 6 (by kernel_rfl) wx.heap.size 0 _ enZ (enC x A m c) rfl rfl HV3.out rfl (one_en x A m c) (by decide) ?_; intro w4 a1 a2 a3; have HN4 := Lib.hid (hnv.out.var HX3.out a2 (show BL w4 wx.heap.size 38 (enC x A m c) from a1) (by decide) (by decide)); have q0 := a1.get (j := 0) rfl; have q1 := a1.get (j := 1) rfl; clear a1 a2 a3)
                    | ((with_reducible show wpList _ _ _ (⟨some 26, _, _, _, _, _⟩ :: _) _ _); refine wpList_build _ rfl 82 _ rfl #[(0, .int .i64 x.dev), (1, .int .i64 x.seq)] (by rw [List.map_toArray]; rfl) _ (bldNum _ _ _) ?_)
                    | ((with_reducible show wpList _ _ _ (⟨some 7, _, _, _, _, _⟩ :: _) _ _); refine wpList_alloc _ rfl 82 rfl [.int .i64 0, .int .i64 0] numZero ?_; intro w5 a1 a2 a3; have HV5 := Lib.hid a1; have HX5 := Lib.hid a2; clear a1 a2 a3)
                    | ((with_reducible show wpList _ _ _ (⟨none, _, _, _, _, _⟩ :: _) _ _); refine wpList_storev _ rfl 82 (.tmp 7) (.tmp 26) rfl 2 (by kernel_rfl) w4.heap.size 0 _ [.int .i64 0, .int .i64 0] [.int .i64 x.dev, .int .i64 x.seq] rfl rfl HV5.out rfl (one_val _ rfl) (by decide) ?_; intro w6 a1 a2 a3; have HN6 := Lib.hid (HN4.out.var HX5.out a2 (show BL w6 w4.heap.size 82 [.int .i64 x.dev, .int .i64 x.seq] from a1) (by decide) (by decide)); clear a1 a2 a3)
                    | ((with_reducible show wpList _ _ _ (⟨some 28, _, _, _, _, _⟩ :: _) _ _); refine wpList_loadv _ rfl 82 (.tmp 7) rfl 2 (by kernel_rfl) w4.heap.size 0 [.int .i64 x.dev, .int .i64 x.seq] rfl (BL.all (HN6.out.ex (w4.heap.size, 82, [.int .i64 x.dev, .int .i64 x.seq]) (by simp)).1) rfl ?_)
                    | ((with_reducible show wpList _ _ _ (⟨some 29, _, _, _, _, _⟩ :: _) _ _); refine wpList_lookGv _ rfl (.tmp 27) (.tmp 28) 80 82 4 rfl numKeyed mapNB (.bool false) boolZero bs _ rfl HN6.out.mg (keyE x) rfl HKN.out (.bool false) (by rw [show (snF (dd (es.take k)) (keyE x)) = _ from hsn]) ?_)
                    | ((with_reducible show wpList _ _ _ (⟨some 31, _, _, _, _, _⟩ :: _) _ _); refine wpList_loadv _ rfl 82 (.tmp 7) rfl 2 (by kernel_rfl) w4.heap.size 0 [.int .i64 x.dev, .int .i64 x.seq] rfl (BL.all (HN6.out.ex (w4.heap.size, 82, [.int .i64 x.dev, .int .i64 x.seq]) (by simp)).1) rfl ?_)
                    | ((with_reducible show wpList _ _ _ (⟨none, _, _, _, _, _⟩ :: _) _ _); refine wpList_updG _ numV_inj rfl (.tmp 30) (.tmp 31) (.const (.bool true)) 80 82 4 rfl numKeyed mapNB (.bool false) bs _ rfl HN6.out.mg (keyE x) (.bool true) rfl rfl HKN.out ?_; intro w7 a1 a2 a3; have HN7 := Lib.hid (HN6.out.seen (sn' := snF (dd (es.take k) ++ [x])) a2 (a1.to (fun y => by rw [snF_snoc]; split <;> rfl))); clear a1 a2 a3)
                    | ((with_reducible show wpList _ _ _ (⟨some 33, _, _, _, _, _⟩ :: _) _ _); refine wpList_loadv _ rfl 38 (.tmp 6) rfl 6 (by kernel_rfl) wx.heap.size 0 (enC x A m c) rfl (BL.all (HN7.out.ex (wx.heap.size, 38, enC x A m c) (by simp)).1) rfl ?_)
                    | (go_at_call 48; refine (decp_any _ x w7 (stay_en _ _ _ _ HEN.out (below_then HB1.out HN7.out.low))).mono ?_; rintro e w8 ⟨d1, _, d3⟩; obtain ⟨cs, rfl, d4⟩ := d1 _ hdm; obtain ⟨pv, rfl, ep⟩ := pv_of d4.1; subst ep; have HPV8 := Lib.hid d4; have HN8 := Lib.hid (HN7.out.kept d3); clear d1 d3 d4)
                    | ((with_reducible show wpList _ _ _ (⟨some 8, _, _, _, _, _⟩ :: _) _ _); refine wpList_alloc _ rfl 34 rfl ppZ ppZero ?_; intro w9 a1 a2 a3; have HV9 := Lib.hid a1; have HX9 := Lib.hid a2; clear a1 a2 a3)
                    | ((with_reducible show wpList _ _ _ (⟨none, _, _, _, _, _⟩ :: _) _ _); refine wpList_storev _ rfl 34 (.tmp 8) (.tmp 35) rfl 5 (by kernel_rfl) w8.heap.size 0 _ ppZ (pvC pv) rfl rfl HV9.out rfl (one_pv pv) (by decide) ?_; intro w10 a1 a2 a3; rw [splice_pp _ (pvC pv) (by rfl)] at a1; have HV10 := Lib.hid a1; have b10 := low_kp HX9.out a2 (fun i hi e => by omega); have HN10 := Lib.hid (HN8.out.kept b10); have HPV10 := Lib.hid (stay_ppt _ _ _ _ HPV8.out b10); have q2 := HN10.out.bl.get (j := 0) rfl; clear a1 a2 a3 b10)
                    | ((with_reducible show wpList _ _ _ (⟨some 41, _, _, _, _, _⟩ :: _) _ _); refine wpList_loadv _ rfl 34 (.tmp 8) rfl 5 (by kernel_rfl) w8.heap.size 0 _ rfl (BL.all HV10.out) rfl ?_)
                    | ((with_reducible show wpList _ _ _ (⟨some 42, _, _, _, _, _⟩ :: _) _ _); refine wpList_bslice _ rfl 43 34 1 _ rfl #[(0, .agg (pvC pv).toArray)] (by rw [List.map_toArray]; rfl) (pvC pv) (bslPp pv _) ?_; intro w11 a1 a2 a3; have HG11 := Lib.hid a1; have HN11 := Lib.hid (HN10.out.kept a2); have HPV11 := Lib.hid (stay_ppt _ _ _ _ HPV10.out a2); clear a1 a2 a3)
                    | ((with_reducible show wpList _ _ _ (⟨some 43, _, _, _, _, _⟩ :: _) _ _); obtain ⟨iS, i1, i2, i3, i4⟩ := info_some infoPp; refine wpList_appRW _ rfl (.tmp 40) (.tmp 42) 43 34 5 iS _ rfl Tryz.underlying43 i1 i2 i3 rfl v vs.length _ rfl HN11.out.pv.row w10.heap.size (pvC pv) rfl HG11.out rfl (one_pv pv) (by rw [i4]; have := HVN.out; omega) (by have := HVN.out; omega) ?_; intro v' w12 ap; obtain ⟨A9, c9, e9, _⟩ := ap.row.form; subst e9; have HN12 := Lib.hid (HN11.out.push HPV11.out ap); clear ap i1 i2 i3 i4)
                    | ((with_reducible show wpList _ _ _ (⟨none, _, _, _, _, _⟩ :: _) _ _); refine wpList_store1 _ rfl 43 (.tmp 44) (.tmp 43) rfl (sz1 _ (by kernel_rfl) _) gv 0 _ _ (.slice A9 (vs.length + 1) c9) rfl rfl HN12.out.bl rfl rfl (by simp) ?_; intro w13 a1 a2 a3; have HNx := Lib.hid (HN12.out.put a2 a1); clear a1 a2 a3)
                    | ((with_reducible show wpList _ _ _ (⟨some 45, _, _, _, _, _⟩ :: _) _ _); refine wpList_loadv _ rfl 38 (.tmp 6) rfl 6 (by kernel_rfl) wx.heap.size 0 (enC x A m c) rfl (BL.all (HNx.out.ex (wx.heap.size, 38, enC x A m c) (by simp)).1) rfl ?_)
                    | (go_at_call 49; refine (isRep_any _ x w13 (stay_en _ _ _ _ HEN.out (below_then HB1.out HNx.out.low))).mono ?_; rintro e w14 ⟨rfl, b1⟩; rw [hrp]; have HNy := Lib.hid (HNx.out.kept b1); have q3 := ((HNx.out.kept b1).ex (wx.heap.size, 38, enC x A m c) (by simp)).1.get (j := 4) rfl; have q4 := ((HNx.out.kept b1).ex (wx.heap.size, 38, enC x A m c) (by simp)).1.get (j := 0) rfl; have hcs := conv_str (HBS.out.kept (below_then HB1.out (HNx.out.kept b1).low)); clear b1)
                    | ((with_reducible show wpList _ _ _ (⟨some 58, _, _, _, _, _⟩ :: _) _ _); refine wpList_build _ rfl 87 _ rfl #[(0, .int .i64 x.dev), (1, .string (strB x.body))] (by rw [List.map_toArray]; rfl) _ (bldAns _ _ _) ?_)
                    | ((with_reducible show wpList _ _ _ (⟨some 10, _, _, _, _, _⟩ :: _) _ _); refine wpList_alloc _ rfl 87 rfl [.int .i64 0, .string (strB [])] ansZero ?_; intro w15 a1 a2 a3; have HV15 := Lib.hid a1; have HX15 := Lib.hid a2; clear a1 a2 a3)
                    | ((with_reducible show wpList _ _ _ (⟨none, _, _, _, _, _⟩ :: _) _ _); refine wpList_storev _ rfl 87 (.tmp 10) (.tmp 58) rfl 2 (by kernel_rfl) w14.heap.size 0 _ [.int .i64 0, .string (strB [])] [.int .i64 x.dev, .string (strB x.body)] rfl rfl HV15.out rfl (one_val _ rfl) (by decide) ?_; intro w16 a1 a2 a3; have HN16 := Lib.hid (HNy.out.var HX15.out a2 (show BL w16 w14.heap.size 87 [.int .i64 x.dev, .string (strB x.body)] from a1) (by decide) (by decide)); have q5 := HN16.out.bl.get (j := 1) rfl; clear a1 a2 a3)
                    | ((with_reducible show wpList _ _ _ (⟨some 62, _, _, _, _, _⟩ :: _) _ _); refine wpList_loadv _ rfl 87 (.tmp 10) rfl 2 (by kernel_rfl) w14.heap.size 0 [.int .i64 x.dev, .string (strB x.body)] rfl (BL.all (HN16.out.ex (w14.heap.size, 87, [.int .i64 x.dev, .string (strB x.body)]) (by simp)).1) rfl ?_)
                    | ((with_reducible show wpList _ _ _ (⟨some 63, _, _, _, _, _⟩ :: _) _ _); refine wpList_lookokFv _ rfl (.tmp 61) (.tmp 62) 58 87 38 rfl ansKeyed mapAL (.agg enZ.toArray) enZero bm _ rfl HN16.out.mf (keyA x) rfl HKA.out (.agg (enC y A' n' c').toArray) true (by rw [HFK.out]; rfl) (by rw [HFK.out]; rfl) ?_)
                    | ((with_reducible show wpList _ _ _ (⟨some 11, _, _, _, _, _⟩ :: _) _ _); refine wpList_alloc _ rfl 38 rfl enZ enZero ?_; intro w17 a1 a2 a3; have HV17 := Lib.hid a1; have HX17 := Lib.hid a2; clear a1 a2 a3)
                    | ((with_reducible show wpList _ _ _ (⟨none, _, _, _, _, _⟩ :: _) _ _); refine wpList_storev _ rfl 38 (.tmp 11) (.tmp 64) rfl 6 (by kernel_rfl) w16.heap.size 0 _ enZ (enC y A' n' c') rfl rfl HV17.out rfl (one_val _ rfl) (by decide) ?_; intro w18 a1 a2 a3; have HN18 := Lib.hid (HN16.out.var HX17.out a2 (show BL w18 w16.heap.size 38 (enC y A' n' c') from a1) (by decide) (by decide)); have q6 := (show BL w18 w16.heap.size 38 (enC y A' n' c') from a1).get (j := 1) rfl; have q7 := (HN18.out.ex (wx.heap.size, 38, enC x A m c) (by simp)).1.get (j := 1) rfl; have q8 := HN18.out.bl.get (j := 1) rfl; clear a1 a2 a3)
                    | ((with_reducible show wpList _ _ _ (⟨some 77, _, _, _, _, _⟩ :: _) _ _); refine wpList_loadv _ rfl 87 (.tmp 10) rfl 2 (by kernel_rfl) w14.heap.size 0 [.int .i64 x.dev, .string (strB x.body)] rfl (BL.all (HN18.out.ex (w14.heap.size, 87, [.int .i64 x.dev, .string (strB x.body)]) (by simp)).1) rfl ?_)
                    | ((with_reducible show wpList _ _ _ (⟨some 78, _, _, _, _, _⟩ :: _) _ _); refine wpList_loadv _ rfl 38 (.tmp 6) rfl 6 (by kernel_rfl) wx.heap.size 0 (enC x A m c) rfl (BL.all (HN18.out.ex (wx.heap.size, 38, enC x A m c) (by simp)).1) rfl ?_)
                    | ((with_reducible show wpList _ _ _ (⟨none, _, _, _, _, _⟩ :: _) _ _); refine wpList_updF _ ansV_inj rfl (.tmp 76) (.tmp 77) (.tmp 78) 58 87 38 rfl ansKeyed mapAL bm _ rfl HN18.out.mf (keyA x) (.agg (enC x A m c).toArray) rfl rfl HKA.out ?_; intro w19 a1 a2 a3; have HN19 := Lib.hid (HN18.out.rep a2 a1); clear a1 a2 a3)
                    | fail)
                  go_roundw
                  case rel => exact ⟨k + 1, _, _, _, by omega, by go_num, Lib.hid (by rw [HDD.out]; exact HN19.out.drop), Lib.hid (by rw [HDD.out, pps_some hdm, List.map_append, hvs.out]; rfl), Lib.hid (by have := hvn.out; rw [List.length_append]; simp; omega), Lib.hid (by rw [HDD.out]; exact hrf.out.upd (best_less HOK.out hbe HLT.out))⟩
                  case measure => simp [intOf]; omega
                · have fl : decide (x.seq < y.seq) = false := decide_eq_false hlt2
                  have HLT := Lib.hid hlt2
                  clear hlt2
                  go_wp2_with (first
                    | ((with_reducible show wpList _ _ _ (⟨some 21, _, _, _, _, _⟩ :: _) _ _); refine wpList_loadv _ rfl 38 (.tmp 20) rfl 6 (by kernel_rfl) g (o + k * 6) (enC x A m c) (by go_simp) HA.out rfl ?_)
                    | ((with_reducible show wpList _ _ _ (⟨some 6, _, _, _, _, _⟩ :: _) _ _); refine wpList_alloc _ rfl 38 rfl enZ enZero ?_; intro w3 a1 a2 a3; have HV3 := Lib.hid a1; have HX3 := Lib.hid a2; clear a1 a2 a3)
                    | ((with_reducible show wpList _ _ _ (⟨none, _, _, _, _, _⟩ :: _) _ _); refine wpList_storev _ rfl 38 (.tmp 6) (.tmp 21) rfl 6 (by kernel_rfl) wx.heap.size 0 _ enZ (enC x A m c) rfl rfl HV3.out rfl (one_en x A m c) (by decide) ?_; intro w4 a1 a2 a3; have HN4 := Lib.hid (hnv.out.var HX3.out a2 (show BL w4 wx.heap.size 38 (enC x A m c) from a1) (by decide) (by decide)); have q0 := a1.get (j := 0) rfl; have q1 := a1.get (j := 1) rfl; clear a1 a2 a3)
                    | ((with_reducible show wpList _ _ _ (⟨some 26, _, _, _, _, _⟩ :: _) _ _); refine wpList_build _ rfl 82 _ rfl #[(0, .int .i64 x.dev), (1, .int .i64 x.seq)] (by rw [List.map_toArray]; rfl) _ (bldNum _ _ _) ?_)
                    | ((with_reducible show wpList _ _ _ (⟨some 7, _, _, _, _, _⟩ :: _) _ _); refine wpList_alloc _ rfl 82 rfl [.int .i64 0, .int .i64 0] numZero ?_; intro w5 a1 a2 a3; have HV5 := Lib.hid a1; have HX5 := Lib.hid a2; clear a1 a2 a3)
                    | ((with_reducible show wpList _ _ _ (⟨none, _, _, _, _, _⟩ :: _) _ _); refine wpList_storev _ rfl 82 (.tmp 7) (.tmp 26) rfl 2 (by kernel_rfl) w4.heap.size 0 _ [.int .i64 0, .int .i64 0] [.int .i64 x.dev, .int .i64 x.seq] rfl rfl HV5.out rfl (one_val _ rfl) (by decide) ?_; intro w6 a1 a2 a3; have HN6 := Lib.hid (HN4.out.var HX5.out a2 (show BL w6 w4.heap.size 82 [.int .i64 x.dev, .int .i64 x.seq] from a1) (by decide) (by decide)); clear a1 a2 a3)
                    | ((with_reducible show wpList _ _ _ (⟨some 28, _, _, _, _, _⟩ :: _) _ _); refine wpList_loadv _ rfl 82 (.tmp 7) rfl 2 (by kernel_rfl) w4.heap.size 0 [.int .i64 x.dev, .int .i64 x.seq] rfl (BL.all (HN6.out.ex (w4.heap.size, 82, [.int .i64 x.dev, .int .i64 x.seq]) (by simp)).1) rfl ?_)
                    | ((with_reducible show wpList _ _ _ (⟨some 29, _, _, _, _, _⟩ :: _) _ _); refine wpList_lookGv _ rfl (.tmp 27) (.tmp 28) 80 82 4 rfl numKeyed mapNB (.bool false) boolZero bs _ rfl HN6.out.mg (keyE x) rfl HKN.out (.bool false) (by rw [show (snF (dd (es.take k)) (keyE x)) = _ from hsn]) ?_)
                    | ((with_reducible show wpList _ _ _ (⟨some 31, _, _, _, _, _⟩ :: _) _ _); refine wpList_loadv _ rfl 82 (.tmp 7) rfl 2 (by kernel_rfl) w4.heap.size 0 [.int .i64 x.dev, .int .i64 x.seq] rfl (BL.all (HN6.out.ex (w4.heap.size, 82, [.int .i64 x.dev, .int .i64 x.seq]) (by simp)).1) rfl ?_)
                    | ((with_reducible show wpList _ _ _ (⟨none, _, _, _, _, _⟩ :: _) _ _); refine wpList_updG _ numV_inj rfl (.tmp 30) (.tmp 31) (.const (.bool true)) 80 82 4 rfl numKeyed mapNB (.bool false) bs _ rfl HN6.out.mg (keyE x) (.bool true) rfl rfl HKN.out ?_; intro w7 a1 a2 a3; have HN7 := Lib.hid (HN6.out.seen (sn' := snF (dd (es.take k) ++ [x])) a2 (a1.to (fun y => by rw [snF_snoc]; split <;> rfl))); clear a1 a2 a3)
                    | ((with_reducible show wpList _ _ _ (⟨some 33, _, _, _, _, _⟩ :: _) _ _); refine wpList_loadv _ rfl 38 (.tmp 6) rfl 6 (by kernel_rfl) wx.heap.size 0 (enC x A m c) rfl (BL.all (HN7.out.ex (wx.heap.size, 38, enC x A m c) (by simp)).1) rfl ?_)
                    | (go_at_call 48; refine (decp_any _ x w7 (stay_en _ _ _ _ HEN.out (below_then HB1.out HN7.out.low))).mono ?_; rintro e w8 ⟨d1, _, d3⟩; obtain ⟨cs, rfl, d4⟩ := d1 _ hdm; obtain ⟨pv, rfl, ep⟩ := pv_of d4.1; subst ep; have HPV8 := Lib.hid d4; have HN8 := Lib.hid (HN7.out.kept d3); clear d1 d3 d4)
                    | ((with_reducible show wpList _ _ _ (⟨some 8, _, _, _, _, _⟩ :: _) _ _); refine wpList_alloc _ rfl 34 rfl ppZ ppZero ?_; intro w9 a1 a2 a3; have HV9 := Lib.hid a1; have HX9 := Lib.hid a2; clear a1 a2 a3)
                    | ((with_reducible show wpList _ _ _ (⟨none, _, _, _, _, _⟩ :: _) _ _); refine wpList_storev _ rfl 34 (.tmp 8) (.tmp 35) rfl 5 (by kernel_rfl) w8.heap.size 0 _ ppZ (pvC pv) rfl rfl HV9.out rfl (one_pv pv) (by decide) ?_; intro w10 a1 a2 a3; rw [splice_pp _ (pvC pv) (by rfl)] at a1; have HV10 := Lib.hid a1; have b10 := low_kp HX9.out a2 (fun i hi e => by omega); have HN10 := Lib.hid (HN8.out.kept b10); have HPV10 := Lib.hid (stay_ppt _ _ _ _ HPV8.out b10); have q2 := HN10.out.bl.get (j := 0) rfl; clear a1 a2 a3 b10)
                    | ((with_reducible show wpList _ _ _ (⟨some 41, _, _, _, _, _⟩ :: _) _ _); refine wpList_loadv _ rfl 34 (.tmp 8) rfl 5 (by kernel_rfl) w8.heap.size 0 _ rfl (BL.all HV10.out) rfl ?_)
                    | ((with_reducible show wpList _ _ _ (⟨some 42, _, _, _, _, _⟩ :: _) _ _); refine wpList_bslice _ rfl 43 34 1 _ rfl #[(0, .agg (pvC pv).toArray)] (by rw [List.map_toArray]; rfl) (pvC pv) (bslPp pv _) ?_; intro w11 a1 a2 a3; have HG11 := Lib.hid a1; have HN11 := Lib.hid (HN10.out.kept a2); have HPV11 := Lib.hid (stay_ppt _ _ _ _ HPV10.out a2); clear a1 a2 a3)
                    | ((with_reducible show wpList _ _ _ (⟨some 43, _, _, _, _, _⟩ :: _) _ _); obtain ⟨iS, i1, i2, i3, i4⟩ := info_some infoPp; refine wpList_appRW _ rfl (.tmp 40) (.tmp 42) 43 34 5 iS _ rfl Tryz.underlying43 i1 i2 i3 rfl v vs.length _ rfl HN11.out.pv.row w10.heap.size (pvC pv) rfl HG11.out rfl (one_pv pv) (by rw [i4]; have := HVN.out; omega) (by have := HVN.out; omega) ?_; intro v' w12 ap; obtain ⟨A9, c9, e9, _⟩ := ap.row.form; subst e9; have HN12 := Lib.hid (HN11.out.push HPV11.out ap); clear ap i1 i2 i3 i4)
                    | ((with_reducible show wpList _ _ _ (⟨none, _, _, _, _, _⟩ :: _) _ _); refine wpList_store1 _ rfl 43 (.tmp 44) (.tmp 43) rfl (sz1 _ (by kernel_rfl) _) gv 0 _ _ (.slice A9 (vs.length + 1) c9) rfl rfl HN12.out.bl rfl rfl (by simp) ?_; intro w13 a1 a2 a3; have HNx := Lib.hid (HN12.out.put a2 a1); clear a1 a2 a3)
                    | ((with_reducible show wpList _ _ _ (⟨some 45, _, _, _, _, _⟩ :: _) _ _); refine wpList_loadv _ rfl 38 (.tmp 6) rfl 6 (by kernel_rfl) wx.heap.size 0 (enC x A m c) rfl (BL.all (HNx.out.ex (wx.heap.size, 38, enC x A m c) (by simp)).1) rfl ?_)
                    | (go_at_call 49; refine (isRep_any _ x w13 (stay_en _ _ _ _ HEN.out (below_then HB1.out HNx.out.low))).mono ?_; rintro e w14 ⟨rfl, b1⟩; rw [hrp]; have HNy := Lib.hid (HNx.out.kept b1); have q3 := ((HNx.out.kept b1).ex (wx.heap.size, 38, enC x A m c) (by simp)).1.get (j := 4) rfl; have q4 := ((HNx.out.kept b1).ex (wx.heap.size, 38, enC x A m c) (by simp)).1.get (j := 0) rfl; have hcs := conv_str (HBS.out.kept (below_then HB1.out (HNx.out.kept b1).low)); clear b1)
                    | ((with_reducible show wpList _ _ _ (⟨some 58, _, _, _, _, _⟩ :: _) _ _); refine wpList_build _ rfl 87 _ rfl #[(0, .int .i64 x.dev), (1, .string (strB x.body))] (by rw [List.map_toArray]; rfl) _ (bldAns _ _ _) ?_)
                    | ((with_reducible show wpList _ _ _ (⟨some 10, _, _, _, _, _⟩ :: _) _ _); refine wpList_alloc _ rfl 87 rfl [.int .i64 0, .string (strB [])] ansZero ?_; intro w15 a1 a2 a3; have HV15 := Lib.hid a1; have HX15 := Lib.hid a2; clear a1 a2 a3)
                    | ((with_reducible show wpList _ _ _ (⟨none, _, _, _, _, _⟩ :: _) _ _); refine wpList_storev _ rfl 87 (.tmp 10) (.tmp 58) rfl 2 (by kernel_rfl) w14.heap.size 0 _ [.int .i64 0, .string (strB [])] [.int .i64 x.dev, .string (strB x.body)] rfl rfl HV15.out rfl (one_val _ rfl) (by decide) ?_; intro w16 a1 a2 a3; have HN16 := Lib.hid (HNy.out.var HX15.out a2 (show BL w16 w14.heap.size 87 [.int .i64 x.dev, .string (strB x.body)] from a1) (by decide) (by decide)); have q5 := HN16.out.bl.get (j := 1) rfl; clear a1 a2 a3)
                    | ((with_reducible show wpList _ _ _ (⟨some 62, _, _, _, _, _⟩ :: _) _ _); refine wpList_loadv _ rfl 87 (.tmp 10) rfl 2 (by kernel_rfl) w14.heap.size 0 [.int .i64 x.dev, .string (strB x.body)] rfl (BL.all (HN16.out.ex (w14.heap.size, 87, [.int .i64 x.dev, .string (strB x.body)]) (by simp)).1) rfl ?_)
                    | ((with_reducible show wpList _ _ _ (⟨some 63, _, _, _, _, _⟩ :: _) _ _); refine wpList_lookokFv _ rfl (.tmp 61) (.tmp 62) 58 87 38 rfl ansKeyed mapAL (.agg enZ.toArray) enZero bm _ rfl HN16.out.mf (keyA x) rfl HKA.out (.agg (enC y A' n' c').toArray) true (by rw [HFK.out]; rfl) (by rw [HFK.out]; rfl) ?_)
                    | ((with_reducible show wpList _ _ _ (⟨some 11, _, _, _, _, _⟩ :: _) _ _); refine wpList_alloc _ rfl 38 rfl enZ enZero ?_; intro w17 a1 a2 a3; have HV17 := Lib.hid a1; have HX17 := Lib.hid a2; clear a1 a2 a3)
                    | ((with_reducible show wpList _ _ _ (⟨none, _, _, _, _, _⟩ :: _) _ _); refine wpList_storev _ rfl 38 (.tmp 11) (.tmp 64) rfl 6 (by kernel_rfl) w16.heap.size 0 _ enZ (enC y A' n' c') rfl rfl HV17.out rfl (one_val _ rfl) (by decide) ?_; intro w18 a1 a2 a3; have HN18 := Lib.hid (HN16.out.var HX17.out a2 (show BL w18 w16.heap.size 38 (enC y A' n' c') from a1) (by decide) (by decide)); have q6 := (show BL w18 w16.heap.size 38 (enC y A' n' c') from a1).get (j := 1) rfl; have q7 := (HN18.out.ex (wx.heap.size, 38, enC x A m c) (by simp)).1.get (j := 1) rfl; have q8 := HN18.out.bl.get (j := 1) rfl; clear a1 a2 a3)
                    | ((with_reducible show wpList _ _ _ (⟨some 77, _, _, _, _, _⟩ :: _) _ _); refine wpList_loadv _ rfl 87 (.tmp 10) rfl 2 (by kernel_rfl) w14.heap.size 0 [.int .i64 x.dev, .string (strB x.body)] rfl (BL.all (HN18.out.ex (w14.heap.size, 87, [.int .i64 x.dev, .string (strB x.body)]) (by simp)).1) rfl ?_)
                    | ((with_reducible show wpList _ _ _ (⟨some 78, _, _, _, _, _⟩ :: _) _ _); refine wpList_loadv _ rfl 38 (.tmp 6) rfl 6 (by kernel_rfl) wx.heap.size 0 (enC x A m c) rfl (BL.all (HN18.out.ex (wx.heap.size, 38, enC x A m c) (by simp)).1) rfl ?_)
                    | ((with_reducible show wpList _ _ _ (⟨none, _, _, _, _, _⟩ :: _) _ _); refine wpList_updF _ ansV_inj rfl (.tmp 76) (.tmp 77) (.tmp 78) 58 87 38 rfl ansKeyed mapAL bm _ rfl HN18.out.mf (keyA x) (.agg (enC x A m c).toArray) rfl rfl HKA.out ?_; intro w19 a1 a2 a3; have HN19 := Lib.hid (HN18.out.rep a2 a1); clear a1 a2 a3)
                    | fail)
                  go_roundw
                  case rel => exact ⟨k + 1, _, _, _, by omega, by go_num, Lib.hid (by rw [HDD.out]; exact HN18.out.drop), Lib.hid (by rw [HDD.out, pps_some hdm, List.map_append, hvs.out]; rfl), Lib.hid (by have := hvn.out; rw [List.length_append]; simp; omega), Lib.hid (by rw [HDD.out]; exact hrf.out.same (fun key => best_more HOK.out hbe (by have := HLT.out; omega) key))⟩
                  case measure => simp [intOf]; omega
    · obtain rfl : k = n := by omega
      have HES : Hid (es.take k = es) := Lib.hid (take_end HL.out)
      have q2 := hnv.out.bl.get (j := 0) rfl
      obtain ⟨A9, c9, e9, _⟩ := hnv.out.pv.row.form
      subst e9
      go_wp2_with (first
        | (go_at_call 50; refine (sort_pv _ vs wx hnv.out.pv (by have := hvn.out; omega)).mono ?_; rintro e w6 ⟨rfl, vs', s1, s2, s3, s4⟩; have HS1 := Lib.hid s1; have HS2 := Lib.hid s2; have HS3 := Lib.hid s3; have HV6 := Lib.hid (s4.bl hnv.out.bl (own_ty hnv.out.pv.row hnv.out.bl (by decide))); have HM6 := Lib.hid (hnv.out.mf.kp s4 (hnv.out.mf.ne_own hnv.out.pv.row)); have HB6 := Lib.hid (low_kp hnv.out.low s4 (fun i hi e => by have := hnv.out.own i e; omega)); clear s1 s2 s3 s4)
        | ((with_reducible show wpList _ _ _ (⟨some 83, _, _, _, _, _⟩ :: _) _ _); refine wpList_loadv _ rfl 60 (.tmp 3) rfl 2 (by kernel_rfl) gv 0 _ rfl (BL.all HV6.out) rfl ?_)
        | ((with_reducible show wpList _ _ _ (⟨none, _, _, _, _, _⟩ :: _) _ _); refine wpList_storev _ rfl 60 (.tmp 2) (.tmp 83) rfl 2 (by kernel_rfl) w.heap.size 0 _ vwZ [.slice A9 vs.length c9, .map (some bm)] rfl rfl (HR1.out.kept HB6.out) rfl (one_val _ rfl) (by decide) ?_; intro w7 a1 a2 a3; have HR7 : Hid (BL w7 w.heap.size 60 [.slice A9 vs.length c9, .map (some bm)]) := Lib.hid a1; have HP7 := Lib.hid (HS3.out.kp a2 (fun b e1 e2 => own_ty HS3.out.row (HR1.out.kept HB6.out) (by decide) (by rw [e1]; exact congrArg some e2)) (fun i t l hl ht => hl.ne (HR1.out.kept HB6.out) (by rcases ht with rfl | rfl <;> decide))); have HM7 := Lib.hid (HM6.out.kp a2 (fun e => HM6.out.ne_bl (HR1.out.kept HB6.out) e.symm)); have HB7 := Lib.hid (low_kp (below_then HB1.out HB6.out) a2 (fun i hi e => by omega)); clear a1 a2 a3))
      refine bodyPost_ret (results_at _ Tryz.results25 (by kernel_rfl) rfl (BL.all HR7.out) rfl) rfl ?_
      refine ⟨_, rfl, ⟨A9, _, c9, bm, vs', f, rfl, HP7.out, ?_, HM7.out, ?_⟩, HB7.out⟩
      · have h1 : (vs'.map (·.p)).Perm (pps (dd es)) := by
          have h9 := hvs.out
          rw [HES.out] at h9
          rw [← h9]
          exact HS1.out.map _
        refine sort_one (pps_keyI (dd_dist es)) h1 ?_
        rw [List.pairwise_map]
        exact HS2.out.imp (fun {a b} h => by rw [leP, h]; rfl)
      · have h9 := hrf.out
        rwa [HES.out] at h9
end Go.Proofs.YtgoefpbicohkfaaGreatDoor
