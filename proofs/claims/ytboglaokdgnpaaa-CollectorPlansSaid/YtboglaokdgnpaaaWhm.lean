/- The reference's Given. -/
import Derived.Test.YtboglaokdgnpaaaWgm
import Derived.Test.YtboglaokdgnpaaaA10
import Derived.Test.YtboglaokdgnpaaaA19
import Derived.Deep.DeepCutAuto
namespace Go.Proofs.Ytboglaokdgnpaaa
open Go Go.RowKit Gf Sha

/-- Another carried live stripe, not given up, covers the name. -/
def othB (x : Si) (out : List (List UInt8)) (s : Sp) (n : List UInt8) (t : Sp) : Bool := !decide (t.id = s.id) && (liveB x t.id && (inB t n && (hasB x.carr t.id && !hasB out t.id)))
def givOk (x : Si) (out : List (List UInt8)) (s : Sp) : Bool := (wanted x s).all fun r => x.sp.any (othB x out s r.1)
def givStep (x : Si) (out : List (List UInt8)) (s : Sp) : List (List UInt8) := if unneedB x s || sparseB x s then (if givOk x out s then addS out s.id else out) else out
def givRun (x : Si) (l : List Sp) : List (List UInt8) := l.foldl (givStep x) []
def givL (x : Si) : List (List UInt8) := givRun x x.sp
theorem givRun_step (x : Si) (l : List Sp) (s : Sp) : givRun x (l ++ [s]) = givStep x (givRun x l) s := by
 unfold givRun; rw [List.foldl_append]; rfl
theorem givRun_len (x : Si) : ∀ k, (givRun x (x.sp.take k)).length ≤ k := by
 intro k
 induction k with
 | zero => exact Nat.le_refl _
 | succ k ih =>
  by_cases hk : k < x.sp.length
  ·
   have hs : x.sp[k]? = some x.sp[k] := List.getElem?_eq_getElem hk
   rw [take_next hs, givRun_step]
   unfold givStep
   split
   ·
    split
    ·
     have := addS_len (givRun x (x.sp.take k)) x.sp[k].id; omega
    ·
     omega
   ·
    omega
  ·
   have e : x.sp.take (k + 1) = x.sp.take k := by rw [List.take_of_length_le (by omega), List.take_of_length_le (by omega)]
   rw [e]; omega
theorem any_next {α : Type} {l : List α} {p : α → Bool} {k : Nat} {y : α} (h : l[k]? = some y) : (l.take (k + 1)).any p = ((l.take k).any p || p y) := by
 rw [take_next h, List.any_append]; simp
theorem all_next {α : Type} {l : List α} {p : α → Bool} {k : Nat} {y : α} (h : l[k]? = some y) : (l.take (k + 1)).all p = ((l.take k).all p && p y) := by
 rw [take_next h, List.all_append]; simp
theorem strB_inj' {x y : List UInt8} (h : (strB x).toList = (strB y).toList) : x = y := by rw [strB_list, strB_list] at h; exact h
theorem strB_ne (x y : List UInt8) : ((strB x).toList != (strB y).toList) = !decide (x = y) := by rw [bne, strB_eq]

set_option maxRecDepth 100000 in
set_option maxHeartbeats 8000000 in
theorem given_any (cx : List Value) (x : Si) (w : World) (hx : rSi w cx x) (hv : siB x = true) (hbig : x.sp.length ≤ 1000) :
  Calls Try.prog 47 #[.agg cx.toArray] w (StrV none (givL x) w) := by
 obtain ⟨a0, n0, c0, a1, n1, c1, a2, n2, c2, a3, n3, c3, a4, n4, c4, a5, n5, c5, rfl, hq⟩ := hx
 have hn := hq.sp.len_le
 have H := Lib.hid hq
 have HL := Lib.hid hq.sp.1
 have HPC := Lib.hid (siB_pct hv)
 have HVL := Lib.hid hv
 have HBG := Lib.hid hbig
 clear hq hv hbig
 go_enter Try.func47, Try.ntmps47
 go_wp2_with ((with_reducible show wpList _ _ _ (⟨some 1, _, _, _, _, _⟩ :: _) _ _); refine wpList_box _ rfl 26 (.tmp 0) rfl (siC a0 n0 c0 a1 n1 c1 a2 n2 c2 a3 n3 c3 a4 n4 c4 a5 n5 c5 x.pct) rfl ?_; intro w1 a1 a2 a3; have HB1 := Lib.hid a2; have HS1 := Lib.hid a1; have q0 := a1.get (j := 0) rfl; clear a1 a2 a3)
 clear q0
 go_loopw [3, 15] (fun lv iv wr => ∃ k : Nat, k ≤ n0 ∧ iv = .int .i64 (k : Int) ∧ (∃ A c, lv = .slice A (givRun x (x.sp.take k)).length c ∧ Hid (LS rStr 1 16 wr A (givRun x (x.sp.take k)).length c (givRun x (x.sp.take k))) ∧ Hid (∀ a, A = some a → w1.heap.size ≤ a.block)) ∧ Hid (Below w1.heap.size w1 wr)) (fun _ iv _ => n0 - (intOf iv).toNat)
 case atStart => exact ⟨0, by omega, rfl, ⟨none, 0, rfl, Lib.hid LS.nil, Lib.hid (fun a ha => by cases ha)⟩, Lib.hid (Below.refl _ _)⟩
 case round =>
  obtain ⟨k, hk, rfl, ⟨Ao, co, rfl, ho, hnew⟩, hb⟩ := hrel
  obtain ⟨wx, hwx⟩ : ∃ x, x = wr := ⟨_, rfl⟩
  rw [← hwx] at hb ho ⊢
  clear hwx
  have HBx := Lib.hid (below_then HB1.out hb.out)
  have hlen := givRun_len x k
  obtain ⟨out, hout⟩ : ∃ l, l = givRun x (x.sp.take k) := ⟨_, rfl⟩
  have HOUT := Lib.hid hout
  rw [← hout] at ho hlen ⊢
  clear hout
  obtain ⟨no, hno⟩ : ∃ n, n = out.length := ⟨_, rfl⟩
  have HNO := Lib.hid hno.symm
  rw [← hno] at ho hlen ⊢
  clear hno
  have HNB : Hid (no ≤ 100000) := Lib.hid (by have := HBG.out; have := HL.out; omega)
  clear hlen
  have hnol := ho.out.len_le
  by_cases hlt : k < n0
  ·
   obtain ⟨s, g, o, cs, hs, e0, hat, hsp⟩ := H.out.sp.at_ stay_sp (Below.refl _ _) hlt
   have HSP := Lib.hid hsp
   obtain ⟨A, m, c, rfl, hlr, hid, _⟩ := hsp
   have HID := Lib.hid hid
   have HX := Lib.hid hs
   have HSB := Lib.hid (spB_refs (okB_at (siB_sp HVL.out) hs))
   have HSZ : Hid (szOk s.refs) := Lib.hid (szOk_of (by have := HSB.out.1; omega) HSB.out.2.2)
   have HA := Lib.hid (hat.kept HBx.out)
   have HSx := Lib.hid (HS1.out.kept hb.out)
   have Hx := Lib.hid (H.out.kept HBx.out)
   subst e0
   clear hs hat hlr hid
   go_upto_region 5 with (first
    | ((with_reducible show wpList _ _ _ (⟨some 18, _, _, _, _, _⟩ :: _) _ _); refine wpList_loadv _ rfl 61 (.tmp 17) rfl 6 (by kernel_rfl) g (o + k * 6) (spC s A m c) (by go_simp) HA.out rfl ?_)
    | ((with_reducible show wpList _ _ _ (⟨some 5, _, _, _, _, _⟩ :: _) _ _); refine wpList_alloc _ rfl 61 rfl spZ spZero ?_; intro was a1 a2 a3; have HVas := Lib.hid a1; have HXas := Lib.hid a2; clear a1 a2 a3)
    | ((with_reducible show wpList _ _ _ (⟨none, _, _, _, _, _⟩ :: _) _ _); refine wpList_storev _ rfl 61 (.tmp 5) (.tmp 18) rfl 6 (by kernel_rfl) wx.heap.size 0 _ spZ (spC s A m c) rfl rfl HVas.out rfl (one_sp s A m c) (by decide) ?_; intro wbs a1 a2 a3; have HVs : Hid (BL wbs wx.heap.size 61 (spC s A m c)) := Lib.hid a1; have HXs : Hid (Below wx.heap.size wx wbs) := Lib.hid (((Kp.of_below (S := fun _ => False) HXas.out).after a2 (fun i hi e => by omega)).below (Nat.le_refl _) (fun _ h => h.elim)); clear a1 a2 a3; have HSs := Lib.hid (HSx.out.kept HXs.out))
    | fail)
   simp only [Act.put, List.setIfInBounds_toArray, List.set_cons_succ, List.set_cons_zero]
   go_cut [28] (fun s28 wq => s28 = .bool (!(unneedB x s || sparseB x s)) ∧ Hid (BL wq wx.heap.size 61 (spC s A m c)) ∧ Hid (Below wx.heap.size wx wq))
   case first =>
    cases hu : unneedB x s with
    | true =>
     go_wp2_with (first
      | ((with_reducible show wpList _ _ _ (⟨some 19, _, _, _, _, _⟩ :: _) _ _); refine wpList_loadv _ rfl 26 (.tmp 1) rfl 7 (by kernel_rfl) w.heap.size 0 _ rfl (BL.all HSs.out) rfl ?_)
      | ((with_reducible show wpList _ _ _ (⟨some 20, _, _, _, _, _⟩ :: _) _ _); refine wpList_loadv _ rfl 61 (.tmp 5) rfl 6 (by kernel_rfl) wx.heap.size 0 (spC s A m c) rfl (BL.all HVs.out) rfl ?_)
      | (go_at_call 33; refine (isun_any _ _ x s _ (show rSi wbs _ _ from ⟨_, _, _, _, _, _, _, _, _, _, _, _, _, _, _, _, _, _, rfl, Hx.out.kept HXs.out⟩) (stay_sp _ _ _ _ HSP.out (below_thenB HBx.out HBx.out.size HXs.out))).mono ?_; rintro e w5 ⟨rfl, b5⟩; rw [hu]; have HX5 := Lib.hid (below_thenB HXs.out HXs.out.size b5); have HV5 := Lib.hid (HVs.out.kept b5); have HS5 := Lib.hid (HSs.out.kept b5); clear b5)
      | ((with_reducible show wpList _ _ _ (⟨some 24, _, _, _, _, _⟩ :: _) _ _); refine wpList_loadvg _ rfl 26 (.tmp 1) rfl 7 (by kernel_rfl) w.heap.size 0 _ rfl (BL.all HS5.out) rfl ?_)
      | ((with_reducible show wpList _ _ _ (⟨some 25, _, _, _, _, _⟩ :: _) _ _); refine wpList_loadvg _ rfl 61 (.tmp 5) rfl 6 (by kernel_rfl) wx.heap.size 0 (spC s A m c) rfl (BL.all HV5.out) rfl ?_)
      | (go_at_call 34; refine (issp_any _ _ x s _ (show rSi w5 _ _ from ⟨_, _, _, _, _, _, _, _, _, _, _, _, _, _, _, _, _, _, rfl, Hx.out.kept HX5.out⟩) (stay_sp _ _ _ _ HSP.out (below_thenB HBx.out HBx.out.size HX5.out)) HSZ.out HPC.out).mono ?_; rintro e w6 ⟨rfl, b6⟩; rw [hs]; have HX6 := Lib.hid (below_thenB HX5.out HX5.out.size b6); have HV6 := Lib.hid (HV5.out.kept b6); clear b6))
     go_meet
     exact ⟨by rw [hu]; rfl, HV5, HX5⟩
    | false =>
     cases hs : sparseB x s with
     | true =>
      go_wp2_with (first
       | ((with_reducible show wpList _ _ _ (⟨some 19, _, _, _, _, _⟩ :: _) _ _); refine wpList_loadv _ rfl 26 (.tmp 1) rfl 7 (by kernel_rfl) w.heap.size 0 _ rfl (BL.all HSs.out) rfl ?_)
       | ((with_reducible show wpList _ _ _ (⟨some 20, _, _, _, _, _⟩ :: _) _ _); refine wpList_loadv _ rfl 61 (.tmp 5) rfl 6 (by kernel_rfl) wx.heap.size 0 (spC s A m c) rfl (BL.all HVs.out) rfl ?_)
       | (go_at_call 33; refine (isun_any _ _ x s _ (show rSi wbs _ _ from ⟨_, _, _, _, _, _, _, _, _, _, _, _, _, _, _, _, _, _, rfl, Hx.out.kept HXs.out⟩) (stay_sp _ _ _ _ HSP.out (below_thenB HBx.out HBx.out.size HXs.out))).mono ?_; rintro e w5 ⟨rfl, b5⟩; rw [hu]; have HX5 := Lib.hid (below_thenB HXs.out HXs.out.size b5); have HV5 := Lib.hid (HVs.out.kept b5); have HS5 := Lib.hid (HSs.out.kept b5); clear b5)
       | ((with_reducible show wpList _ _ _ (⟨some 24, _, _, _, _, _⟩ :: _) _ _); refine wpList_loadvg _ rfl 26 (.tmp 1) rfl 7 (by kernel_rfl) w.heap.size 0 _ rfl (BL.all HS5.out) rfl ?_)
       | ((with_reducible show wpList _ _ _ (⟨some 25, _, _, _, _, _⟩ :: _) _ _); refine wpList_loadvg _ rfl 61 (.tmp 5) rfl 6 (by kernel_rfl) wx.heap.size 0 (spC s A m c) rfl (BL.all HV5.out) rfl ?_)
       | (go_at_call 34; refine (issp_any _ _ x s _ (show rSi w5 _ _ from ⟨_, _, _, _, _, _, _, _, _, _, _, _, _, _, _, _, _, _, rfl, Hx.out.kept HX5.out⟩) (stay_sp _ _ _ _ HSP.out (below_thenB HBx.out HBx.out.size HX5.out)) HSZ.out HPC.out).mono ?_; rintro e w6 ⟨rfl, b6⟩; rw [hs]; have HX6 := Lib.hid (below_thenB HX5.out HX5.out.size b6); have HV6 := Lib.hid (HV5.out.kept b6); clear b6))
      go_meet
      exact ⟨by rw [hu, hs]; rfl, HV6, HX6⟩
     | false =>
      go_wp2_with (first
       | ((with_reducible show wpList _ _ _ (⟨some 19, _, _, _, _, _⟩ :: _) _ _); refine wpList_loadv _ rfl 26 (.tmp 1) rfl 7 (by kernel_rfl) w.heap.size 0 _ rfl (BL.all HSs.out) rfl ?_)
       | ((with_reducible show wpList _ _ _ (⟨some 20, _, _, _, _, _⟩ :: _) _ _); refine wpList_loadv _ rfl 61 (.tmp 5) rfl 6 (by kernel_rfl) wx.heap.size 0 (spC s A m c) rfl (BL.all HVs.out) rfl ?_)
       | (go_at_call 33; refine (isun_any _ _ x s _ (show rSi wbs _ _ from ⟨_, _, _, _, _, _, _, _, _, _, _, _, _, _, _, _, _, _, rfl, Hx.out.kept HXs.out⟩) (stay_sp _ _ _ _ HSP.out (below_thenB HBx.out HBx.out.size HXs.out))).mono ?_; rintro e w5 ⟨rfl, b5⟩; rw [hu]; have HX5 := Lib.hid (below_thenB HXs.out HXs.out.size b5); have HV5 := Lib.hid (HVs.out.kept b5); have HS5 := Lib.hid (HSs.out.kept b5); clear b5)
       | ((with_reducible show wpList _ _ _ (⟨some 24, _, _, _, _, _⟩ :: _) _ _); refine wpList_loadvg _ rfl 26 (.tmp 1) rfl 7 (by kernel_rfl) w.heap.size 0 _ rfl (BL.all HS5.out) rfl ?_)
       | ((with_reducible show wpList _ _ _ (⟨some 25, _, _, _, _, _⟩ :: _) _ _); refine wpList_loadvg _ rfl 61 (.tmp 5) rfl 6 (by kernel_rfl) wx.heap.size 0 (spC s A m c) rfl (BL.all HV5.out) rfl ?_)
       | (go_at_call 34; refine (issp_any _ _ x s _ (show rSi w5 _ _ from ⟨_, _, _, _, _, _, _, _, _, _, _, _, _, _, _, _, _, _, rfl, Hx.out.kept HX5.out⟩) (stay_sp _ _ _ _ HSP.out (below_thenB HBx.out HBx.out.size HX5.out)) HSZ.out HPC.out).mono ?_; rintro e w6 ⟨rfl, b6⟩; rw [hs]; have HX6 := Lib.hid (below_thenB HX5.out HX5.out.size b6); have HV6 := Lib.hid (HV5.out.kept b6); clear b6))
      go_meet
      exact ⟨by rw [hu, hs]; rfl, HV6, HX6⟩
   case rest =>
    obtain ⟨rfl, HVq, HXq⟩ := hcut
    have HSq := Lib.hid (HSx.out.kept HXq.out)
    cases hus : (unneedB x s || sparseB x s) with
    | false =>
     have HF : Hid (givRun x (x.sp.take (k + 1)) = out) := Lib.hid (by rw [take_next HX.out, givRun_step, ← HOUT.out, givStep, hus]; rfl)
     clear hus
     go_wp2_with fail
     go_roundw
     case rel => exact ⟨k + 1, by omega, by go_num, ⟨_, _, by rw [HF.out, HNO.out], Lib.hid (by rw [HF.out, HNO.out]; exact ho.out.kept stay_str HXq.out), hnew⟩, Lib.hid (below_thenB hb.out hb.out.size HXq.out)⟩
     case measure => simp [intOf]; omega
    | true =>
     have HUS := Lib.hid hus
     clear hus
     go_wp2_with (first
      | ((with_reducible show wpList _ _ _ (⟨some 29, _, _, _, _, _⟩ :: _) _ _); refine wpList_loadv _ rfl 26 (.tmp 1) rfl 7 (by kernel_rfl) w.heap.size 0 _ rfl (BL.all HSq.out) rfl ?_)
      | ((with_reducible show wpList _ _ _ (⟨some 30, _, _, _, _, _⟩ :: _) _ _); refine wpList_loadv _ rfl 61 (.tmp 5) rfl 6 (by kernel_rfl) wx.heap.size 0 (spC s A m c) rfl (BL.all HVq.out) rfl ?_)
      | (go_at_call 44; refine (wanted_any _ _ x s _ (show rSi wc _ _ from ⟨_, _, _, _, _, _, _, _, _, _, _, _, _, _, _, _, _, _, rfl, Hx.out.kept HXq.out⟩) (stay_sp _ _ _ _ HSP.out (below_thenB HBx.out HBx.out.size HXq.out))).mono ?_; rintro e w7 ⟨Aw, cw, rfl, lw, b7⟩; have HLW := Lib.hid lw; have HX7 := Lib.hid (below_thenB HXq.out HXq.out.size b7); have HV7 := Lib.hid (HVq.out.kept b7); have HS7 := Lib.hid (HSq.out.kept b7); clear b7 lw))
     obtain ⟨W, hW⟩ : ∃ l, l = wanted x s := ⟨_, rfl⟩
     rw [← hW] at HLW ⊢
     have HW := Lib.hid hW
     clear hW
     obtain ⟨nw, hnw⟩ : ∃ n, n = W.length := ⟨_, rfl⟩
     have HNW := Lib.hid hnw
     rw [← hnw] at HLW ⊢
     clear hnw
     have hnwl := HLW.out.len_le
     have HB7 := Lib.hid (below_thenB HBx.out HBx.out.size HX7.out)
     have HO7 := Lib.hid (ho.out.kept stay_str HX7.out)
     go_loopw [6, 33] (fun ov iv wr => ∃ (j : Nat) (b : Bool), j ≤ nw ∧ iv = .int .i64 (j : Int) ∧ ov = .bool b ∧ Hid (b = (W.take j).all fun r => x.sp.any (othB x out s r.1)) ∧ Hid (Below w7.heap.size w7 wr)) (fun _ iv _ => nw - (intOf iv).toNat)
     case atStart => exact ⟨0, true, by omega, rfl, rfl, Lib.hid rfl, Lib.hid (Below.refl _ _)⟩
     case round =>
      obtain ⟨j, av, hj, rfl, rfl, hav, hby⟩ := hrel
      obtain ⟨wy, hwy⟩ : ∃ x, x = wr := ⟨_, rfl⟩
      rw [← hwy] at hby ⊢
      clear hwy
      by_cases hlj : j < nw
      ·
       obtain ⟨r, gr, or', csr, hsr, er, hatr, rfl, _⟩ := HLW.out.at_ stay_rf (Below.refl _ _) hlj
       have HXr' := Lib.hid hsr
       have HAr := Lib.hid (hatr.kept hby.out)
       subst er
       clear hsr hatr
       have HBy := Lib.hid (below_thenB HB7.out HB7.out.size hby.out)
       have HSy := Lib.hid (HS7.out.kept hby.out)
       have HVy := Lib.hid (HV7.out.kept hby.out)
       have HOy := Lib.hid (HO7.out.kept stay_str hby.out)
       go_wp2_with (first
        | ((with_reducible show wpList _ _ _ (⟨some 36, _, _, _, _, _⟩ :: _) _ _); refine wpList_loadv _ rfl 73 (.tmp 35) rfl 3 (by kernel_rfl) gr (or' + j * 3) (rfL r) (by go_simp) HAr.out rfl ?_)
        | ((with_reducible show wpList _ _ _ (⟨some 8, _, _, _, _, _⟩ :: _) _ _); refine wpList_alloc _ rfl 73 rfl rfZ rfZero ?_; intro war a1 a2 a3; have HVar := Lib.hid a1; have HXar := Lib.hid a2; clear a1 a2 a3)
        | ((with_reducible show wpList _ _ _ (⟨none, _, _, _, _, _⟩ :: _) _ _); refine wpList_storev _ rfl 73 (.tmp 8) (.tmp 36) rfl 3 (by kernel_rfl) wy.heap.size 0 _ rfZ (rfL r) rfl rfl HVar.out rfl (one_rf r) (by decide) ?_; intro wbr a1 a2 a3; have HVr : Hid (BL wbr wy.heap.size 73 (rfL r)) := Lib.hid a1; have HXr : Hid (Below wy.heap.size wy wbr) := Lib.hid (((Kp.of_below (S := fun _ => False) HXar.out).after a2 (fun i hi e => by omega)).below (Nat.le_refl _) (fun _ h => h.elim)); clear a1 a2 a3; have HBr := Lib.hid (below_thenB HBy.out HBy.out.size HXr.out); have HSr := Lib.hid (HSy.out.kept HXr.out); have HVsr := Lib.hid (HVy.out.kept HXr.out); have HOr := Lib.hid (HOy.out.kept stay_str HXr.out); have q0 := HSr.out.get (j := 0) rfl)
        | fail)
       clear q0
       go_loopw [9, 40] (fun ov iv wr => ∃ (i : Nat) (b : Bool), i ≤ n0 ∧ iv = .int .i64 (i : Int) ∧ ov = .bool b ∧ Hid (b = (x.sp.take i).any (othB x out s r.1)) ∧ Hid (Below wbr.heap.size wbr wr)) (fun _ iv _ => n0 - (intOf iv).toNat)
       case atStart => exact ⟨0, false, by omega, rfl, rfl, Lib.hid rfl, Lib.hid (Below.refl _ _)⟩
       case round =>
        obtain ⟨i, bv, hi, rfl, rfl, hbv, hbz⟩ := hrel
        obtain ⟨wz, hwz⟩ : ∃ x, x = wr := ⟨_, rfl⟩
        rw [← hwz] at hbz ⊢
        clear hwz
        have HBz := Lib.hid (below_thenB HBr.out HBr.out.size hbz.out)
        have HSz := Lib.hid (HSr.out.kept hbz.out)
        have HVsz := Lib.hid (HVsr.out.kept hbz.out)
        have HVrz := Lib.hid (HVr.out.kept hbz.out)
        have HOz := Lib.hid (HOr.out.kept stay_str hbz.out)
        by_cases hli : i < n0
        ·
         obtain ⟨t, gt, ot, cst, hst, et, hatt, hpt⟩ := H.out.sp.at_ stay_sp (Below.refl _ _) hli
         have HPT := Lib.hid hpt
         obtain ⟨At, mt, ct, rfl, _⟩ := hpt
         have HXt' := Lib.hid hst
         have e9 := Option.some.inj et
         injection e9 with eg eo _
         rw [← eg, ← eo] at hatt
         have HAt := Lib.hid (hatt.kept HBz.out)
         clear hst hatt et eg eo
         cases bv with
         | true =>
          go_wp2_with (first
           | ((with_reducible show wpList _ _ _ (⟨some 43, _, _, _, _, _⟩ :: _) _ _); refine wpList_loadv _ rfl 61 (.tmp 42) rfl 6 (by kernel_rfl) g (o + i * 6) (spC t At mt ct) (by go_simp) HAt.out rfl ?_)
           | ((with_reducible show wpList _ _ _ (⟨some 11, _, _, _, _, _⟩ :: _) _ _); refine wpList_alloc _ rfl 61 rfl spZ spZero ?_; intro wat a1 a2 a3; have HVat := Lib.hid a1; have HXat := Lib.hid a2; clear a1 a2 a3)
           | ((with_reducible show wpList _ _ _ (⟨none, _, _, _, _, _⟩ :: _) _ _); refine wpList_storev _ rfl 61 (.tmp 11) (.tmp 43) rfl 6 (by kernel_rfl) wz.heap.size 0 _ spZ (spC t At mt ct) rfl rfl HVat.out rfl (one_sp t At mt ct) (by decide) ?_; intro wbt a1 a2 a3; have HVt : Hid (BL wbt wz.heap.size 61 (spC t At mt ct)) := Lib.hid a1; have HXt : Hid (Below wz.heap.size wz wbt) := Lib.hid (((Kp.of_below (S := fun _ => False) HXat.out).after a2 (fun i hi e => by omega)).below (Nat.le_refl _) (fun _ h => h.elim)); clear a1 a2 a3; have HSt := Lib.hid (HSz.out.kept HXt.out); have HVst := Lib.hid (HVsz.out.kept HXt.out); have HVrt := Lib.hid (HVrz.out.kept HXt.out); have p0 := HVt.out.get (j := 0) rfl; have r0 := HVst.out.get (j := 0) rfl)
           | ((with_reducible show wpList _ _ _ (⟨some 52, _, _, _, _, _⟩ :: _) _ _); refine wpList_loadvg _ rfl 26 (.tmp 1) rfl 7 (by kernel_rfl) w.heap.size 0 _ rfl (BL.all HSt.out) rfl ?_)
           | ((with_reducible show wpList _ _ _ (⟨some 53, _, _, _, _, _⟩ :: _) _ _); refine wpList_loadvg _ rfl 61 (.tmp 11) rfl 6 (by kernel_rfl) wz.heap.size 0 (spC t At mt ct) rfl (BL.all HVt.out) rfl ?_)
           | (go_at_call 45; refine (live_any _ _ x t _ (show rSi wbt _ _ from ⟨_, _, _, _, _, _, _, _, _, _, _, _, _, _, _, _, _, _, rfl, (H.out.kept HBz.out).kept HXt.out⟩) (stay_sp _ _ _ _ HPT.out (below_thenB HBz.out HBz.out.size HXt.out))).mono ?_; rintro e wc ⟨rfl, b5⟩; rw [h2]; have HXc := Lib.hid (below_thenB HXt.out HXt.out.size b5); have HVc := Lib.hid (HVt.out.kept b5); have HVrc := Lib.hid (HVrt.out.kept b5); have HSc := Lib.hid (HSt.out.kept b5); have r0 := HVrc.out.get (j := 0) rfl; clear b5 p0)
           | ((with_reducible show wpList _ _ _ (⟨some 57, _, _, _, _, _⟩ :: _) _ _); refine wpList_loadvg _ rfl 61 (.tmp 11) rfl 6 (by kernel_rfl) wz.heap.size 0 (spC t At mt ct) rfl (BL.all HVc.out) rfl ?_)
           | (go_at_call 46; refine (in_any _ t r.1 _ (stay_sp _ _ _ _ HPT.out (below_thenB HBz.out HBz.out.size HXc.out))).mono ?_; rintro e wd ⟨rfl, b6⟩; rw [h3]; have HXd := Lib.hid (below_thenB HXc.out HXc.out.size b6); have HVd := Lib.hid (HVc.out.kept b6); have HSd := Lib.hid (HSc.out.kept b6); have q4 := HSd.out.get (j := 4) rfl; have p0 := HVd.out.get (j := 0) rfl; clear b6 r0)
           | (go_at_call 43; (with_reducible show Calls _ _ #[.slice a4 n4 c4, _] _ _); refine (has_any a4 n4 c4 x.carr t.id _ ((H.out.carr.kept stay_str HBz.out).kept stay_str HXd.out)).mono ?_; rintro e wh ⟨rfl, hw⟩; rw [hw]; clear hw wh; rw [h4])
           | (go_at_call 43; (with_reducible show Calls _ _ #[.slice Ao no co, _] _ _); refine (has_any Ao no co _ t.id _ (HOz.out.kept stay_str HXd.out)).mono ?_; rintro e wh ⟨rfl, hw⟩; rw [hw]; clear hw wh; rw [h5]))
          go_roundw
          case rel => exact ⟨i + 1, true, by omega, by go_num, rfl, Lib.hid (by rw [any_next HXt'.out, ← hbv.out]; rfl), Lib.hid (below_thenB hbz.out hbz.out.size HXt.out)⟩
          case measure => simp [intOf]; omega
         | false =>
          by_cases h1 : t.id = s.id
          ·
           have es : ((strB t.id).toList != (strB s.id).toList) = false := by rw [strB_ne, decide_eq_true h1]; rfl
           have es2 : ((strB t.id).toList == (strB s.id).toList) = true := by rw [strB_eq]; exact decide_eq_true h1
           have HI := Lib.hid h1
           clear h1
           go_wp2_with (first
            | ((with_reducible show wpList _ _ _ (⟨some 43, _, _, _, _, _⟩ :: _) _ _); refine wpList_loadv _ rfl 61 (.tmp 42) rfl 6 (by kernel_rfl) g (o + i * 6) (spC t At mt ct) (by go_simp) HAt.out rfl ?_)
            | ((with_reducible show wpList _ _ _ (⟨some 11, _, _, _, _, _⟩ :: _) _ _); refine wpList_alloc _ rfl 61 rfl spZ spZero ?_; intro wat a1 a2 a3; have HVat := Lib.hid a1; have HXat := Lib.hid a2; clear a1 a2 a3)
            | ((with_reducible show wpList _ _ _ (⟨none, _, _, _, _, _⟩ :: _) _ _); refine wpList_storev _ rfl 61 (.tmp 11) (.tmp 43) rfl 6 (by kernel_rfl) wz.heap.size 0 _ spZ (spC t At mt ct) rfl rfl HVat.out rfl (one_sp t At mt ct) (by decide) ?_; intro wbt a1 a2 a3; have HVt : Hid (BL wbt wz.heap.size 61 (spC t At mt ct)) := Lib.hid a1; have HXt : Hid (Below wz.heap.size wz wbt) := Lib.hid (((Kp.of_below (S := fun _ => False) HXat.out).after a2 (fun i hi e => by omega)).below (Nat.le_refl _) (fun _ h => h.elim)); clear a1 a2 a3; have HSt := Lib.hid (HSz.out.kept HXt.out); have HVst := Lib.hid (HVsz.out.kept HXt.out); have HVrt := Lib.hid (HVrz.out.kept HXt.out); have p0 := HVt.out.get (j := 0) rfl; have r0 := HVst.out.get (j := 0) rfl)
            | ((with_reducible show wpList _ _ _ (⟨some 52, _, _, _, _, _⟩ :: _) _ _); refine wpList_loadvg _ rfl 26 (.tmp 1) rfl 7 (by kernel_rfl) w.heap.size 0 _ rfl (BL.all HSt.out) rfl ?_)
            | ((with_reducible show wpList _ _ _ (⟨some 53, _, _, _, _, _⟩ :: _) _ _); refine wpList_loadvg _ rfl 61 (.tmp 11) rfl 6 (by kernel_rfl) wz.heap.size 0 (spC t At mt ct) rfl (BL.all HVt.out) rfl ?_)
            | (go_at_call 45; refine (live_any _ _ x t _ (show rSi wbt _ _ from ⟨_, _, _, _, _, _, _, _, _, _, _, _, _, _, _, _, _, _, rfl, (H.out.kept HBz.out).kept HXt.out⟩) (stay_sp _ _ _ _ HPT.out (below_thenB HBz.out HBz.out.size HXt.out))).mono ?_; rintro e wc ⟨rfl, b5⟩; rw [h2]; have HXc := Lib.hid (below_thenB HXt.out HXt.out.size b5); have HVc := Lib.hid (HVt.out.kept b5); have HVrc := Lib.hid (HVrt.out.kept b5); have HSc := Lib.hid (HSt.out.kept b5); have r0 := HVrc.out.get (j := 0) rfl; clear b5 p0)
            | ((with_reducible show wpList _ _ _ (⟨some 57, _, _, _, _, _⟩ :: _) _ _); refine wpList_loadvg _ rfl 61 (.tmp 11) rfl 6 (by kernel_rfl) wz.heap.size 0 (spC t At mt ct) rfl (BL.all HVc.out) rfl ?_)
            | (go_at_call 46; refine (in_any _ t r.1 _ (stay_sp _ _ _ _ HPT.out (below_thenB HBz.out HBz.out.size HXc.out))).mono ?_; rintro e wd ⟨rfl, b6⟩; rw [h3]; have HXd := Lib.hid (below_thenB HXc.out HXc.out.size b6); have HVd := Lib.hid (HVc.out.kept b6); have HSd := Lib.hid (HSc.out.kept b6); have q4 := HSd.out.get (j := 4) rfl; have p0 := HVd.out.get (j := 0) rfl; clear b6 r0)
            | (go_at_call 43; (with_reducible show Calls _ _ #[.slice a4 n4 c4, _] _ _); refine (has_any a4 n4 c4 x.carr t.id _ ((H.out.carr.kept stay_str HBz.out).kept stay_str HXd.out)).mono ?_; rintro e wh ⟨rfl, hw⟩; rw [hw]; clear hw wh; rw [h4])
            | (go_at_call 43; (with_reducible show Calls _ _ #[.slice Ao no co, _] _ _); refine (has_any Ao no co _ t.id _ (HOz.out.kept stay_str HXd.out)).mono ?_; rintro e wh ⟨rfl, hw⟩; rw [hw]; clear hw wh; rw [h5]))
           go_roundw
           case rel => exact ⟨i + 1, false, by omega, by go_num, rfl, Lib.hid (by rw [any_next HXt'.out, ← hbv.out]; simp [othB, HI.out]), Lib.hid (below_thenB hbz.out hbz.out.size HXt.out)⟩
           case measure => simp [intOf]; omega
          have es : ((strB t.id).toList != (strB s.id).toList) = true := by rw [strB_ne, decide_eq_false h1]; rfl
          have es2 : ((strB t.id).toList == (strB s.id).toList) = false := by rw [strB_eq]; exact decide_eq_false h1
          have HI := Lib.hid h1
          clear h1
          cases h2 : liveB x t.id with
          | false =>
           go_wp2_with (first
            | ((with_reducible show wpList _ _ _ (⟨some 43, _, _, _, _, _⟩ :: _) _ _); refine wpList_loadv _ rfl 61 (.tmp 42) rfl 6 (by kernel_rfl) g (o + i * 6) (spC t At mt ct) (by go_simp) HAt.out rfl ?_)
            | ((with_reducible show wpList _ _ _ (⟨some 11, _, _, _, _, _⟩ :: _) _ _); refine wpList_alloc _ rfl 61 rfl spZ spZero ?_; intro wat a1 a2 a3; have HVat := Lib.hid a1; have HXat := Lib.hid a2; clear a1 a2 a3)
            | ((with_reducible show wpList _ _ _ (⟨none, _, _, _, _, _⟩ :: _) _ _); refine wpList_storev _ rfl 61 (.tmp 11) (.tmp 43) rfl 6 (by kernel_rfl) wz.heap.size 0 _ spZ (spC t At mt ct) rfl rfl HVat.out rfl (one_sp t At mt ct) (by decide) ?_; intro wbt a1 a2 a3; have HVt : Hid (BL wbt wz.heap.size 61 (spC t At mt ct)) := Lib.hid a1; have HXt : Hid (Below wz.heap.size wz wbt) := Lib.hid (((Kp.of_below (S := fun _ => False) HXat.out).after a2 (fun i hi e => by omega)).below (Nat.le_refl _) (fun _ h => h.elim)); clear a1 a2 a3; have HSt := Lib.hid (HSz.out.kept HXt.out); have HVst := Lib.hid (HVsz.out.kept HXt.out); have HVrt := Lib.hid (HVrz.out.kept HXt.out); have p0 := HVt.out.get (j := 0) rfl; have r0 := HVst.out.get (j := 0) rfl)
            | ((with_reducible show wpList _ _ _ (⟨some 52, _, _, _, _, _⟩ :: _) _ _); refine wpList_loadvg _ rfl 26 (.tmp 1) rfl 7 (by kernel_rfl) w.heap.size 0 _ rfl (BL.all HSt.out) rfl ?_)
            | ((with_reducible show wpList _ _ _ (⟨some 53, _, _, _, _, _⟩ :: _) _ _); refine wpList_loadvg _ rfl 61 (.tmp 11) rfl 6 (by kernel_rfl) wz.heap.size 0 (spC t At mt ct) rfl (BL.all HVt.out) rfl ?_)
            | (go_at_call 45; refine (live_any _ _ x t _ (show rSi wbt _ _ from ⟨_, _, _, _, _, _, _, _, _, _, _, _, _, _, _, _, _, _, rfl, (H.out.kept HBz.out).kept HXt.out⟩) (stay_sp _ _ _ _ HPT.out (below_thenB HBz.out HBz.out.size HXt.out))).mono ?_; rintro e wc ⟨rfl, b5⟩; rw [h2]; have HXc := Lib.hid (below_thenB HXt.out HXt.out.size b5); have HVc := Lib.hid (HVt.out.kept b5); have HVrc := Lib.hid (HVrt.out.kept b5); have HSc := Lib.hid (HSt.out.kept b5); have r0 := HVrc.out.get (j := 0) rfl; clear b5 p0)
            | ((with_reducible show wpList _ _ _ (⟨some 57, _, _, _, _, _⟩ :: _) _ _); refine wpList_loadvg _ rfl 61 (.tmp 11) rfl 6 (by kernel_rfl) wz.heap.size 0 (spC t At mt ct) rfl (BL.all HVc.out) rfl ?_)
            | (go_at_call 46; refine (in_any _ t r.1 _ (stay_sp _ _ _ _ HPT.out (below_thenB HBz.out HBz.out.size HXc.out))).mono ?_; rintro e wd ⟨rfl, b6⟩; rw [h3]; have HXd := Lib.hid (below_thenB HXc.out HXc.out.size b6); have HVd := Lib.hid (HVc.out.kept b6); have HSd := Lib.hid (HSc.out.kept b6); have q4 := HSd.out.get (j := 4) rfl; have p0 := HVd.out.get (j := 0) rfl; clear b6 r0)
            | (go_at_call 43; (with_reducible show Calls _ _ #[.slice a4 n4 c4, _] _ _); refine (has_any a4 n4 c4 x.carr t.id _ ((H.out.carr.kept stay_str HBz.out).kept stay_str HXd.out)).mono ?_; rintro e wh ⟨rfl, hw⟩; rw [hw]; clear hw wh; rw [h4])
            | (go_at_call 43; (with_reducible show Calls _ _ #[.slice Ao no co, _] _ _); refine (has_any Ao no co _ t.id _ (HOz.out.kept stay_str HXd.out)).mono ?_; rintro e wh ⟨rfl, hw⟩; rw [hw]; clear hw wh; rw [h5]))
           go_roundw
           case rel => exact ⟨i + 1, false, by omega, by go_num, rfl, Lib.hid (by rw [any_next HXt'.out, ← hbv.out]; simp [othB, h2]), Lib.hid (below_thenB hbz.out hbz.out.size HXc.out)⟩
           case measure => simp [intOf]; omega
          | true =>
           cases h3 : inB t r.1 with
           | false =>
            go_wp2_with (first
             | ((with_reducible show wpList _ _ _ (⟨some 43, _, _, _, _, _⟩ :: _) _ _); refine wpList_loadv _ rfl 61 (.tmp 42) rfl 6 (by kernel_rfl) g (o + i * 6) (spC t At mt ct) (by go_simp) HAt.out rfl ?_)
             | ((with_reducible show wpList _ _ _ (⟨some 11, _, _, _, _, _⟩ :: _) _ _); refine wpList_alloc _ rfl 61 rfl spZ spZero ?_; intro wat a1 a2 a3; have HVat := Lib.hid a1; have HXat := Lib.hid a2; clear a1 a2 a3)
             | ((with_reducible show wpList _ _ _ (⟨none, _, _, _, _, _⟩ :: _) _ _); refine wpList_storev _ rfl 61 (.tmp 11) (.tmp 43) rfl 6 (by kernel_rfl) wz.heap.size 0 _ spZ (spC t At mt ct) rfl rfl HVat.out rfl (one_sp t At mt ct) (by decide) ?_; intro wbt a1 a2 a3; have HVt : Hid (BL wbt wz.heap.size 61 (spC t At mt ct)) := Lib.hid a1; have HXt : Hid (Below wz.heap.size wz wbt) := Lib.hid (((Kp.of_below (S := fun _ => False) HXat.out).after a2 (fun i hi e => by omega)).below (Nat.le_refl _) (fun _ h => h.elim)); clear a1 a2 a3; have HSt := Lib.hid (HSz.out.kept HXt.out); have HVst := Lib.hid (HVsz.out.kept HXt.out); have HVrt := Lib.hid (HVrz.out.kept HXt.out); have p0 := HVt.out.get (j := 0) rfl; have r0 := HVst.out.get (j := 0) rfl)
             | ((with_reducible show wpList _ _ _ (⟨some 52, _, _, _, _, _⟩ :: _) _ _); refine wpList_loadvg _ rfl 26 (.tmp 1) rfl 7 (by kernel_rfl) w.heap.size 0 _ rfl (BL.all HSt.out) rfl ?_)
             | ((with_reducible show wpList _ _ _ (⟨some 53, _, _, _, _, _⟩ :: _) _ _); refine wpList_loadvg _ rfl 61 (.tmp 11) rfl 6 (by kernel_rfl) wz.heap.size 0 (spC t At mt ct) rfl (BL.all HVt.out) rfl ?_)
             | (go_at_call 45; refine (live_any _ _ x t _ (show rSi wbt _ _ from ⟨_, _, _, _, _, _, _, _, _, _, _, _, _, _, _, _, _, _, rfl, (H.out.kept HBz.out).kept HXt.out⟩) (stay_sp _ _ _ _ HPT.out (below_thenB HBz.out HBz.out.size HXt.out))).mono ?_; rintro e wc ⟨rfl, b5⟩; rw [h2]; have HXc := Lib.hid (below_thenB HXt.out HXt.out.size b5); have HVc := Lib.hid (HVt.out.kept b5); have HVrc := Lib.hid (HVrt.out.kept b5); have HSc := Lib.hid (HSt.out.kept b5); have r0 := HVrc.out.get (j := 0) rfl; clear b5 p0)
             | ((with_reducible show wpList _ _ _ (⟨some 57, _, _, _, _, _⟩ :: _) _ _); refine wpList_loadvg _ rfl 61 (.tmp 11) rfl 6 (by kernel_rfl) wz.heap.size 0 (spC t At mt ct) rfl (BL.all HVc.out) rfl ?_)
             | (go_at_call 46; refine (in_any _ t r.1 _ (stay_sp _ _ _ _ HPT.out (below_thenB HBz.out HBz.out.size HXc.out))).mono ?_; rintro e wd ⟨rfl, b6⟩; rw [h3]; have HXd := Lib.hid (below_thenB HXc.out HXc.out.size b6); have HVd := Lib.hid (HVc.out.kept b6); have HSd := Lib.hid (HSc.out.kept b6); have q4 := HSd.out.get (j := 4) rfl; have p0 := HVd.out.get (j := 0) rfl; clear b6 r0)
             | (go_at_call 43; (with_reducible show Calls _ _ #[.slice a4 n4 c4, _] _ _); refine (has_any a4 n4 c4 x.carr t.id _ ((H.out.carr.kept stay_str HBz.out).kept stay_str HXd.out)).mono ?_; rintro e wh ⟨rfl, hw⟩; rw [hw]; clear hw wh; rw [h4])
             | (go_at_call 43; (with_reducible show Calls _ _ #[.slice Ao no co, _] _ _); refine (has_any Ao no co _ t.id _ (HOz.out.kept stay_str HXd.out)).mono ?_; rintro e wh ⟨rfl, hw⟩; rw [hw]; clear hw wh; rw [h5]))
            go_roundw
            case rel => exact ⟨i + 1, false, by omega, by go_num, rfl, Lib.hid (by rw [any_next HXt'.out, ← hbv.out]; simp [othB, h3]), Lib.hid (below_thenB hbz.out hbz.out.size HXd.out)⟩
            case measure => simp [intOf]; omega
           | true =>
            cases h4 : hasB x.carr t.id with
            | false =>
             go_wp2_with (first
              | ((with_reducible show wpList _ _ _ (⟨some 43, _, _, _, _, _⟩ :: _) _ _); refine wpList_loadv _ rfl 61 (.tmp 42) rfl 6 (by kernel_rfl) g (o + i * 6) (spC t At mt ct) (by go_simp) HAt.out rfl ?_)
              | ((with_reducible show wpList _ _ _ (⟨some 11, _, _, _, _, _⟩ :: _) _ _); refine wpList_alloc _ rfl 61 rfl spZ spZero ?_; intro wat a1 a2 a3; have HVat := Lib.hid a1; have HXat := Lib.hid a2; clear a1 a2 a3)
              | ((with_reducible show wpList _ _ _ (⟨none, _, _, _, _, _⟩ :: _) _ _); refine wpList_storev _ rfl 61 (.tmp 11) (.tmp 43) rfl 6 (by kernel_rfl) wz.heap.size 0 _ spZ (spC t At mt ct) rfl rfl HVat.out rfl (one_sp t At mt ct) (by decide) ?_; intro wbt a1 a2 a3; have HVt : Hid (BL wbt wz.heap.size 61 (spC t At mt ct)) := Lib.hid a1; have HXt : Hid (Below wz.heap.size wz wbt) := Lib.hid (((Kp.of_below (S := fun _ => False) HXat.out).after a2 (fun i hi e => by omega)).below (Nat.le_refl _) (fun _ h => h.elim)); clear a1 a2 a3; have HSt := Lib.hid (HSz.out.kept HXt.out); have HVst := Lib.hid (HVsz.out.kept HXt.out); have HVrt := Lib.hid (HVrz.out.kept HXt.out); have p0 := HVt.out.get (j := 0) rfl; have r0 := HVst.out.get (j := 0) rfl)
              | ((with_reducible show wpList _ _ _ (⟨some 52, _, _, _, _, _⟩ :: _) _ _); refine wpList_loadvg _ rfl 26 (.tmp 1) rfl 7 (by kernel_rfl) w.heap.size 0 _ rfl (BL.all HSt.out) rfl ?_)
              | ((with_reducible show wpList _ _ _ (⟨some 53, _, _, _, _, _⟩ :: _) _ _); refine wpList_loadvg _ rfl 61 (.tmp 11) rfl 6 (by kernel_rfl) wz.heap.size 0 (spC t At mt ct) rfl (BL.all HVt.out) rfl ?_)
              | (go_at_call 45; refine (live_any _ _ x t _ (show rSi wbt _ _ from ⟨_, _, _, _, _, _, _, _, _, _, _, _, _, _, _, _, _, _, rfl, (H.out.kept HBz.out).kept HXt.out⟩) (stay_sp _ _ _ _ HPT.out (below_thenB HBz.out HBz.out.size HXt.out))).mono ?_; rintro e wc ⟨rfl, b5⟩; rw [h2]; have HXc := Lib.hid (below_thenB HXt.out HXt.out.size b5); have HVc := Lib.hid (HVt.out.kept b5); have HVrc := Lib.hid (HVrt.out.kept b5); have HSc := Lib.hid (HSt.out.kept b5); have r0 := HVrc.out.get (j := 0) rfl; clear b5 p0)
              | ((with_reducible show wpList _ _ _ (⟨some 57, _, _, _, _, _⟩ :: _) _ _); refine wpList_loadvg _ rfl 61 (.tmp 11) rfl 6 (by kernel_rfl) wz.heap.size 0 (spC t At mt ct) rfl (BL.all HVc.out) rfl ?_)
              | (go_at_call 46; refine (in_any _ t r.1 _ (stay_sp _ _ _ _ HPT.out (below_thenB HBz.out HBz.out.size HXc.out))).mono ?_; rintro e wd ⟨rfl, b6⟩; rw [h3]; have HXd := Lib.hid (below_thenB HXc.out HXc.out.size b6); have HVd := Lib.hid (HVc.out.kept b6); have HSd := Lib.hid (HSc.out.kept b6); have q4 := HSd.out.get (j := 4) rfl; have p0 := HVd.out.get (j := 0) rfl; clear b6 r0)
              | (go_at_call 43; (with_reducible show Calls _ _ #[.slice a4 n4 c4, _] _ _); refine (has_any a4 n4 c4 x.carr t.id _ ((H.out.carr.kept stay_str HBz.out).kept stay_str HXd.out)).mono ?_; rintro e wh ⟨rfl, hw⟩; rw [hw]; clear hw wh; rw [h4])
              | (go_at_call 43; (with_reducible show Calls _ _ #[.slice Ao no co, _] _ _); refine (has_any Ao no co _ t.id _ (HOz.out.kept stay_str HXd.out)).mono ?_; rintro e wh ⟨rfl, hw⟩; rw [hw]; clear hw wh; rw [h5]))
             go_roundw
             case rel => exact ⟨i + 1, false, by omega, by go_num, rfl, Lib.hid (by rw [any_next HXt'.out, ← hbv.out]; simp [othB, h4]), Lib.hid (below_thenB hbz.out hbz.out.size HXd.out)⟩
             case measure => simp [intOf]; omega
            | true =>
             cases h5 : hasB out t.id with
             | false =>
              go_wp2_with (first
               | ((with_reducible show wpList _ _ _ (⟨some 43, _, _, _, _, _⟩ :: _) _ _); refine wpList_loadv _ rfl 61 (.tmp 42) rfl 6 (by kernel_rfl) g (o + i * 6) (spC t At mt ct) (by go_simp) HAt.out rfl ?_)
               | ((with_reducible show wpList _ _ _ (⟨some 11, _, _, _, _, _⟩ :: _) _ _); refine wpList_alloc _ rfl 61 rfl spZ spZero ?_; intro wat a1 a2 a3; have HVat := Lib.hid a1; have HXat := Lib.hid a2; clear a1 a2 a3)
               | ((with_reducible show wpList _ _ _ (⟨none, _, _, _, _, _⟩ :: _) _ _); refine wpList_storev _ rfl 61 (.tmp 11) (.tmp 43) rfl 6 (by kernel_rfl) wz.heap.size 0 _ spZ (spC t At mt ct) rfl rfl HVat.out rfl (one_sp t At mt ct) (by decide) ?_; intro wbt a1 a2 a3; have HVt : Hid (BL wbt wz.heap.size 61 (spC t At mt ct)) := Lib.hid a1; have HXt : Hid (Below wz.heap.size wz wbt) := Lib.hid (((Kp.of_below (S := fun _ => False) HXat.out).after a2 (fun i hi e => by omega)).below (Nat.le_refl _) (fun _ h => h.elim)); clear a1 a2 a3; have HSt := Lib.hid (HSz.out.kept HXt.out); have HVst := Lib.hid (HVsz.out.kept HXt.out); have HVrt := Lib.hid (HVrz.out.kept HXt.out); have p0 := HVt.out.get (j := 0) rfl; have r0 := HVst.out.get (j := 0) rfl)
               | ((with_reducible show wpList _ _ _ (⟨some 52, _, _, _, _, _⟩ :: _) _ _); refine wpList_loadvg _ rfl 26 (.tmp 1) rfl 7 (by kernel_rfl) w.heap.size 0 _ rfl (BL.all HSt.out) rfl ?_)
               | ((with_reducible show wpList _ _ _ (⟨some 53, _, _, _, _, _⟩ :: _) _ _); refine wpList_loadvg _ rfl 61 (.tmp 11) rfl 6 (by kernel_rfl) wz.heap.size 0 (spC t At mt ct) rfl (BL.all HVt.out) rfl ?_)
               | (go_at_call 45; refine (live_any _ _ x t _ (show rSi wbt _ _ from ⟨_, _, _, _, _, _, _, _, _, _, _, _, _, _, _, _, _, _, rfl, (H.out.kept HBz.out).kept HXt.out⟩) (stay_sp _ _ _ _ HPT.out (below_thenB HBz.out HBz.out.size HXt.out))).mono ?_; rintro e wc ⟨rfl, b5⟩; rw [h2]; have HXc := Lib.hid (below_thenB HXt.out HXt.out.size b5); have HVc := Lib.hid (HVt.out.kept b5); have HVrc := Lib.hid (HVrt.out.kept b5); have HSc := Lib.hid (HSt.out.kept b5); have r0 := HVrc.out.get (j := 0) rfl; clear b5 p0)
               | ((with_reducible show wpList _ _ _ (⟨some 57, _, _, _, _, _⟩ :: _) _ _); refine wpList_loadvg _ rfl 61 (.tmp 11) rfl 6 (by kernel_rfl) wz.heap.size 0 (spC t At mt ct) rfl (BL.all HVc.out) rfl ?_)
               | (go_at_call 46; refine (in_any _ t r.1 _ (stay_sp _ _ _ _ HPT.out (below_thenB HBz.out HBz.out.size HXc.out))).mono ?_; rintro e wd ⟨rfl, b6⟩; rw [h3]; have HXd := Lib.hid (below_thenB HXc.out HXc.out.size b6); have HVd := Lib.hid (HVc.out.kept b6); have HSd := Lib.hid (HSc.out.kept b6); have q4 := HSd.out.get (j := 4) rfl; have p0 := HVd.out.get (j := 0) rfl; clear b6 r0)
               | (go_at_call 43; (with_reducible show Calls _ _ #[.slice a4 n4 c4, _] _ _); refine (has_any a4 n4 c4 x.carr t.id _ ((H.out.carr.kept stay_str HBz.out).kept stay_str HXd.out)).mono ?_; rintro e wh ⟨rfl, hw⟩; rw [hw]; clear hw wh; rw [h4])
               | (go_at_call 43; (with_reducible show Calls _ _ #[.slice Ao no co, _] _ _); refine (has_any Ao no co _ t.id _ (HOz.out.kept stay_str HXd.out)).mono ?_; rintro e wh ⟨rfl, hw⟩; rw [hw]; clear hw wh; rw [h5]))
              go_roundw
              case rel => exact ⟨i + 1, true, by omega, by go_num, rfl, Lib.hid (by rw [any_next HXt'.out, ← hbv.out]; simp [othB, HI.out, h2, h3, h4, h5]), Lib.hid (below_thenB hbz.out hbz.out.size HXd.out)⟩
              case measure => simp [intOf]; omega
             | true =>
              go_wp2_with (first
               | ((with_reducible show wpList _ _ _ (⟨some 43, _, _, _, _, _⟩ :: _) _ _); refine wpList_loadv _ rfl 61 (.tmp 42) rfl 6 (by kernel_rfl) g (o + i * 6) (spC t At mt ct) (by go_simp) HAt.out rfl ?_)
               | ((with_reducible show wpList _ _ _ (⟨some 11, _, _, _, _, _⟩ :: _) _ _); refine wpList_alloc _ rfl 61 rfl spZ spZero ?_; intro wat a1 a2 a3; have HVat := Lib.hid a1; have HXat := Lib.hid a2; clear a1 a2 a3)
               | ((with_reducible show wpList _ _ _ (⟨none, _, _, _, _, _⟩ :: _) _ _); refine wpList_storev _ rfl 61 (.tmp 11) (.tmp 43) rfl 6 (by kernel_rfl) wz.heap.size 0 _ spZ (spC t At mt ct) rfl rfl HVat.out rfl (one_sp t At mt ct) (by decide) ?_; intro wbt a1 a2 a3; have HVt : Hid (BL wbt wz.heap.size 61 (spC t At mt ct)) := Lib.hid a1; have HXt : Hid (Below wz.heap.size wz wbt) := Lib.hid (((Kp.of_below (S := fun _ => False) HXat.out).after a2 (fun i hi e => by omega)).below (Nat.le_refl _) (fun _ h => h.elim)); clear a1 a2 a3; have HSt := Lib.hid (HSz.out.kept HXt.out); have HVst := Lib.hid (HVsz.out.kept HXt.out); have HVrt := Lib.hid (HVrz.out.kept HXt.out); have p0 := HVt.out.get (j := 0) rfl; have r0 := HVst.out.get (j := 0) rfl)
               | ((with_reducible show wpList _ _ _ (⟨some 52, _, _, _, _, _⟩ :: _) _ _); refine wpList_loadvg _ rfl 26 (.tmp 1) rfl 7 (by kernel_rfl) w.heap.size 0 _ rfl (BL.all HSt.out) rfl ?_)
               | ((with_reducible show wpList _ _ _ (⟨some 53, _, _, _, _, _⟩ :: _) _ _); refine wpList_loadvg _ rfl 61 (.tmp 11) rfl 6 (by kernel_rfl) wz.heap.size 0 (spC t At mt ct) rfl (BL.all HVt.out) rfl ?_)
               | (go_at_call 45; refine (live_any _ _ x t _ (show rSi wbt _ _ from ⟨_, _, _, _, _, _, _, _, _, _, _, _, _, _, _, _, _, _, rfl, (H.out.kept HBz.out).kept HXt.out⟩) (stay_sp _ _ _ _ HPT.out (below_thenB HBz.out HBz.out.size HXt.out))).mono ?_; rintro e wc ⟨rfl, b5⟩; rw [h2]; have HXc := Lib.hid (below_thenB HXt.out HXt.out.size b5); have HVc := Lib.hid (HVt.out.kept b5); have HVrc := Lib.hid (HVrt.out.kept b5); have HSc := Lib.hid (HSt.out.kept b5); have r0 := HVrc.out.get (j := 0) rfl; clear b5 p0)
               | ((with_reducible show wpList _ _ _ (⟨some 57, _, _, _, _, _⟩ :: _) _ _); refine wpList_loadvg _ rfl 61 (.tmp 11) rfl 6 (by kernel_rfl) wz.heap.size 0 (spC t At mt ct) rfl (BL.all HVc.out) rfl ?_)
               | (go_at_call 46; refine (in_any _ t r.1 _ (stay_sp _ _ _ _ HPT.out (below_thenB HBz.out HBz.out.size HXc.out))).mono ?_; rintro e wd ⟨rfl, b6⟩; rw [h3]; have HXd := Lib.hid (below_thenB HXc.out HXc.out.size b6); have HVd := Lib.hid (HVc.out.kept b6); have HSd := Lib.hid (HSc.out.kept b6); have q4 := HSd.out.get (j := 4) rfl; have p0 := HVd.out.get (j := 0) rfl; clear b6 r0)
               | (go_at_call 43; (with_reducible show Calls _ _ #[.slice a4 n4 c4, _] _ _); refine (has_any a4 n4 c4 x.carr t.id _ ((H.out.carr.kept stay_str HBz.out).kept stay_str HXd.out)).mono ?_; rintro e wh ⟨rfl, hw⟩; rw [hw]; clear hw wh; rw [h4])
               | (go_at_call 43; (with_reducible show Calls _ _ #[.slice Ao no co, _] _ _); refine (has_any Ao no co _ t.id _ (HOz.out.kept stay_str HXd.out)).mono ?_; rintro e wh ⟨rfl, hw⟩; rw [hw]; clear hw wh; rw [h5]))
              go_roundw
              case rel => exact ⟨i + 1, false, by omega, by go_num, rfl, Lib.hid (by rw [any_next HXt'.out, ← hbv.out]; simp [othB, h5]), Lib.hid (below_thenB hbz.out hbz.out.size HXd.out)⟩
              case measure => simp [intOf]; omega
        ·
         obtain rfl : i = n0 := by omega
         have HBV : Hid (bv = x.sp.any (othB x out s r.1)) := Lib.hid (by rw [hbv.out, take_end HL.out])
         cases av with
         | false =>
          go_wp2_with fail
          go_roundw
          case rel => exact ⟨j + 1, false, by omega, by go_num, rfl, Lib.hid (by rw [all_next HXr'.out, ← hav.out]; rfl), Lib.hid (below_thenB hby.out hby.out.size (below_thenB HXr.out HXr.out.size hbz.out))⟩
          case measure => simp [intOf]; omega
         | true =>
          cases bv with
          | false =>
           go_wp2_with fail
           go_roundw
           case rel => exact ⟨j + 1, false, by omega, by go_num, rfl, Lib.hid (by rw [all_next HXr'.out, ← hav.out, ← HBV.out]; rfl), Lib.hid (below_thenB hby.out hby.out.size (below_thenB HXr.out HXr.out.size hbz.out))⟩
           case measure => simp [intOf]; omega
          | true =>
           go_wp2_with fail
           go_roundw
           case rel => exact ⟨j + 1, true, by omega, by go_num, rfl, Lib.hid (by rw [all_next HXr'.out, ← hav.out, ← HBV.out]; rfl), Lib.hid (below_thenB hby.out hby.out.size (below_thenB HXr.out HXr.out.size hbz.out))⟩
           case measure => simp [intOf]; omega
      ·
       obtain rfl : j = nw := by omega
       have HAV : Hid (av = givOk x out s) := Lib.hid (by rw [hav.out, take_end HNW.out.symm, HW.out]; rfl)
       have HBy := Lib.hid (below_thenB HB7.out HB7.out.size hby.out)
       have HVy := Lib.hid (HV7.out.kept hby.out)
       have HOy := Lib.hid (HO7.out.kept stay_str hby.out)
       cases av with
       | false =>
        have HF : Hid (givRun x (x.sp.take (k + 1)) = out) := Lib.hid (by rw [take_next HX.out, givRun_step, ← HOUT.out, givStep, HUS.out, if_pos rfl, ← HAV.out]; rfl)
        go_wp2_with fail
        go_roundw
        case rel => exact ⟨k + 1, by omega, by go_num, ⟨_, _, by rw [HF.out, HNO.out], Lib.hid (by rw [HF.out, HNO.out]; exact HOy.out), hnew⟩, Lib.hid (below_thenB hb.out hb.out.size (below_thenB HX7.out HX7.out.size hby.out))⟩
        case measure => simp [intOf]; omega
       | true =>
        have HF : Hid (givRun x (x.sp.take (k + 1)) = addS out s.id) := Lib.hid (by rw [take_next HX.out, givRun_step, ← HOUT.out, givStep, HUS.out, if_pos rfl, ← HAV.out]; rfl)
        have r0 := HVy.out.get (j := 0) rfl
        go_wp2_with (first
         | (go_at_call 83; refine (radd_any Ao no co out s.id _ HOy.out HID.out HNB.out).mono ?_; rintro e w9 ⟨A9, c9, rfl, l9, n9, b9⟩; have HL9 := Lib.hid l9; have HX9 := Lib.hid b9; have HN9 : Hid (∀ a, A9 = some a → w1.heap.size ≤ a.block) := Lib.hid (fun a ha => (n9 a ha).elim (hnew.out a) (fun h => by have := hb.out.size; have := HX7.out.size; have := hby.out.size; omega)); clear b9 l9 n9))
        go_roundw
        case rel => exact ⟨k + 1, by omega, by go_num, ⟨A9, c9, by rw [HF.out], Lib.hid (by rw [HF.out]; exact HL9.out), HN9⟩, Lib.hid (below_thenB hb.out hb.out.size (below_thenB (below_thenB HX7.out HX7.out.size hby.out) (below_thenB HX7.out HX7.out.size hby.out).size HX9.out))⟩
        case measure => simp [intOf]; omega
  ·
   obtain rfl : k = n0 := by omega
   have HE : Hid (out = givL x) := Lib.hid (by rw [HOUT.out, take_end HL.out]; rfl)
   go_wp2_with fail
   go_ret
   rw [← HE.out]
   exact ⟨_, _, by rw [HNO.out]; rfl, by rw [HNO.out]; exact ho.out, fun a ha => .inr (by have := hnew.out a ha; have := HB1.out.size; omega), HBx.out⟩
end Go.Proofs.Ytboglaokdgnpaaa
