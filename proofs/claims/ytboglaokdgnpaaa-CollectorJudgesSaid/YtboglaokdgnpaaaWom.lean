/- The reference's IsSafe for a rewriting, and for no kind; all kinds. -/
import Derived.Test.YtboglaokdgnpaaaWnm
namespace Go.Proofs.Ytboglaokdgnpaaa
open Go Go.RowKit Gf Sha

theorem any_and {α : Type} (l : List α) (c : Bool) (p : α → Bool) : (l.any fun q => c && p q) = (c && l.any p) := by
 cases c
 ·
  simp
 ·
  simp
theorem any_nextw {α : Type} {l : List α} {p : α → Bool} {k : Nat} {y : α} (h : l[k]? = some y) : (l.take (k + 1)).any p = ((l.take k).any p || p y) := by
 rw [take_next h, List.any_append]; simp
set_option maxRecDepth 100000 in
set_option maxHeartbeats 1000000 in
theorem issafe0 (cx cs : List Value) (y : Si) (t : Stp) (w : World) (hx : rSi w cx y) (h : rStp w cs t) (h1 : t.kind ≠ 1) (h2 : t.kind ≠ 2) (h3 : t.kind ≠ 3) (h4 : t.kind ≠ 4) :
  Calls Try.prog 30 #[.agg cx.toArray, .agg cs.toArray] w fun e w' => e = .returned (.bool (rSafe y t)) ∧ Below w.heap.size w w' := by
 obtain ⟨a0, n0, c0, a1, n1, c1, a2, n2, c2, a3, n3, c3, a4, n4, c4, a5, n5, c5, rfl, hq⟩ := hx
 obtain ⟨A0, m0, k0, A1, m1, k1, rfl, _⟩ := h
 have HR : Hid (rSafe y t = false) := Lib.hid (by rw [rSafe, if_neg h3, if_neg h4, if_neg h1, if_neg h2])
 have f1 : (t.kind == 1) = false := by simpa using h1
 have f2 : (t.kind == 2) = false := by simpa using h2
 have f3 : (t.kind == 3) = false := by simpa using h3
 have f4 : (t.kind == 4) = false := by simpa using h4
 clear hq h1 h2 h3 h4
 go_enter Try.func30, Try.ntmps30
 go_wp2_with (first
  | ((with_reducible show OpW 2); refine wpList_box _ rfl 26 (.tmp 0) rfl (siC a0 n0 c0 a1 n1 c1 a2 n2 c2 a3 n3 c3 a4 n4 c4 a5 n5 c5 y.pct) rfl ?_; intro w1 y1 y2 y3; have HB1 := Lib.hid y2; have HS1 := Lib.hid y1; clear y1 y2 y3)
  | ((with_reducible show OpW 3); refine wpList_box _ rfl 42 (.tmp 1) rfl (stC t A0 m0 k0 A1 m1 k1) rfl ?_; intro w2 y1 y2 y3; have HT2 := Lib.hid y1; have HX2 := Lib.hid y2; have HB2 := Lib.hid (below_then HB1.out y2); have HS2 := Lib.hid (HS1.out.kept y2); have q0 := HT2.out.get (j := 0) rfl; have q4 := HT2.out.get (j := 4) rfl; clear y1 y2 y3)
  | fail)
 go_ret
 exact ⟨ret_bool HR.out.symm, HB2.out⟩
set_option maxRecDepth 100000 in
set_option maxHeartbeats 8000000 in
theorem issafe1 (cx cs : List Value) (y : Si) (t : Stp) (w : World) (hx : rSi w cx y) (h : rStp w cs t) (hk : t.kind = 1) :
  Calls Try.prog 30 #[.agg cx.toArray, .agg cs.toArray] w fun e w' => e = .returned (.bool (rSafe y t)) ∧ Below w.heap.size w w' := by
 obtain ⟨a0, n0, c0, a1, n1, c1, a2, n2, c2, a3, n3, c3, a4, n4, c4, a5, n5, c5, rfl, hq⟩ := hx
 obtain ⟨A0, m0, k0, A1, m1, k1, rfl, _, h1, _⟩ := h
 have HQ := Lib.hid hq
 have hn := hq.sp.len_le
 have HLS := Lib.hid hq.sp.1
 have hm := h1.len_le
 have HI := Lib.hid h1
 have HL := Lib.hid h1.1
 have HR : Hid (rSafe y t = t.refs.all (rw2 y)) := Lib.hid (by rw [rSafe, if_neg (by omega), if_neg (by omega), if_pos hk])
 have f3 : (t.kind == 3) = false := by simp [hk]
 have f4 : (t.kind == 4) = false := by simp [hk]
 have f1 : (t.kind == 1) = true := by simp [hk]
 clear h1 hq hk
 go_enter Try.func30, Try.ntmps30
 go_wp2_with (first
  | ((with_reducible show OpW 2); refine wpList_box _ rfl 26 (.tmp 0) rfl (siC a0 n0 c0 a1 n1 c1 a2 n2 c2 a3 n3 c3 a4 n4 c4 a5 n5 c5 y.pct) rfl ?_; intro w1 y1 y2 y3; have HB1 := Lib.hid y2; have HS1 := Lib.hid y1; clear y1 y2 y3)
  | ((with_reducible show OpW 3); refine wpList_box _ rfl 42 (.tmp 1) rfl (stC t A0 m0 k0 A1 m1 k1) rfl ?_; intro w2 y1 y2 y3; have HT2 := Lib.hid y1; have HX2 := Lib.hid y2; have HB2 := Lib.hid (below_then HB1.out y2); have HS2 := Lib.hid (HS1.out.kept y2); have q0 := HT2.out.get (j := 0) rfl; have q4 := HT2.out.get (j := 4) rfl; clear y1 y2 y3)
  | fail)
 clear q0 q4
 go_loopw [67] (fun iv wr => ∃ k : Nat, k ≤ m1 ∧ iv = .int .i64 (k : Int) ∧ Hid ((t.refs.take k).all (rw2 y) = true) ∧ Hid (Below w2.heap.size w2 wr)) (fun iv _ => m1 - (intOf iv).toNat)
 case atStart => exact ⟨0, by omega, rfl, Lib.hid rfl, Lib.hid (Below.refl _ _)⟩
 case round =>
  obtain ⟨k, hk, rfl, hall, hb⟩ := hrel
  obtain ⟨wy, hwy⟩ : ∃ x, x = wr := ⟨_, rfl⟩
  rw [← hwy] at hb ⊢
  clear hwy
  have HBy := Lib.hid (below_thenB HB2.out HB2.out.size hb.out)
  by_cases hlt : k < m1
  ·
   obtain ⟨r, gr', or', csr, hsr, er, hatr, rfl, _⟩ := HI.out.at_ stay_rf (Below.refl _ _) hlt
   have HX := Lib.hid hsr
   have HAr := Lib.hid (hatr.kept HBy.out)
   have HSy := Lib.hid (HS2.out.kept hb.out)
   subst er
   clear hsr hatr
   go_wp2_with (first
    | ((with_reducible show OpW 70); refine wpList_loadv _ rfl 73 (.tmp 69) rfl 3 (by kernel_rfl) gr' (or' + k * 3) (rfL r) (by go_simp) HAr.out rfl ?_)
    | ((with_reducible show OpW 10); refine wpList_alloc _ rfl 73 rfl rfZ rfZero ?_; intro war a1 a2 a3; have HVar := Lib.hid a1; have HXar := Lib.hid a2; clear a1 a2 a3)
    | ((with_reducible show OpN); refine wpList_storev _ rfl 73 (.tmp 10) (.tmp 70) rfl 3 (by kernel_rfl) wy.heap.size 0 _ rfZ (rfL r) rfl rfl HVar.out rfl (one_rf r) (by decide) ?_; intro wbr a1 a2 a3; have HVr : Hid (BL wbr wy.heap.size 73 (rfL r)) := Lib.hid a1; have HXr : Hid (Below wy.heap.size wy wbr) := Lib.hid (((Kp.of_below (S := fun _ => False) HXar.out).after a2 (fun i hi e => by omega)).below (Nat.le_refl _) (fun _ h => h.elim)); clear a1 a2 a3; have HBr := Lib.hid (below_thenB HBy.out HBy.out.size HXr.out); have HSr := Lib.hid (HSy.out.kept HXr.out); have q0 := HSr.out.get (j := 0) rfl)
    | fail)
   clear q0
   go_loopw [11, 74] (fun ov iv wr => ∃ (i : Nat) (b : Bool), i ≤ n0 ∧ iv = .int .i64 (i : Int) ∧ ov = .bool b ∧ Hid (b = (y.sp.take i).any fun s => liveB y s.id && s.refs.any fun q => decide (q = r)) ∧ Hid (Below wbr.heap.size wbr wr)) (fun _ iv _ => n0 - (intOf iv).toNat)
   case atStart => exact ⟨0, false, by omega, rfl, rfl, Lib.hid rfl, Lib.hid (Below.refl _ _)⟩
   case round =>
    obtain ⟨i, bv, hi, rfl, rfl, hbv', hbz⟩ := hrel
    obtain ⟨wz, hwz⟩ : ∃ x, x = wr := ⟨_, rfl⟩
    rw [← hwz] at hbz ⊢
    clear hwz
    have HBz := Lib.hid (below_thenB HBr.out HBr.out.size hbz.out)
    have HSz := Lib.hid (HSr.out.kept hbz.out)
    have HVrz := Lib.hid (HVr.out.kept hbz.out)
    by_cases hli : i < n0
    ·
     obtain ⟨s, gs, os, css, hss, es, hats, hps⟩ := HQ.out.sp.at_ stay_sp (Below.refl _ _) hli
     have HPT := Lib.hid hps
     obtain ⟨Atx, mt, ct, rfl, hlr, _⟩ := hps
     have HLR := Lib.hid hlr
     have HLR1 := Lib.hid hlr.1
     have hmt := hlr.len_le
     have HXs' := Lib.hid hss
     have HAs := Lib.hid (hats.kept HBz.out)
     subst es
     clear hss hats hlr
     go_wp2_with (first
      | ((with_reducible show OpW 77); refine wpList_loadv _ rfl 61 (.tmp 76) rfl 6 (by kernel_rfl) gs (os + i * 6) (spC s Atx mt ct) (by go_simp) HAs.out rfl ?_)
      | ((with_reducible show OpW 13); refine wpList_alloc _ rfl 61 rfl spZ spZero ?_; intro wat a1 a2 a3; have HVat := Lib.hid a1; have HXat := Lib.hid a2; clear a1 a2 a3)
      | ((with_reducible show OpN); refine wpList_storev _ rfl 61 (.tmp 13) (.tmp 77) rfl 6 (by kernel_rfl) wz.heap.size 0 _ spZ (spC s Atx mt ct) rfl rfl HVat.out rfl (one_sp s Atx mt ct) (by decide) ?_; intro wbt a1 a2 a3; have HVt : Hid (BL wbt wz.heap.size 61 (spC s Atx mt ct)) := Lib.hid a1; have HXt : Hid (Below wz.heap.size wz wbt) := Lib.hid (((Kp.of_below (S := fun _ => False) HXat.out).after a2 (fun i hi e => by omega)).below (Nat.le_refl _) (fun _ h => h.elim)); clear a1 a2 a3; have HBt := Lib.hid (below_thenB HBz.out HBz.out.size HXt.out); have HSt := Lib.hid (HSz.out.kept HXt.out); have HVrt := Lib.hid (HVrz.out.kept HXt.out); have q5 := HVt.out.get (j := 5) rfl)
      | fail)
     clear q5
     go_loopw [11, 81] (fun ov iv wr => ∃ (j : Nat) (b : Bool), j ≤ mt ∧ iv = .int .i64 (j : Int) ∧ ov = .bool b ∧ Hid (b = (bv || (s.refs.take j).any fun q => liveB y s.id && decide (q = r))) ∧ Hid (Below wbt.heap.size wbt wr)) (fun _ iv _ => mt - (intOf iv).toNat)
     case atStart => exact ⟨0, bv, by omega, rfl, rfl, Lib.hid (by simp), Lib.hid (Below.refl _ _)⟩
     case round =>
      obtain ⟨j, cv, hj, rfl, rfl, hcv, hbv⟩ := hrel
      obtain ⟨wv, hwv⟩ : ∃ x, x = wr := ⟨_, rfl⟩
      rw [← hwv] at hbv ⊢
      clear hwv
      have HBv := Lib.hid (below_thenB HBt.out HBt.out.size hbv.out)
      have HSv := Lib.hid (HSt.out.kept hbv.out)
      have HVrv := Lib.hid (HVrt.out.kept hbv.out)
      have HVtv := Lib.hid (HVt.out.kept hbv.out)
      by_cases hlj : j < mt
      ·
       obtain ⟨q, gq, oq, csq, hsq, eq', hatq, rfl, _⟩ := HLR.out.at_ stay_rf (Below.refl _ _) hlj
       have HXqj := Lib.hid hsq
       have HAq := Lib.hid (hatq.kept HBv.out)
       subst eq'
       clear hsq hatq
       cases cv with
       | true =>
        go_wp2_with (first
         | ((with_reducible show OpW 84); refine wpList_loadv _ rfl 73 (.tmp 83) rfl 3 (by kernel_rfl) gq (oq + j * 3) (rfL q) (by go_simp) HAq.out rfl ?_)
         | ((with_reducible show OpW 15); refine wpList_alloc _ rfl 73 rfl rfZ rfZero ?_; intro waq a1 a2 a3; have HVaq := Lib.hid a1; have HXaq := Lib.hid a2; clear a1 a2 a3)
         | ((with_reducible show OpN); refine wpList_storev _ rfl 73 (.tmp 15) (.tmp 84) rfl 3 (by kernel_rfl) wv.heap.size 0 _ rfZ (rfL q) rfl rfl HVaq.out rfl (one_rf q) (by decide) ?_; intro wbq a1 a2 a3; have HVq : Hid (BL wbq wv.heap.size 73 (rfL q)) := Lib.hid a1; have HXq : Hid (Below wv.heap.size wv wbq) := Lib.hid (((Kp.of_below (S := fun _ => False) HXaq.out).after a2 (fun i hi e => by omega)).below (Nat.le_refl _) (fun _ h => h.elim)); clear a1 a2 a3; have HSq := Lib.hid (HSv.out.kept HXq.out); have HVtq := Lib.hid (HVtv.out.kept HXq.out); have HVrq := Lib.hid (HVrv.out.kept HXq.out))
         | fail)
        go_roundw
        case rel => exact ⟨j + 1, true, by omega, by go_num, rfl, Lib.hid (by rw [any_nextw HXqj.out, ← Bool.or_assoc]; have h9 := hcv.out; skip; rw [← h9]; rfl), Lib.hid (below_thenB hbv.out hbv.out.size HXq.out)⟩
        case measure => simp [intOf]; omega
       | false =>
        cases h2 : liveB y s.id with
        | false =>
         go_wp2_with (first
          | ((with_reducible show OpW 84); refine wpList_loadv _ rfl 73 (.tmp 83) rfl 3 (by kernel_rfl) gq (oq + j * 3) (rfL q) (by go_simp) HAq.out rfl ?_)
          | ((with_reducible show OpW 15); refine wpList_alloc _ rfl 73 rfl rfZ rfZero ?_; intro waq a1 a2 a3; have HVaq := Lib.hid a1; have HXaq := Lib.hid a2; clear a1 a2 a3)
          | ((with_reducible show OpN); refine wpList_storev _ rfl 73 (.tmp 15) (.tmp 84) rfl 3 (by kernel_rfl) wv.heap.size 0 _ rfZ (rfL q) rfl rfl HVaq.out rfl (one_rf q) (by decide) ?_; intro wbq a1 a2 a3; have HVq : Hid (BL wbq wv.heap.size 73 (rfL q)) := Lib.hid a1; have HXq : Hid (Below wv.heap.size wv wbq) := Lib.hid (((Kp.of_below (S := fun _ => False) HXaq.out).after a2 (fun i hi e => by omega)).below (Nat.le_refl _) (fun _ h => h.elim)); clear a1 a2 a3; have HSq := Lib.hid (HSv.out.kept HXq.out); have HVtq := Lib.hid (HVtv.out.kept HXq.out); have HVrq := Lib.hid (HVrv.out.kept HXq.out))
          | ((with_reducible show OpW 87); refine wpList_loadvg _ rfl 26 (.tmp 2) rfl 7 (by kernel_rfl) w.heap.size 0 _ rfl (BL.all HSq.out) rfl ?_)
          | ((with_reducible show OpW 88); refine wpList_loadvg _ rfl 61 (.tmp 13) rfl 6 (by kernel_rfl) wz.heap.size 0 (spC s (some ⟨gq, oq, none⟩) mt ct) rfl (BL.all HVtq.out) rfl ?_)
          | (go_at_call 45; refine (live_any _ _ y s _ (show rSi wbq _ _ from ⟨_, _, _, _, _, _, _, _, _, _, _, _, _, _, _, _, _, _, rfl, (HQ.out.kept HBv.out).kept HXq.out⟩) (stay_sp _ _ _ _ HPT.out (below_thenB HBv.out HBv.out.size HXq.out))).mono ?_; rintro e wc ⟨rfl, bl5⟩; rw [h2]; have HXc := Lib.hid (below_thenB HXq.out HXq.out.size bl5); have HVqc := Lib.hid (HVq.out.kept bl5); have HVrc := Lib.hid (HVrq.out.kept bl5); clear bl5)
          | ((with_reducible show OpW 91); refine wpList_loadvg _ rfl 73 (.tmp 15) rfl 3 (by kernel_rfl) wv.heap.size 0 (rfL q) rfl (BL.all HVqc.out) rfl ?_)
          | ((with_reducible show OpW 92); refine wpList_loadvg _ rfl 73 (.tmp 10) rfl 3 (by kernel_rfl) wy.heap.size 0 (rfL r) rfl (BL.all HVrc.out) rfl ?_))
         go_roundw
         case rel => exact ⟨j + 1, false, by omega, by go_num, rfl, Lib.hid (by rw [any_nextw HXqj.out, ← Bool.or_assoc]; have h9 := hcv.out; rw [h2] at h9; rw [← h9]; rfl), Lib.hid (below_thenB hbv.out hbv.out.size HXc.out)⟩
         case measure => simp [intOf]; omega
        | true =>
         by_cases he : q = r
         ·
          have er : ∀ w, (Op.equalIn 10000 73 (.agg (rfL q).toArray) (.agg (rfL r).toArray)).run Try.prog w = .ok true w := fun w => by rw [eqIn_rf, decide_eq_true he]
          have HE := Lib.hid he
          clear he
          go_wp2_with (first
           | ((with_reducible show OpW 84); refine wpList_loadv _ rfl 73 (.tmp 83) rfl 3 (by kernel_rfl) gq (oq + j * 3) (rfL q) (by go_simp) HAq.out rfl ?_)
           | ((with_reducible show OpW 15); refine wpList_alloc _ rfl 73 rfl rfZ rfZero ?_; intro waq a1 a2 a3; have HVaq := Lib.hid a1; have HXaq := Lib.hid a2; clear a1 a2 a3)
           | ((with_reducible show OpN); refine wpList_storev _ rfl 73 (.tmp 15) (.tmp 84) rfl 3 (by kernel_rfl) wv.heap.size 0 _ rfZ (rfL q) rfl rfl HVaq.out rfl (one_rf q) (by decide) ?_; intro wbq a1 a2 a3; have HVq : Hid (BL wbq wv.heap.size 73 (rfL q)) := Lib.hid a1; have HXq : Hid (Below wv.heap.size wv wbq) := Lib.hid (((Kp.of_below (S := fun _ => False) HXaq.out).after a2 (fun i hi e => by omega)).below (Nat.le_refl _) (fun _ h => h.elim)); clear a1 a2 a3; have HSq := Lib.hid (HSv.out.kept HXq.out); have HVtq := Lib.hid (HVtv.out.kept HXq.out); have HVrq := Lib.hid (HVrv.out.kept HXq.out))
           | ((with_reducible show OpW 87); refine wpList_loadvg _ rfl 26 (.tmp 2) rfl 7 (by kernel_rfl) w.heap.size 0 _ rfl (BL.all HSq.out) rfl ?_)
           | ((with_reducible show OpW 88); refine wpList_loadvg _ rfl 61 (.tmp 13) rfl 6 (by kernel_rfl) wz.heap.size 0 (spC s (some ⟨gq, oq, none⟩) mt ct) rfl (BL.all HVtq.out) rfl ?_)
           | (go_at_call 45; refine (live_any _ _ y s _ (show rSi wbq _ _ from ⟨_, _, _, _, _, _, _, _, _, _, _, _, _, _, _, _, _, _, rfl, (HQ.out.kept HBv.out).kept HXq.out⟩) (stay_sp _ _ _ _ HPT.out (below_thenB HBv.out HBv.out.size HXq.out))).mono ?_; rintro e wc ⟨rfl, bl5⟩; rw [h2]; have HXc := Lib.hid (below_thenB HXq.out HXq.out.size bl5); have HVqc := Lib.hid (HVq.out.kept bl5); have HVrc := Lib.hid (HVrq.out.kept bl5); clear bl5)
           | ((with_reducible show OpW 91); refine wpList_loadvg _ rfl 73 (.tmp 15) rfl 3 (by kernel_rfl) wv.heap.size 0 (rfL q) rfl (BL.all HVqc.out) rfl ?_)
           | ((with_reducible show OpW 92); refine wpList_loadvg _ rfl 73 (.tmp 10) rfl 3 (by kernel_rfl) wy.heap.size 0 (rfL r) rfl (BL.all HVrc.out) rfl ?_))
          go_roundw
          case rel => exact ⟨j + 1, true, by omega, by go_num, rfl, Lib.hid (by rw [any_nextw HXqj.out, ← Bool.or_assoc]; have h9 := hcv.out; rw [h2] at h9; rw [← h9]; rw [decide_eq_true HE.out]; rfl), Lib.hid (below_thenB hbv.out hbv.out.size HXc.out)⟩
          case measure => simp [intOf]; omega
         ·
          have er : ∀ w, (Op.equalIn 10000 73 (.agg (rfL q).toArray) (.agg (rfL r).toArray)).run Try.prog w = .ok false w := fun w => by rw [eqIn_rf, decide_eq_false he]
          have HE := Lib.hid he
          clear he
          go_wp2_with (first
           | ((with_reducible show OpW 84); refine wpList_loadv _ rfl 73 (.tmp 83) rfl 3 (by kernel_rfl) gq (oq + j * 3) (rfL q) (by go_simp) HAq.out rfl ?_)
           | ((with_reducible show OpW 15); refine wpList_alloc _ rfl 73 rfl rfZ rfZero ?_; intro waq a1 a2 a3; have HVaq := Lib.hid a1; have HXaq := Lib.hid a2; clear a1 a2 a3)
           | ((with_reducible show OpN); refine wpList_storev _ rfl 73 (.tmp 15) (.tmp 84) rfl 3 (by kernel_rfl) wv.heap.size 0 _ rfZ (rfL q) rfl rfl HVaq.out rfl (one_rf q) (by decide) ?_; intro wbq a1 a2 a3; have HVq : Hid (BL wbq wv.heap.size 73 (rfL q)) := Lib.hid a1; have HXq : Hid (Below wv.heap.size wv wbq) := Lib.hid (((Kp.of_below (S := fun _ => False) HXaq.out).after a2 (fun i hi e => by omega)).below (Nat.le_refl _) (fun _ h => h.elim)); clear a1 a2 a3; have HSq := Lib.hid (HSv.out.kept HXq.out); have HVtq := Lib.hid (HVtv.out.kept HXq.out); have HVrq := Lib.hid (HVrv.out.kept HXq.out))
           | ((with_reducible show OpW 87); refine wpList_loadvg _ rfl 26 (.tmp 2) rfl 7 (by kernel_rfl) w.heap.size 0 _ rfl (BL.all HSq.out) rfl ?_)
           | ((with_reducible show OpW 88); refine wpList_loadvg _ rfl 61 (.tmp 13) rfl 6 (by kernel_rfl) wz.heap.size 0 (spC s (some ⟨gq, oq, none⟩) mt ct) rfl (BL.all HVtq.out) rfl ?_)
           | (go_at_call 45; refine (live_any _ _ y s _ (show rSi wbq _ _ from ⟨_, _, _, _, _, _, _, _, _, _, _, _, _, _, _, _, _, _, rfl, (HQ.out.kept HBv.out).kept HXq.out⟩) (stay_sp _ _ _ _ HPT.out (below_thenB HBv.out HBv.out.size HXq.out))).mono ?_; rintro e wc ⟨rfl, bl5⟩; rw [h2]; have HXc := Lib.hid (below_thenB HXq.out HXq.out.size bl5); have HVqc := Lib.hid (HVq.out.kept bl5); have HVrc := Lib.hid (HVrq.out.kept bl5); clear bl5)
           | ((with_reducible show OpW 91); refine wpList_loadvg _ rfl 73 (.tmp 15) rfl 3 (by kernel_rfl) wv.heap.size 0 (rfL q) rfl (BL.all HVqc.out) rfl ?_)
           | ((with_reducible show OpW 92); refine wpList_loadvg _ rfl 73 (.tmp 10) rfl 3 (by kernel_rfl) wy.heap.size 0 (rfL r) rfl (BL.all HVrc.out) rfl ?_))
          go_roundw
          case rel => exact ⟨j + 1, false, by omega, by go_num, rfl, Lib.hid (by rw [any_nextw HXqj.out, ← Bool.or_assoc]; have h9 := hcv.out; rw [h2] at h9; rw [← h9]; rw [decide_eq_false HE.out]; rfl), Lib.hid (below_thenB hbv.out hbv.out.size HXc.out)⟩
          case measure => simp [intOf]; omega
      ·
       obtain rfl : j = mt := by omega
       have HCV : Hid (cv = (y.sp.take (i + 1)).any fun s => liveB y s.id && s.refs.any fun q => decide (q = r)) := Lib.hid (by
        have h9 := hcv.out
        rw [take_end HLR1.out, any_and] at h9
        rw [any_nextw HXs'.out, ← hbv'.out, h9])
       go_wp2_with fail
       go_roundw
       case rel => exact ⟨i + 1, cv, by omega, by go_num, rfl, HCV, Lib.hid (below_thenB hbz.out hbz.out.size (below_thenB HXt.out HXt.out.size hbv.out))⟩
       case measure => simp [intOf]; omega
    ·
     obtain rfl : i = n0 := by omega
     have HBV : Hid (bv = rw2 y r) := Lib.hid (by rw [hbv'.out, take_end HLS.out]; rfl)
     cases bv with
     | false =>
      have HB : Hid (rSafe y t = false) := Lib.hid (by rw [HR.out, all_miss HX.out HBV.out.symm])
      go_wp2_with fail
      go_ret
      exact ⟨ret_bool HB.out.symm, HBz.out⟩
     | true =>
      have HB := Lib.hid (all_step HX.out hall.out HBV.out.symm)
      go_wp2_with fail
      go_roundw
      case rel => exact ⟨k + 1, by omega, by go_num, HB, Lib.hid (below_thenB hb.out hb.out.size (below_thenB HXr.out HXr.out.size hbz.out))⟩
      case measure => simp [intOf]; omega
  ·
   obtain rfl : k = m1 := by omega
   have HB : Hid (rSafe y t = true) := Lib.hid (by have h9 := hall.out; rw [take_end HL.out] at h9; rw [HR.out, h9])
   go_wp2_with fail
   go_ret
   exact ⟨ret_bool HB.out.symm, HBy.out⟩
theorem issafe_any (cx cs : List Value) (y : Si) (t : Stp) (w : World) (hx : rSi w cx y) (h : rStp w cs t) (hbd : y.cond.length + t.sts.length ≤ 100000) :
  Calls Try.prog 30 #[.agg cx.toArray, .agg cs.toArray] w fun e w' => e = .returned (.bool (rSafe y t)) ∧ Below w.heap.size w w' := by
 by_cases h3 : t.kind = 3
 ·
  exact issafe3 cx cs y t w hx h h3
 by_cases h4 : t.kind = 4
 ·
  exact issafe4 cx cs y t w hx h h4
 by_cases h1 : t.kind = 1
 ·
  exact issafe1 cx cs y t w hx h h1
 by_cases h2 : t.kind = 2
 ·
  exact issafe2 cx cs y t w hx h h2 hbd
 ·
  exact issafe0 cx cs y t w hx h h1 h2 h3 h4
end Go.Proofs.Ytboglaokdgnpaaa
