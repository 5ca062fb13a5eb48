/- The reference's Add (printed by bin/mk47f.py out of Wg of chapter 49). -/
import Derived.Test.YtfonbliomokffaaGreatGrm
import Derived.Test.YtfonbliomokffaaGreatC4
import Derived.Test.YtfonbliomokffaaGreatText2m
namespace Go.Proofs.YtfonbliomokffaaGreat
open Go Go.RowKit Gf Sha

theorem bsl0_str (w : World) : (Instr.buildSlice 27 0 #[]).run Tryz.prog w = .ok (.slice (some ⟨w.heap.size, 0, none⟩) 0 0) (w.alloc (.cells ([] : List Value).toArray 9)) := by kernel_rfl
theorem all_next {α : Type} {l : List α} {k : Nat} {x : α} {p : α → Bool} (h : l[k]? = some x) (h1 : (l.take k).all p = true) (h2 : p x = true) : (l.take (k + 1)).all p = true := by
  rw [take_next h, List.all_append, h1]; simp [h2]
section
variable {P : Program} {w : World} {o : Oper} {a : Act}
theorem exec_cutS (s lo : Operand) (ty te : TypeId) (hop : o.op = .slice ty s (some lo) none none) (hu : P.underlying ty = some (.slice te)) (hsz : (match P.info? te with | some i => i.size == 1 | none => false) = true)
    (A : Option Addr) (n c k : Nat) (hs : a.eval s = .slice A n c) (hlo : a.eval lo = .int .i64 (k : Int)) (hk : k ≤ n) : (execOp a.eval o).run P w = .ok (.value (.slice (cutA A c k) (n - k) (c - k))) w := by
  have h2 := one_size (P := P) w hsz
  unfold execOp
  simp only [hop, Option.map_some, Option.map_none, hs, hlo]
  simp [Instr.sliceAt, Instr.slice, run_underlying hu, Instr.sliceBounds, Instr.sliceBound, asIntOf, hk, h2, Result.andThen]
  rfl
theorem exec_preS (s hi : Operand) (ty te : TypeId) (hop : o.op = .slice ty s none (some hi) none) (hu : P.underlying ty = some (.slice te)) (hsz : (match P.info? te with | some i => i.size == 1 | none => false) = true)
    (A : Option Addr) (n c k : Nat) (hs : a.eval s = .slice A n c) (hlo : a.eval hi = .int .i64 (k : Int)) (hk : k ≤ n) (hc : n ≤ c) : (execOp a.eval o).run P w = .ok (.value (.slice A k c)) w := by
  have h2 := one_size (P := P) w hsz
  unfold execOp
  simp only [hop, Option.map_some, Option.map_none, hs, hlo]
  have h3 : k ≤ c := by omega
  simp [Instr.sliceAt, Instr.slice, run_underlying hu, Instr.sliceBounds, Instr.sliceBound, asIntOf, h3, h2, Result.andThen]
  intro _
  cases A <;> simp [Addr.add]
end
theorem LS.cutS {α : Type} {R : Rdg α} {b n c : Nat} {w : World} {A : Option Addr} {L : List α} (h : LS R 1 b w A n c L) {k : Nat} (hk : k ≤ n) : LS R 1 b w (cutA A c k) (n - k) (c - k) (L.drop k) := by
  refine ⟨by rw [List.length_drop, h.1], by have := h.2.1; omega, Nat.le_trans (Nat.mul_le_mul_right _ (Nat.sub_le _ _)) h.2.2.1, fun j hj => ?_⟩
  rw [List.length_drop] at hj
  obtain ⟨g', o', cs, e, h1, h2⟩ := h.2.2.2 (k + j) (by omega)
  have hc := h.2.1
  have hl := h.1
  refine ⟨g', o' + k, cs, ?_, ?_, ?_⟩
  · unfold cutA
    rw [if_neg (by omega), e, Option.map_some, addr_add]
  · rw [Nat.add_assoc, show k + j * 1 = (k + j) * 1 by omega]; exact h1
  · rw [List.getElem_drop]; exact h2
set_option maxRecDepth 100000 in
set_option maxHeartbeats 4000000 in
theorem add_any (A : Option Addr) (n0 c0 : Nat) (L0 : List (List UInt8)) (B : Option Addr) (m d : Nat) (M : List (List UInt8)) (w : World) (h : LS rStr 1 16 w A n0 c0 L0) (hM : LS rStr 1 16 w B m d M) (hlen : n0 + m ≤ 100000) :
    Calls Tryz.prog 25 #[.slice A n0 c0, .slice B m d] w fun e w' => ∃ A' c', e = .returned (.slice A' (M.foldl addS L0).length c') ∧ LS rStr 1 16 w' A' (M.foldl addS L0).length c' (M.foldl addS L0) ∧ Below w.heap.size w w' := by
  have hm := hM.len_le
  have H0 := Lib.hid h
  have HL0 := Lib.hid h.1
  have HM := Lib.hid hM
  have HML := Lib.hid hM.1
  have HLEN := Lib.hid hlen
  obtain rfl := h.1
  clear h hM hlen
  go_enter Tryz.func25, Tryz.ntmps25
  go_wp2_with fail
  go_loopw [0, 10] (fun lv iv wr => ∃ (j : Nat) (v : Value), j ≤ m ∧ iv = .int .i64 (j : Int) ∧ v = lv ∧ Hid (∃ A1 c1, v = .slice A1 ((M.take j).foldl addS L0).length c1 ∧ LS rStr 1 16 wr A1 ((M.take j).foldl addS L0).length c1 ((M.take j).foldl addS L0)) ∧ Hid (Below w.heap.size w wr)) (fun _ iv _ => m - (intOf iv).toNat)
  case atStart => exact ⟨0, _, by omega, rfl, rfl, Lib.hid ⟨A, c0, rfl, H0.out⟩, Lib.hid (Below.refl _ _)⟩
  case round =>
    obtain ⟨j, v, hj, rfl, rfl, hv, hb0⟩ := hrel
    obtain ⟨wx, hwx⟩ : ∃ x, x = wr := ⟨_, rfl⟩
    rw [← hwx] at hv hb0 ⊢
    clear hwx
    obtain ⟨L, hL⟩ : ∃ x, x = (M.take j).foldl addS L0 := ⟨_, rfl⟩
    have HLJ := Lib.hid hL
    have hv1 := hv.out
    rw [← hL] at hv1
    obtain ⟨A1, c, rfl, hls⟩ := hv1
    have HBND : Hid (L.length ≤ 100000) := Lib.hid (by
      rw [hL]
      have h1 := fold_len (M.take j) L0
      have h2 := HLEN.out
      rw [List.length_take] at h1
      omega)
    obtain ⟨n, hnn⟩ : ∃ n, n = L.length := ⟨_, rfl⟩
    rw [← hnn] at hls HBND ⊢
    have hn := hls.len_le
    have H := Lib.hid hls
    have HL := Lib.hid hnn.symm
    have HN1 := HBND
    clear hv hL hnn hls
    by_cases hjm : j < m
    · obtain ⟨s, gs, os, hs, ea, q0⟩ := HM.out.str_at hb0.out hjm
      have HSX := Lib.hid hs
      have HS := Lib.hid (HM.out.str_ok hs)
      have HNX : Hid ((M.take (j + 1)).foldl addS L0 = addS L s) := Lib.hid (by rw [take_next hs, List.foldl_append, HLJ.out]; rfl)
      subst ea
      clear hs
      go_wp2_with fail
      clear q0
      go_loopw [7] (fun kv wr => wx = wr ∧ ∃ k : Nat, k ≤ n ∧ kv = .int .i64 (k : Int) ∧ Hid ((L.take k).all (fun y => decide (y < s)) = true)) (fun kv _ => n - (intOf kv).toNat)
      case atStart => exact ⟨rfl, 0, by omega, rfl, Lib.hid rfl⟩
      case round =>
        obtain ⟨rfl, k, hk, rfl, hall⟩ := hrel
        by_cases hlt : k < n
        · obtain ⟨y, g, o, hy, e0, p1⟩ := H.out.str_at (Below.refl _ _) hlt
          have HX := Lib.hid hy
          clear hy
          cases hc : Op.bytesLess y s with
          | true =>
            have el : Op.bytesLess (strB y).toList (strB s).toList = true := by rw [strB_list, strB_list]; exact hc
            have HF : Hid ((L.take (k + 1)).all (fun y => decide (y < s)) = true) := Lib.hid (all_next HX.out hall.out (by rw [← bytesLess_eq]; exact hc))
            subst e0
            go_wp2_with fail
            go_roundw
            case rel => exact ⟨trivial, k + 1, by omega, by go_num, HF⟩
            case measure => simp [intOf]; omega
          | false =>
            have el : Op.bytesLess (strB y).toList (strB s).toList = false := by rw [strB_list, strB_list]; exact hc
            have HAT : Hid (addS L s = if L[k]? = some s then L else L.take k ++ s :: L.drop k) := Lib.hid (addS_at hall.out (fun z hz => by
              have : z = y := by have := hz.symm.trans HX.out; cases this; rfl
              rw [this, ← bytesLess_eq]; exact hc))
            have ekn : ((k : Int) == (n : Int)) = false := by rw [beq_eq_false_iff_ne]; omega
            by_cases he : y = s
            · have es : ((strB y).toList == (strB s).toList) = true := by rw [strB_eq]; exact decide_eq_true he
              have es' : ((strB y).toList != (strB s).toList) = false := by rw [bne, es]; rfl
              have HR : Hid (addS L s = L) := Lib.hid (by rw [HAT.out, HX.out, he, if_pos rfl])
              have e0' := e0
              subst e0
              clear he
              go_wp2_with fail
              go_roundw
              case rel => exact ⟨j + 1, _, by omega, by go_num, rfl, Lib.hid (by rw [HNX.out, HR.out, HL.out]; exact ⟨_, c, rfl, H.out⟩), hb0⟩
              case measure => simp [intOf]; omega
            · have es : ((strB y).toList == (strB s).toList) = false := by rw [strB_eq]; exact decide_eq_false he
              have es' : ((strB y).toList != (strB s).toList) = true := by rw [bne, es]; rfl
              have HR : Hid (addS L s = L.take k ++ s :: L.drop k) := Lib.hid (by rw [HAT.out, HX.out, if_neg (fun e => he (Option.some.inj e))])
              clear he
              subst e0
              go_wp2_with fail
              have LHX := Lib.hid H.out
              obtain ⟨dss, k1', k2', k3', hsrc1⟩ := (LHX.out.pre hk).src (P := Tryz.prog) len_str ones_str Tryz.underlying27
              have HA1 := Lib.hid k1'
              have HA2 := Lib.hid k2'
              have HA3 := Lib.hid k3'
              have HA4 := Lib.hid hsrc1
              obtain ⟨ess, c1', c2', c3', hsrc2⟩ := (LHX.out.cutS hk).src (P := Tryz.prog) len_str ones_str Tryz.underlying27
              have HC1 := Lib.hid c1'
              have HC2 := Lib.hid c2'
              have HC3 := Lib.hid c3'
              have HC4 := Lib.hid hsrc2
              have HTL : Hid ((L.take k).length = k) := Lib.hid (LHX.out.pre hk).1
              have HDL : Hid ((L.drop k).length = n - k) := Lib.hid (by rw [List.length_drop, HL.out])
              have HNC : Hid (n ≤ c) := Lib.hid H.out.2.1
              have hn1 := HN1.out
              clear k1' k2' k3' hsrc1 c1' c2' c3' hsrc2
              have HX0 : Hid (Below wx.heap.size wx wx.drew) := Lib.hid (Below.refl _ _).drew
              refine Text.wp_region_bt (fun w' => Below wx.heap.size wx w') (.still 1 4 (.still 2 4 (.still 3 4 (.still 5 4 (.still 8 4 (.still 9 4 (.still 10 4 (.br 0 (.br 4 (.eff 6 (.eff 7 (.eff 11 (.still 12 4 .leaf)))) 6 (.eff 4 (.eff 7 (.eff 11 (.still 12 4 .leaf))))) 6 (.eff 0 (.eff 4 (.eff 7 (.eff 11 (.still 12 4 .leaf))))))))))))) (by kernel_rfl) (by kernel_rfl) (fun _ _ _ _ _ h => h) ((Below.refl _ _).drew) ?_
              iterate 2 (refine Text.bpurek rfl rfl (fun K hK => ⟨_, fun w' => by go_simp <;> rfl, ?_⟩); go_simp; refine hK _ ?_; clear hK K)
              refine Text.bpurek rfl rfl (fun K hK => ⟨_, fun w' => exec_preS (.tmp 41) (.tmp 42) 27 9 rfl Tryz.underlying27 (by kernel_rfl) _ n c k rfl (by go_simp) hk HNC.out, ?_⟩)
              go_simp
              refine hK _ ?_
              clear hK K
              iterate 3 (refine Text.bpurek rfl rfl (fun K hK => ⟨_, fun w' => by go_simp <;> rfl, ?_⟩); go_simp; refine hK _ ?_; clear hK K)
              refine Text.bpurek rfl rfl (fun K hK => ⟨_, fun w' => exec_cutS (.tmp 48) (.tmp 49) 27 9 rfl Tryz.underlying27 (by kernel_rfl) _ n c k rfl (by go_simp) hk, ?_⟩)
              go_simp
              refine hK _ ?_
              clear hK K
              refine Text.bfork ?_ ?_
              · refine Text.beff rfl rfl (fun K hK => ?_)
                refine wp_bslice 27 9 0 _ rfl #[] (by rw [List.map_toArray]; rfl) [] (bsl0_str _) ?_
                intro wa a1 a2 a3
                have HBwa := Lib.hid a2
                have HXwa : Hid (Below wx.heap.size wx wa) := Lib.hid (below_thenB (HX0).out (by have := (HX0).out.size; exact this) a2)
                have HZwa : Hid (wx.heap.size ≤ wx.heap.size) := Lib.hid (by have := (HX0).out.size; exact this)
                have HGwa := Lib.hid a1
                refine hK _ _ HXwa.out ?_
                clear hK K a1 a2 a3
                refine Text.bfork ?_ ?_
                · refine Text.beff rfl rfl (fun K hK => ?_)
                  obtain ⟨iS, i1, i2, i3, i4⟩ := info_some infoStr
                  refine wp_appX _ (.tmp 40) (.tmp 43) 27 9 1 iS _ rfl Tryz.underlying27 i1 i2 i3 rfl _ 0 [] rfl (RW.of_blk (n := 0) (HGwa).out (by simp) (by decide)) _ k _ rfl (HA4.out _ (HXwa).out) (by rw [i4]; omega) (by omega) ?_
                  intro v4 wb ap
                  have HAP4 := Lib.hid ap
                  have HXwb : Hid (Below wx.heap.size wx wb) := Lib.hid (((Kp.of_below (S := fun _ => False) (HXwa).out).after ap.kp (fun i hi e => by have e' : wx.heap.size = i := Option.some.inj e; have := (HZwa).out; omega)).below (Nat.le_refl _) (fun _ h => h.elim))
                  refine hK _ _ HXwb.out ?_
                  clear hK K ap i1 i2 i3 i4
                  have HO4 : Hid (OL rStr 1 9 wx wb v4 (L.take k)) := Lib.hid (by
                    have ho : OL rStr 1 9 wx wb v4 ([] ++ L.take k) := OL.app (css := []) rfl (fun _ h => by cases h) (fun _ h => absurd h (by simp)) (fun b hb => by cases hb; exact (HZwa).out) rfl HA1.out HA2.out HA3.out HTL.out (HXwa).out.size HAP4.out
                    exact ho)
                  refine Text.beff rfl rfl (fun K hK => ?_)
                  refine wp_bslice 27 9 1 _ rfl #[(0, .string (strB s))] (by rw [List.map_toArray]; rfl) [.string (strB s)] (bslStr _ _) ?_
                  intro wc a1 a2 a3
                  have HBwc := Lib.hid a2
                  have HXwc : Hid (Below wx.heap.size wx wc) := Lib.hid (below_thenB (HXwb).out (by have := (HXwb).out.size; exact this) a2)
                  have HGwc := Lib.hid a1
                  refine hK _ _ HXwc.out ?_
                  clear hK K a1 a2 a3
                  have HO5 := Lib.hid (HO4.out.kept HBwc.out)
                  obtain ⟨cs4, g1, g2, g3, g4, g5⟩ := (HO5).out
                  have HK1 := Lib.hid g1
                  have HK2 := Lib.hid g2
                  have HK3 := Lib.hid g3
                  rw [HTL.out] at g4
                  have HK4 := Lib.hid g4
                  have HK5 := Lib.hid g5
                  clear g1 g2 g3 g4 g5
                  refine Text.beff rfl rfl (fun K hK => ?_)
                  obtain ⟨iS, i1, i2, i3, i4⟩ := info_some infoStr
                  refine wp_appRW _ (.tmp 44) (.tmp 46) 27 9 1 iS _ rfl Tryz.underlying27 i1 i2 i3 rfl v4 k _ rfl HK4.out wb.heap.size [.string (strB s)] rfl (HGwc).out rfl (one_val _ rfl) (by rw [i4]; omega) (by omega) ?_
                  intro v7 w7 ap
                  have HR7 := Lib.hid ap
                  have HX7 : Hid (Below wx.heap.size wx w7) := Lib.hid (((Kp.of_below (S := fun _ => False) (HXwc).out).after ap.kp (fun i hi e => by have := HK5.out i e; omega)).below (Nat.le_refl _) (fun _ h => h.elim))
                  refine hK _ _ HX7.out ?_
                  clear hK K ap i1 i2 i3 i4
                  have HO7 : Hid (OL rStr 1 9 wx w7 v7 (L.take k ++ [s])) := Lib.hid (OL.push HK1.out HK2.out HK3.out HK5.out HTL.out rfl ⟨rfl, HS.out⟩ (HXwc).out.size HR7.out)
                  obtain ⟨cs7, g1, g2, g3, g4, g5⟩ := HO7.out
                  have HK1' := Lib.hid g1
                  have HK2' := Lib.hid g2
                  have HK3' := Lib.hid g3
                  have HT7 : Hid ((L.take k ++ [s]).length = k + 1) := Lib.hid (by rw [List.length_append, HTL.out]; rfl)
                  rw [HT7.out] at g4
                  have HK4' := Lib.hid g4
                  have HK5' := Lib.hid g5
                  clear g1 g2 g3 g4 g5
                  refine Text.beff rfl rfl (fun K hK => ?_)
                  obtain ⟨iS, i1, i2, i3, i4⟩ := info_some infoStr
                  refine wp_appX _ (.tmp 47) (.tmp 50) 27 9 1 iS _ rfl Tryz.underlying27 i1 i2 i3 rfl v7 (k + 1) _ rfl HK4'.out _ (n - k) _ rfl (HC4.out _ HX7.out) (by rw [i4]; omega) (by omega) ?_
                  intro v9 w9 ap
                  have HR9 := Lib.hid ap
                  have HX9 : Hid (Below wx.heap.size wx w9) := Lib.hid (((Kp.of_below (S := fun _ => False) HX7.out).after ap.kp (fun i hi e => by have := HK5'.out i e; omega)).below (Nat.le_refl _) (fun _ h => h.elim))
                  refine hK _ _ HX9.out ?_
                  clear hK K ap i1 i2 i3 i4
                  have HO9 : Hid (OL rStr 1 9 wx w9 v9 (L.take k ++ [s] ++ L.drop k)) := Lib.hid (OL.app HK1'.out HK2'.out HK3'.out HK5'.out HT7.out HC1.out HC2.out HC3.out HDL.out HX7.out.size HR9.out)
                  (refine Text.bpurek rfl rfl (fun K hK => ⟨_, fun w' => by go_simp <;> rfl, ?_⟩); go_simp; refine hK _ ?_; clear hK K)
                  refine Text.bdone ?_
                  have HW9 : Hid (∃ A9 c9, v9 = .slice A9 (addS L s).length c9 ∧ LS rStr 1 16 w9 A9 (addS L s).length c9 (addS L s)) := Lib.hid (by
                    have e : L.take k ++ [s] ++ L.drop k = addS L s := by rw [HR.out, List.append_assoc]; rfl
                    have ho := HO9.out
                    rw [e] at ho
                    exact ho.ls (b := 16) stay_str HX9.out (by have := addS_len L s; have := HL.out; unfold lim; omega))
                  go_wp2_with fail
                  go_roundw
                  case rel => exact ⟨j + 1, v9, by omega, by go_num, rfl, Lib.hid (by rw [HNX.out]; exact HW9.out), Lib.hid (below_thenB hb0.out hb0.out.size HX9.out)⟩
                  case measure => simp [intOf]; omega
                · refine Text.beff rfl rfl (fun K hK => ?_)
                  refine wp_bslice 27 9 1 _ rfl #[(0, .string (strB s))] (by rw [List.map_toArray]; rfl) [.string (strB s)] (bslStr _ _) ?_
                  intro wb a1 a2 a3
                  have HBwb := Lib.hid a2
                  have HXwb : Hid (Below wx.heap.size wx wb) := Lib.hid (below_thenB (HXwa).out (by have := (HXwa).out.size; exact this) a2)
                  have HGwb := Lib.hid a1
                  refine hK _ _ HXwb.out ?_
                  clear hK K a1 a2 a3
                  have HG9 := Lib.hid (HGwa.out.kept HBwb.out)
                  refine Text.beff rfl rfl (fun K hK => ?_)
                  obtain ⟨iS, i1, i2, i3, i4⟩ := info_some infoStr
                  refine wp_appX _ (.tmp 40) (.tmp 43) 27 9 1 iS _ rfl Tryz.underlying27 i1 i2 i3 rfl _ 0 [] rfl (RW.of_blk (n := 0) (HG9).out (by simp) (by decide)) _ k _ rfl (HA4.out _ (HXwb).out) (by rw [i4]; omega) (by omega) ?_
                  intro v4 wc ap
                  have HAP4 := Lib.hid ap
                  have HXwc : Hid (Below wx.heap.size wx wc) := Lib.hid (((Kp.of_below (S := fun _ => False) (HXwb).out).after ap.kp (fun i hi e => by have e' : wx.heap.size = i := Option.some.inj e; have := (HZwa).out; omega)).below (Nat.le_refl _) (fun _ h => h.elim))
                  refine hK _ _ HXwc.out ?_
                  clear hK K ap i1 i2 i3 i4
                  have HO4 : Hid (OL rStr 1 9 wx wc v4 (L.take k)) := Lib.hid (by
                    have ho : OL rStr 1 9 wx wc v4 ([] ++ L.take k) := OL.app (css := []) rfl (fun _ h => by cases h) (fun _ h => absurd h (by simp)) (fun b hb => by cases hb; exact (HZwa).out) rfl HA1.out HA2.out HA3.out HTL.out (HXwb).out.size HAP4.out
                    exact ho)
                  have HGs := Lib.hid (HGwb.out.kp HAP4.out.kp (fun e => by have e' : wx.heap.size = wa.heap.size := Option.some.inj e; have h7 : wx.heap.size < wa.heap.size := HGwa.out.lt; omega))
                  obtain ⟨cs4, g1, g2, g3, g4, g5⟩ := (HO4).out
                  have HK1 := Lib.hid g1
                  have HK2 := Lib.hid g2
                  have HK3 := Lib.hid g3
                  rw [HTL.out] at g4
                  have HK4 := Lib.hid g4
                  have HK5 := Lib.hid g5
                  clear g1 g2 g3 g4 g5
                  refine Text.beff rfl rfl (fun K hK => ?_)
                  obtain ⟨iS, i1, i2, i3, i4⟩ := info_some infoStr
                  refine wp_appRW _ (.tmp 44) (.tmp 46) 27 9 1 iS _ rfl Tryz.underlying27 i1 i2 i3 rfl v4 k _ rfl HK4.out wa.heap.size [.string (strB s)] rfl (HGs).out rfl (one_val _ rfl) (by rw [i4]; omega) (by omega) ?_
                  intro v7 w7 ap
                  have HR7 := Lib.hid ap
                  have HX7 : Hid (Below wx.heap.size wx w7) := Lib.hid (((Kp.of_below (S := fun _ => False) (HXwc).out).after ap.kp (fun i hi e => by have := HK5.out i e; omega)).below (Nat.le_refl _) (fun _ h => h.elim))
                  refine hK _ _ HX7.out ?_
                  clear hK K ap i1 i2 i3 i4
                  have HO7 : Hid (OL rStr 1 9 wx w7 v7 (L.take k ++ [s])) := Lib.hid (OL.push HK1.out HK2.out HK3.out HK5.out HTL.out rfl ⟨rfl, HS.out⟩ (HXwc).out.size HR7.out)
                  obtain ⟨cs7, g1, g2, g3, g4, g5⟩ := HO7.out
                  have HK1' := Lib.hid g1
                  have HK2' := Lib.hid g2
                  have HK3' := Lib.hid g3
                  have HT7 : Hid ((L.take k ++ [s]).length = k + 1) := Lib.hid (by rw [List.length_append, HTL.out]; rfl)
                  rw [HT7.out] at g4
                  have HK4' := Lib.hid g4
                  have HK5' := Lib.hid g5
                  clear g1 g2 g3 g4 g5
                  refine Text.beff rfl rfl (fun K hK => ?_)
                  obtain ⟨iS, i1, i2, i3, i4⟩ := info_some infoStr
                  refine wp_appX _ (.tmp 47) (.tmp 50) 27 9 1 iS _ rfl Tryz.underlying27 i1 i2 i3 rfl v7 (k + 1) _ rfl HK4'.out _ (n - k) _ rfl (HC4.out _ HX7.out) (by rw [i4]; omega) (by omega) ?_
                  intro v9 w9 ap
                  have HR9 := Lib.hid ap
                  have HX9 : Hid (Below wx.heap.size wx w9) := Lib.hid (((Kp.of_below (S := fun _ => False) HX7.out).after ap.kp (fun i hi e => by have := HK5'.out i e; omega)).below (Nat.le_refl _) (fun _ h => h.elim))
                  refine hK _ _ HX9.out ?_
                  clear hK K ap i1 i2 i3 i4
                  have HO9 : Hid (OL rStr 1 9 wx w9 v9 (L.take k ++ [s] ++ L.drop k)) := Lib.hid (OL.app HK1'.out HK2'.out HK3'.out HK5'.out HT7.out HC1.out HC2.out HC3.out HDL.out HX7.out.size HR9.out)
                  (refine Text.bpurek rfl rfl (fun K hK => ⟨_, fun w' => by go_simp <;> rfl, ?_⟩); go_simp; refine hK _ ?_; clear hK K)
                  refine Text.bdone ?_
                  have HW9 : Hid (∃ A9 c9, v9 = .slice A9 (addS L s).length c9 ∧ LS rStr 1 16 w9 A9 (addS L s).length c9 (addS L s)) := Lib.hid (by
                    have e : L.take k ++ [s] ++ L.drop k = addS L s := by rw [HR.out, List.append_assoc]; rfl
                    have ho := HO9.out
                    rw [e] at ho
                    exact ho.ls (b := 16) stay_str HX9.out (by have := addS_len L s; have := HL.out; unfold lim; omega))
                  go_wp2_with fail
                  go_roundw
                  case rel => exact ⟨j + 1, v9, by omega, by go_num, rfl, Lib.hid (by rw [HNX.out]; exact HW9.out), Lib.hid (below_thenB hb0.out hb0.out.size HX9.out)⟩
                  case measure => simp [intOf]; omega
              · refine Text.beff rfl rfl (fun K hK => ?_)
                refine wp_bslice 27 9 1 _ rfl #[(0, .string (strB s))] (by rw [List.map_toArray]; rfl) [.string (strB s)] (bslStr _ _) ?_
                intro wa a1 a2 a3
                have HBwa := Lib.hid a2
                have HXwa : Hid (Below wx.heap.size wx wa) := Lib.hid (below_thenB (HX0).out (by have := (HX0).out.size; exact this) a2)
                have HGwa := Lib.hid a1
                refine hK _ _ HXwa.out ?_
                clear hK K a1 a2 a3
                refine Text.beff rfl rfl (fun K hK => ?_)
                refine wp_bslice 27 9 0 _ rfl #[] (by rw [List.map_toArray]; rfl) [] (bsl0_str _) ?_
                intro wb a1 a2 a3
                have HBwb := Lib.hid a2
                have HXwb : Hid (Below wx.heap.size wx wb) := Lib.hid (below_thenB (HXwa).out (by have := (HXwa).out.size; exact this) a2)
                have HZwb : Hid (wx.heap.size ≤ wa.heap.size) := Lib.hid (by have := (HXwa).out.size; exact this)
                have HGwb := Lib.hid a1
                refine hK _ _ HXwb.out ?_
                clear hK K a1 a2 a3
                have HGa := Lib.hid (HGwa.out.kept HBwb.out)
                refine Text.beff rfl rfl (fun K hK => ?_)
                obtain ⟨iS, i1, i2, i3, i4⟩ := info_some infoStr
                refine wp_appX _ (.tmp 40) (.tmp 43) 27 9 1 iS _ rfl Tryz.underlying27 i1 i2 i3 rfl _ 0 [] rfl (RW.of_blk (n := 0) (HGwb).out (by simp) (by decide)) _ k _ rfl (HA4.out _ (HXwb).out) (by rw [i4]; omega) (by omega) ?_
                intro v4 wc ap
                have HAP4 := Lib.hid ap
                have HXwc : Hid (Below wx.heap.size wx wc) := Lib.hid (((Kp.of_below (S := fun _ => False) (HXwb).out).after ap.kp (fun i hi e => by have e' : wa.heap.size = i := Option.some.inj e; have := (HZwb).out; omega)).below (Nat.le_refl _) (fun _ h => h.elim))
                refine hK _ _ HXwc.out ?_
                clear hK K ap i1 i2 i3 i4
                have HO4 : Hid (OL rStr 1 9 wx wc v4 (L.take k)) := Lib.hid (by
                  have ho : OL rStr 1 9 wx wc v4 ([] ++ L.take k) := OL.app (css := []) rfl (fun _ h => by cases h) (fun _ h => absurd h (by simp)) (fun b hb => by cases hb; exact (HZwb).out) rfl HA1.out HA2.out HA3.out HTL.out (HXwb).out.size HAP4.out
                  exact ho)
                have HGs := Lib.hid (HGa.out.kp HAP4.out.kp (fun e => by have e' : wa.heap.size = wx.heap.size := Option.some.inj e; have h7 : wx.heap.size < wa.heap.size := HGwa.out.lt; omega))
                obtain ⟨cs4, g1, g2, g3, g4, g5⟩ := (HO4).out
                have HK1 := Lib.hid g1
                have HK2 := Lib.hid g2
                have HK3 := Lib.hid g3
                rw [HTL.out] at g4
                have HK4 := Lib.hid g4
                have HK5 := Lib.hid g5
                clear g1 g2 g3 g4 g5
                refine Text.beff rfl rfl (fun K hK => ?_)
                obtain ⟨iS, i1, i2, i3, i4⟩ := info_some infoStr
                refine wp_appRW _ (.tmp 44) (.tmp 46) 27 9 1 iS _ rfl Tryz.underlying27 i1 i2 i3 rfl v4 k _ rfl HK4.out wx.drew.heap.size [.string (strB s)] rfl (HGs).out rfl (one_val _ rfl) (by rw [i4]; omega) (by omega) ?_
                intro v7 w7 ap
                have HR7 := Lib.hid ap
                have HX7 : Hid (Below wx.heap.size wx w7) := Lib.hid (((Kp.of_below (S := fun _ => False) (HXwc).out).after ap.kp (fun i hi e => by have := HK5.out i e; omega)).below (Nat.le_refl _) (fun _ h => h.elim))
                refine hK _ _ HX7.out ?_
                clear hK K ap i1 i2 i3 i4
                have HO7 : Hid (OL rStr 1 9 wx w7 v7 (L.take k ++ [s])) := Lib.hid (OL.push HK1.out HK2.out HK3.out HK5.out HTL.out rfl ⟨rfl, HS.out⟩ (HXwc).out.size HR7.out)
                obtain ⟨cs7, g1, g2, g3, g4, g5⟩ := HO7.out
                have HK1' := Lib.hid g1
                have HK2' := Lib.hid g2
                have HK3' := Lib.hid g3
                have HT7 : Hid ((L.take k ++ [s]).length = k + 1) := Lib.hid (by rw [List.length_append, HTL.out]; rfl)
                rw [HT7.out] at g4
                have HK4' := Lib.hid g4
                have HK5' := Lib.hid g5
                clear g1 g2 g3 g4 g5
                refine Text.beff rfl rfl (fun K hK => ?_)
                obtain ⟨iS, i1, i2, i3, i4⟩ := info_some infoStr
                refine wp_appX _ (.tmp 47) (.tmp 50) 27 9 1 iS _ rfl Tryz.underlying27 i1 i2 i3 rfl v7 (k + 1) _ rfl HK4'.out _ (n - k) _ rfl (HC4.out _ HX7.out) (by rw [i4]; omega) (by omega) ?_
                intro v9 w9 ap
                have HR9 := Lib.hid ap
                have HX9 : Hid (Below wx.heap.size wx w9) := Lib.hid (((Kp.of_below (S := fun _ => False) HX7.out).after ap.kp (fun i hi e => by have := HK5'.out i e; omega)).below (Nat.le_refl _) (fun _ h => h.elim))
                refine hK _ _ HX9.out ?_
                clear hK K ap i1 i2 i3 i4
                have HO9 : Hid (OL rStr 1 9 wx w9 v9 (L.take k ++ [s] ++ L.drop k)) := Lib.hid (OL.app HK1'.out HK2'.out HK3'.out HK5'.out HT7.out HC1.out HC2.out HC3.out HDL.out HX7.out.size HR9.out)
                (refine Text.bpurek rfl rfl (fun K hK => ⟨_, fun w' => by go_simp <;> rfl, ?_⟩); go_simp; refine hK _ ?_; clear hK K)
                refine Text.bdone ?_
                have HW9 : Hid (∃ A9 c9, v9 = .slice A9 (addS L s).length c9 ∧ LS rStr 1 16 w9 A9 (addS L s).length c9 (addS L s)) := Lib.hid (by
                  have e : L.take k ++ [s] ++ L.drop k = addS L s := by rw [HR.out, List.append_assoc]; rfl
                  have ho := HO9.out
                  rw [e] at ho
                  exact ho.ls (b := 16) stay_str HX9.out (by have := addS_len L s; have := HL.out; unfold lim; omega))
                go_wp2_with fail
                go_roundw
                case rel => exact ⟨j + 1, v9, by omega, by go_num, rfl, Lib.hid (by rw [HNX.out]; exact HW9.out), Lib.hid (below_thenB hb0.out hb0.out.size HX9.out)⟩
                case measure => simp [intOf]; omega
        · have hkn' : L.length ≤ k := by have := HL.out; omega
          have ekn : ((k : Int) == (n : Int)) = true := by rw [beq_iff_eq]; omega
          have HR : Hid (addS L s = L.take k ++ s :: L.drop k) := Lib.hid (by
            rw [addS_at hall.out (fun z hz => by rw [List.getElem?_eq_none hkn'] at hz; cases hz), if_neg (fun e => by rw [List.getElem?_eq_none hkn'] at e; cases e)])
          clear hkn'
          go_wp2_with fail
          have LHX := Lib.hid H.out
          obtain ⟨dss, k1', k2', k3', hsrc1⟩ := (LHX.out.pre hk).src (P := Tryz.prog) len_str ones_str Tryz.underlying27
          have HA1 := Lib.hid k1'
          have HA2 := Lib.hid k2'
          have HA3 := Lib.hid k3'
          have HA4 := Lib.hid hsrc1
          obtain ⟨ess, c1', c2', c3', hsrc2⟩ := (LHX.out.cutS hk).src (P := Tryz.prog) len_str ones_str Tryz.underlying27
          have HC1 := Lib.hid c1'
          have HC2 := Lib.hid c2'
          have HC3 := Lib.hid c3'
          have HC4 := Lib.hid hsrc2
          have HTL : Hid ((L.take k).length = k) := Lib.hid (LHX.out.pre hk).1
          have HDL : Hid ((L.drop k).length = n - k) := Lib.hid (by rw [List.length_drop, HL.out])
          have HNC : Hid (n ≤ c) := Lib.hid H.out.2.1
          have hn1 := HN1.out
          clear k1' k2' k3' hsrc1 c1' c2' c3' hsrc2
          have HX0 : Hid (Below wx.heap.size wx wx.drew) := Lib.hid (Below.refl _ _).drew
          refine Text.wp_region_bt (fun w' => Below wx.heap.size wx w') (.still 1 4 (.still 2 4 (.still 3 4 (.still 5 4 (.still 8 4 (.still 9 4 (.still 10 4 (.br 0 (.br 4 (.eff 6 (.eff 7 (.eff 11 (.still 12 4 .leaf)))) 6 (.eff 4 (.eff 7 (.eff 11 (.still 12 4 .leaf))))) 6 (.eff 0 (.eff 4 (.eff 7 (.eff 11 (.still 12 4 .leaf))))))))))))) (by kernel_rfl) (by kernel_rfl) (fun _ _ _ _ _ h => h) ((Below.refl _ _).drew) ?_
          iterate 2 (refine Text.bpurek rfl rfl (fun K hK => ⟨_, fun w' => by go_simp <;> rfl, ?_⟩); go_simp; refine hK _ ?_; clear hK K)
          refine Text.bpurek rfl rfl (fun K hK => ⟨_, fun w' => exec_preS (.tmp 41) (.tmp 42) 27 9 rfl Tryz.underlying27 (by kernel_rfl) _ n c k rfl (by go_simp) hk HNC.out, ?_⟩)
          go_simp
          refine hK _ ?_
          clear hK K
          iterate 3 (refine Text.bpurek rfl rfl (fun K hK => ⟨_, fun w' => by go_simp <;> rfl, ?_⟩); go_simp; refine hK _ ?_; clear hK K)
          refine Text.bpurek rfl rfl (fun K hK => ⟨_, fun w' => exec_cutS (.tmp 48) (.tmp 49) 27 9 rfl Tryz.underlying27 (by kernel_rfl) _ n c k rfl (by go_simp) hk, ?_⟩)
          go_simp
          refine hK _ ?_
          clear hK K
          refine Text.bfork ?_ ?_
          · refine Text.beff rfl rfl (fun K hK => ?_)
            refine wp_bslice 27 9 0 _ rfl #[] (by rw [List.map_toArray]; rfl) [] (bsl0_str _) ?_
            intro wa a1 a2 a3
            have HBwa := Lib.hid a2
            have HXwa : Hid (Below wx.heap.size wx wa) := Lib.hid (below_thenB (HX0).out (by have := (HX0).out.size; exact this) a2)
            have HZwa : Hid (wx.heap.size ≤ wx.heap.size) := Lib.hid (by have := (HX0).out.size; exact this)
            have HGwa := Lib.hid a1
            refine hK _ _ HXwa.out ?_
            clear hK K a1 a2 a3
            refine Text.bfork ?_ ?_
            · refine Text.beff rfl rfl (fun K hK => ?_)
              obtain ⟨iS, i1, i2, i3, i4⟩ := info_some infoStr
              refine wp_appX _ (.tmp 40) (.tmp 43) 27 9 1 iS _ rfl Tryz.underlying27 i1 i2 i3 rfl _ 0 [] rfl (RW.of_blk (n := 0) (HGwa).out (by simp) (by decide)) _ k _ rfl (HA4.out _ (HXwa).out) (by rw [i4]; omega) (by omega) ?_
              intro v4 wb ap
              have HAP4 := Lib.hid ap
              have HXwb : Hid (Below wx.heap.size wx wb) := Lib.hid (((Kp.of_below (S := fun _ => False) (HXwa).out).after ap.kp (fun i hi e => by have e' : wx.heap.size = i := Option.some.inj e; have := (HZwa).out; omega)).below (Nat.le_refl _) (fun _ h => h.elim))
              refine hK _ _ HXwb.out ?_
              clear hK K ap i1 i2 i3 i4
              have HO4 : Hid (OL rStr 1 9 wx wb v4 (L.take k)) := Lib.hid (by
                have ho : OL rStr 1 9 wx wb v4 ([] ++ L.take k) := OL.app (css := []) rfl (fun _ h => by cases h) (fun _ h => absurd h (by simp)) (fun b hb => by cases hb; exact (HZwa).out) rfl HA1.out HA2.out HA3.out HTL.out (HXwa).out.size HAP4.out
                exact ho)
              refine Text.beff rfl rfl (fun K hK => ?_)
              refine wp_bslice 27 9 1 _ rfl #[(0, .string (strB s))] (by rw [List.map_toArray]; rfl) [.string (strB s)] (bslStr _ _) ?_
              intro wc a1 a2 a3
              have HBwc := Lib.hid a2
              have HXwc : Hid (Below wx.heap.size wx wc) := Lib.hid (below_thenB (HXwb).out (by have := (HXwb).out.size; exact this) a2)
              have HGwc := Lib.hid a1
              refine hK _ _ HXwc.out ?_
              clear hK K a1 a2 a3
              have HO5 := Lib.hid (HO4.out.kept HBwc.out)
              obtain ⟨cs4, g1, g2, g3, g4, g5⟩ := (HO5).out
              have HK1 := Lib.hid g1
              have HK2 := Lib.hid g2
              have HK3 := Lib.hid g3
              rw [HTL.out] at g4
              have HK4 := Lib.hid g4
              have HK5 := Lib.hid g5
              clear g1 g2 g3 g4 g5
              refine Text.beff rfl rfl (fun K hK => ?_)
              obtain ⟨iS, i1, i2, i3, i4⟩ := info_some infoStr
              refine wp_appRW _ (.tmp 44) (.tmp 46) 27 9 1 iS _ rfl Tryz.underlying27 i1 i2 i3 rfl v4 k _ rfl HK4.out wb.heap.size [.string (strB s)] rfl (HGwc).out rfl (one_val _ rfl) (by rw [i4]; omega) (by omega) ?_
              intro v7 w7 ap
              have HR7 := Lib.hid ap
              have HX7 : Hid (Below wx.heap.size wx w7) := Lib.hid (((Kp.of_below (S := fun _ => False) (HXwc).out).after ap.kp (fun i hi e => by have := HK5.out i e; omega)).below (Nat.le_refl _) (fun _ h => h.elim))
              refine hK _ _ HX7.out ?_
              clear hK K ap i1 i2 i3 i4
              have HO7 : Hid (OL rStr 1 9 wx w7 v7 (L.take k ++ [s])) := Lib.hid (OL.push HK1.out HK2.out HK3.out HK5.out HTL.out rfl ⟨rfl, HS.out⟩ (HXwc).out.size HR7.out)
              obtain ⟨cs7, g1, g2, g3, g4, g5⟩ := HO7.out
              have HK1' := Lib.hid g1
              have HK2' := Lib.hid g2
              have HK3' := Lib.hid g3
              have HT7 : Hid ((L.take k ++ [s]).length = k + 1) := Lib.hid (by rw [List.length_append, HTL.out]; rfl)
              rw [HT7.out] at g4
              have HK4' := Lib.hid g4
              have HK5' := Lib.hid g5
              clear g1 g2 g3 g4 g5
              refine Text.beff rfl rfl (fun K hK => ?_)
              obtain ⟨iS, i1, i2, i3, i4⟩ := info_some infoStr
              refine wp_appX _ (.tmp 47) (.tmp 50) 27 9 1 iS _ rfl Tryz.underlying27 i1 i2 i3 rfl v7 (k + 1) _ rfl HK4'.out _ (n - k) _ rfl (HC4.out _ HX7.out) (by rw [i4]; omega) (by omega) ?_
              intro v9 w9 ap
              have HR9 := Lib.hid ap
              have HX9 : Hid (Below wx.heap.size wx w9) := Lib.hid (((Kp.of_below (S := fun _ => False) HX7.out).after ap.kp (fun i hi e => by have := HK5'.out i e; omega)).below (Nat.le_refl _) (fun _ h => h.elim))
              refine hK _ _ HX9.out ?_
              clear hK K ap i1 i2 i3 i4
              have HO9 : Hid (OL rStr 1 9 wx w9 v9 (L.take k ++ [s] ++ L.drop k)) := Lib.hid (OL.app HK1'.out HK2'.out HK3'.out HK5'.out HT7.out HC1.out HC2.out HC3.out HDL.out HX7.out.size HR9.out)
              (refine Text.bpurek rfl rfl (fun K hK => ⟨_, fun w' => by go_simp <;> rfl, ?_⟩); go_simp; refine hK _ ?_; clear hK K)
              refine Text.bdone ?_
              have HW9 : Hid (∃ A9 c9, v9 = .slice A9 (addS L s).length c9 ∧ LS rStr 1 16 w9 A9 (addS L s).length c9 (addS L s)) := Lib.hid (by
                have e : L.take k ++ [s] ++ L.drop k = addS L s := by rw [HR.out, List.append_assoc]; rfl
                have ho := HO9.out
                rw [e] at ho
                exact ho.ls (b := 16) stay_str HX9.out (by have := addS_len L s; have := HL.out; unfold lim; omega))
              go_wp2_with fail
              go_roundw
              case rel => exact ⟨j + 1, v9, by omega, by go_num, rfl, Lib.hid (by rw [HNX.out]; exact HW9.out), Lib.hid (below_thenB hb0.out hb0.out.size HX9.out)⟩
              case measure => simp [intOf]; omega
            · refine Text.beff rfl rfl (fun K hK => ?_)
              refine wp_bslice 27 9 1 _ rfl #[(0, .string (strB s))] (by rw [List.map_toArray]; rfl) [.string (strB s)] (bslStr _ _) ?_
              intro wb a1 a2 a3
              have HBwb := Lib.hid a2
              have HXwb : Hid (Below wx.heap.size wx wb) := Lib.hid (below_thenB (HXwa).out (by have := (HXwa).out.size; exact this) a2)
              have HGwb := Lib.hid a1
              refine hK _ _ HXwb.out ?_
              clear hK K a1 a2 a3
              have HG9 := Lib.hid (HGwa.out.kept HBwb.out)
              refine Text.beff rfl rfl (fun K hK => ?_)
              obtain ⟨iS, i1, i2, i3, i4⟩ := info_some infoStr
              refine wp_appX _ (.tmp 40) (.tmp 43) 27 9 1 iS _ rfl Tryz.underlying27 i1 i2 i3 rfl _ 0 [] rfl (RW.of_blk (n := 0) (HG9).out (by simp) (by decide)) _ k _ rfl (HA4.out _ (HXwb).out) (by rw [i4]; omega) (by omega) ?_
              intro v4 wc ap
              have HAP4 := Lib.hid ap
              have HXwc : Hid (Below wx.heap.size wx wc) := Lib.hid (((Kp.of_below (S := fun _ => False) (HXwb).out).after ap.kp (fun i hi e => by have e' : wx.heap.size = i := Option.some.inj e; have := (HZwa).out; omega)).below (Nat.le_refl _) (fun _ h => h.elim))
              refine hK _ _ HXwc.out ?_
              clear hK K ap i1 i2 i3 i4
              have HO4 : Hid (OL rStr 1 9 wx wc v4 (L.take k)) := Lib.hid (by
                have ho : OL rStr 1 9 wx wc v4 ([] ++ L.take k) := OL.app (css := []) rfl (fun _ h => by cases h) (fun _ h => absurd h (by simp)) (fun b hb => by cases hb; exact (HZwa).out) rfl HA1.out HA2.out HA3.out HTL.out (HXwb).out.size HAP4.out
                exact ho)
              have HGs := Lib.hid (HGwb.out.kp HAP4.out.kp (fun e => by have e' : wx.heap.size = wa.heap.size := Option.some.inj e; have h7 : wx.heap.size < wa.heap.size := HGwa.out.lt; omega))
              obtain ⟨cs4, g1, g2, g3, g4, g5⟩ := (HO4).out
              have HK1 := Lib.hid g1
              have HK2 := Lib.hid g2
              have HK3 := Lib.hid g3
              rw [HTL.out] at g4
              have HK4 := Lib.hid g4
              have HK5 := Lib.hid g5
              clear g1 g2 g3 g4 g5
              refine Text.beff rfl rfl (fun K hK => ?_)
              obtain ⟨iS, i1, i2, i3, i4⟩ := info_some infoStr
              refine wp_appRW _ (.tmp 44) (.tmp 46) 27 9 1 iS _ rfl Tryz.underlying27 i1 i2 i3 rfl v4 k _ rfl HK4.out wa.heap.size [.string (strB s)] rfl (HGs).out rfl (one_val _ rfl) (by rw [i4]; omega) (by omega) ?_
              intro v7 w7 ap
              have HR7 := Lib.hid ap
              have HX7 : Hid (Below wx.heap.size wx w7) := Lib.hid (((Kp.of_below (S := fun _ => False) (HXwc).out).after ap.kp (fun i hi e => by have := HK5.out i e; omega)).below (Nat.le_refl _) (fun _ h => h.elim))
              refine hK _ _ HX7.out ?_
              clear hK K ap i1 i2 i3 i4
              have HO7 : Hid (OL rStr 1 9 wx w7 v7 (L.take k ++ [s])) := Lib.hid (OL.push HK1.out HK2.out HK3.out HK5.out HTL.out rfl ⟨rfl, HS.out⟩ (HXwc).out.size HR7.out)
              obtain ⟨cs7, g1, g2, g3, g4, g5⟩ := HO7.out
              have HK1' := Lib.hid g1
              have HK2' := Lib.hid g2
              have HK3' := Lib.hid g3
              have HT7 : Hid ((L.take k ++ [s]).length = k + 1) := Lib.hid (by rw [List.length_append, HTL.out]; rfl)
              rw [HT7.out] at g4
              have HK4' := Lib.hid g4
              have HK5' := Lib.hid g5
              clear g1 g2 g3 g4 g5
              refine Text.beff rfl rfl (fun K hK => ?_)
              obtain ⟨iS, i1, i2, i3, i4⟩ := info_some infoStr
              refine wp_appX _ (.tmp 47) (.tmp 50) 27 9 1 iS _ rfl Tryz.underlying27 i1 i2 i3 rfl v7 (k + 1) _ rfl HK4'.out _ (n - k) _ rfl (HC4.out _ HX7.out) (by rw [i4]; omega) (by omega) ?_
              intro v9 w9 ap
              have HR9 := Lib.hid ap
              have HX9 : Hid (Below wx.heap.size wx w9) := Lib.hid (((Kp.of_below (S := fun _ => False) HX7.out).after ap.kp (fun i hi e => by have := HK5'.out i e; omega)).below (Nat.le_refl _) (fun _ h => h.elim))
              refine hK _ _ HX9.out ?_
              clear hK K ap i1 i2 i3 i4
              have HO9 : Hid (OL rStr 1 9 wx w9 v9 (L.take k ++ [s] ++ L.drop k)) := Lib.hid (OL.app HK1'.out HK2'.out HK3'.out HK5'.out HT7.out HC1.out HC2.out HC3.out HDL.out HX7.out.size HR9.out)
              (refine Text.bpurek rfl rfl (fun K hK => ⟨_, fun w' => by go_simp <;> rfl, ?_⟩); go_simp; refine hK _ ?_; clear hK K)
              refine Text.bdone ?_
              have HW9 : Hid (∃ A9 c9, v9 = .slice A9 (addS L s).length c9 ∧ LS rStr 1 16 w9 A9 (addS L s).length c9 (addS L s)) := Lib.hid (by
                have e : L.take k ++ [s] ++ L.drop k = addS L s := by rw [HR.out, List.append_assoc]; rfl
                have ho := HO9.out
                rw [e] at ho
                exact ho.ls (b := 16) stay_str HX9.out (by have := addS_len L s; have := HL.out; unfold lim; omega))
              go_wp2_with fail
              go_roundw
              case rel => exact ⟨j + 1, v9, by omega, by go_num, rfl, Lib.hid (by rw [HNX.out]; exact HW9.out), Lib.hid (below_thenB hb0.out hb0.out.size HX9.out)⟩
              case measure => simp [intOf]; omega
          · refine Text.beff rfl rfl (fun K hK => ?_)
            refine wp_bslice 27 9 1 _ rfl #[(0, .string (strB s))] (by rw [List.map_toArray]; rfl) [.string (strB s)] (bslStr _ _) ?_
            intro wa a1 a2 a3
            have HBwa := Lib.hid a2
            have HXwa : Hid (Below wx.heap.size wx wa) := Lib.hid (below_thenB (HX0).out (by have := (HX0).out.size; exact this) a2)
            have HGwa := Lib.hid a1
            refine hK _ _ HXwa.out ?_
            clear hK K a1 a2 a3
            refine Text.beff rfl rfl (fun K hK => ?_)
            refine wp_bslice 27 9 0 _ rfl #[] (by rw [List.map_toArray]; rfl) [] (bsl0_str _) ?_
            intro wb a1 a2 a3
            have HBwb := Lib.hid a2
            have HXwb : Hid (Below wx.heap.size wx wb) := Lib.hid (below_thenB (HXwa).out (by have := (HXwa).out.size; exact this) a2)
            have HZwb : Hid (wx.heap.size ≤ wa.heap.size) := Lib.hid (by have := (HXwa).out.size; exact this)
            have HGwb := Lib.hid a1
            refine hK _ _ HXwb.out ?_
            clear hK K a1 a2 a3
            have HGa := Lib.hid (HGwa.out.kept HBwb.out)
            refine Text.beff rfl rfl (fun K hK => ?_)
            obtain ⟨iS, i1, i2, i3, i4⟩ := info_some infoStr
            refine wp_appX _ (.tmp 40) (.tmp 43) 27 9 1 iS _ rfl Tryz.underlying27 i1 i2 i3 rfl _ 0 [] rfl (RW.of_blk (n := 0) (HGwb).out (by simp) (by decide)) _ k _ rfl (HA4.out _ (HXwb).out) (by rw [i4]; omega) (by omega) ?_
            intro v4 wc ap
            have HAP4 := Lib.hid ap
            have HXwc : Hid (Below wx.heap.size wx wc) := Lib.hid (((Kp.of_below (S := fun _ => False) (HXwb).out).after ap.kp (fun i hi e => by have e' : wa.heap.size = i := Option.some.inj e; have := (HZwb).out; omega)).below (Nat.le_refl _) (fun _ h => h.elim))
            refine hK _ _ HXwc.out ?_
            clear hK K ap i1 i2 i3 i4
            have HO4 : Hid (OL rStr 1 9 wx wc v4 (L.take k)) := Lib.hid (by
              have ho : OL rStr 1 9 wx wc v4 ([] ++ L.take k) := OL.app (css := []) rfl (fun _ h => by cases h) (fun _ h => absurd h (by simp)) (fun b hb => by cases hb; exact (HZwb).out) rfl HA1.out HA2.out HA3.out HTL.out (HXwb).out.size HAP4.out
              exact ho)
            have HGs := Lib.hid (HGa.out.kp HAP4.out.kp (fun e => by have e' : wa.heap.size = wx.heap.size := Option.some.inj e; have h7 : wx.heap.size < wa.heap.size := HGwa.out.lt; omega))
            obtain ⟨cs4, g1, g2, g3, g4, g5⟩ := (HO4).out
            have HK1 := Lib.hid g1
            have HK2 := Lib.hid g2
            have HK3 := Lib.hid g3
            rw [HTL.out] at g4
            have HK4 := Lib.hid g4
            have HK5 := Lib.hid g5
            clear g1 g2 g3 g4 g5
            refine Text.beff rfl rfl (fun K hK => ?_)
            obtain ⟨iS, i1, i2, i3, i4⟩ := info_some infoStr
            refine wp_appRW _ (.tmp 44) (.tmp 46) 27 9 1 iS _ rfl Tryz.underlying27 i1 i2 i3 rfl v4 k _ rfl HK4.out wx.drew.heap.size [.string (strB s)] rfl (HGs).out rfl (one_val _ rfl) (by rw [i4]; omega) (by omega) ?_
            intro v7 w7 ap
            have HR7 := Lib.hid ap
            have HX7 : Hid (Below wx.heap.size wx w7) := Lib.hid (((Kp.of_below (S := fun _ => False) (HXwc).out).after ap.kp (fun i hi e => by have := HK5.out i e; omega)).below (Nat.le_refl _) (fun _ h => h.elim))
            refine hK _ _ HX7.out ?_
            clear hK K ap i1 i2 i3 i4
            have HO7 : Hid (OL rStr 1 9 wx w7 v7 (L.take k ++ [s])) := Lib.hid (OL.push HK1.out HK2.out HK3.out HK5.out HTL.out rfl ⟨rfl, HS.out⟩ (HXwc).out.size HR7.out)
            obtain ⟨cs7, g1, g2, g3, g4, g5⟩ := HO7.out
            have HK1' := Lib.hid g1
            have HK2' := Lib.hid g2
            have HK3' := Lib.hid g3
            have HT7 : Hid ((L.take k ++ [s]).length = k + 1) := Lib.hid (by rw [List.length_append, HTL.out]; rfl)
            rw [HT7.out] at g4
            have HK4' := Lib.hid g4
            have HK5' := Lib.hid g5
            clear g1 g2 g3 g4 g5
            refine Text.beff rfl rfl (fun K hK => ?_)
            obtain ⟨iS, i1, i2, i3, i4⟩ := info_some infoStr
            refine wp_appX _ (.tmp 47) (.tmp 50) 27 9 1 iS _ rfl Tryz.underlying27 i1 i2 i3 rfl v7 (k + 1) _ rfl HK4'.out _ (n - k) _ rfl (HC4.out _ HX7.out) (by rw [i4]; omega) (by omega) ?_
            intro v9 w9 ap
            have HR9 := Lib.hid ap
            have HX9 : Hid (Below wx.heap.size wx w9) := Lib.hid (((Kp.of_below (S := fun _ => False) HX7.out).after ap.kp (fun i hi e => by have := HK5'.out i e; omega)).below (Nat.le_refl _) (fun _ h => h.elim))
            refine hK _ _ HX9.out ?_
            clear hK K ap i1 i2 i3 i4
            have HO9 : Hid (OL rStr 1 9 wx w9 v9 (L.take k ++ [s] ++ L.drop k)) := Lib.hid (OL.app HK1'.out HK2'.out HK3'.out HK5'.out HT7.out HC1.out HC2.out HC3.out HDL.out HX7.out.size HR9.out)
            (refine Text.bpurek rfl rfl (fun K hK => ⟨_, fun w' => by go_simp <;> rfl, ?_⟩); go_simp; refine hK _ ?_; clear hK K)
            refine Text.bdone ?_
            have HW9 : Hid (∃ A9 c9, v9 = .slice A9 (addS L s).length c9 ∧ LS rStr 1 16 w9 A9 (addS L s).length c9 (addS L s)) := Lib.hid (by
              have e : L.take k ++ [s] ++ L.drop k = addS L s := by rw [HR.out, List.append_assoc]; rfl
              have ho := HO9.out
              rw [e] at ho
              exact ho.ls (b := 16) stay_str HX9.out (by have := addS_len L s; have := HL.out; unfold lim; omega))
            go_wp2_with fail
            go_roundw
            case rel => exact ⟨j + 1, v9, by omega, by go_num, rfl, Lib.hid (by rw [HNX.out]; exact HW9.out), Lib.hid (below_thenB hb0.out hb0.out.size HX9.out)⟩
            case measure => simp [intOf]; omega
    · obtain rfl : j = m := by omega
      have HE : Hid (L = M.foldl addS L0) := Lib.hid (by rw [HLJ.out, take_end HML.out])
      go_wp2_with fail
      go_ret
      exact ⟨A1, c, by rw [← HE.out, HL.out]; rfl, by rw [← HE.out, HL.out]; exact H.out, hb0.out⟩
end Go.Proofs.YtfonbliomokffaaGreat
