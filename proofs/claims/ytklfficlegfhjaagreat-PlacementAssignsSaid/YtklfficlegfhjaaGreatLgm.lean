/- The reference's Surpluses. -/
import Derived.Test.YtklfficlegfhjaaGreatLpm
import Derived.Test.YtklfficlegfhjaaGreatText2m
namespace Go.Proofs.YtklfficlegfhjaaGreat
open Go Go.RowKit Gf Sha

theorem surpl_next {ws : List Wt} {ps : List Pl} {k : Nat} {w : Wt} (h : ws[k]? = some w) : surplL (ws.take (k + 1)) ps = insI (spreadI w.st ps - w.da) (surplL (ws.take k) ps) := by
 unfold surplL
 rw [take_next h, List.foldl_append]; rfl
theorem le_take {out : List Int} (hs : out.Pairwise (· ≤ ·)) {y z : Int} {i : Nat} (hy : out[i]? = some y) (h : y ≤ z) : ∀ v ∈ out.take (i + 1), v ≤ z := by
 intro v hv
 obtain ⟨hl, rfl⟩ := List.getElem?_eq_some_iff.1 hy
 obtain ⟨t, ht, rfl⟩ := List.mem_iff_getElem.1 hv
 rw [List.length_take] at ht
 rw [List.getElem_take]
 rcases Nat.lt_or_ge t i with h1 | h1
 ·
  have := List.pairwise_iff_getElem.1 hs t i (by omega) hl h1
  omega
 ·
  have e : t = i := by omega
  subst e
  exact h
set_option maxRecDepth 100000 in
set_option maxHeartbeats 8000000 in
theorem rsurpl_any (A : Option Addr) (n c : Nat) (ws : List Wt) (B : Option Addr) (m d : Nat) (ps : List Pl) (w : World) (h : LS rWt 4 40 w A n c ws) (hp : LS rPl 3 32 w B m d ps) (hw : wantsB ws = true) (hmm : m ≤ 100000) :
  Calls Tryz.prog 38 #[.slice A n c, .slice B m d] w fun e w' => ∃ A' c', e = .returned (.slice A' n c') ∧ LS rInt 1 8 w' A' n c' (surplL ws ps) ∧ Below w.heap.size w w' := by
 have hn := h.len_le
 have H := Lib.hid h
 have HP0 := Lib.hid hp
 have HL := Lib.hid h.1
 have HW := Lib.hid hw
 have HPM : Hid (ps.length ≤ 100000) := Lib.hid (by rw [hp.1]; exact hmm)
 have HN8 : Hid (n ≤ 8) := Lib.hid (by rw [← h.1]; exact wants_8 hw)
 clear h hp hw hmm
 go_enter Tryz.func38, Tryz.ntmps38
 go_wp2_with (first
  | ((with_reducible show OpW 9); refine wpList_bslice _ rfl 39 3 0 _ rfl #[] (by rw [List.map_toArray]; rfl) [] (bslI0 _) ?_; intro w1 a1 a2 a3; have HB1 := Lib.hid a2; clear a1 a2 a3))
 go_loopw [5, 6] (fun ov iv wr => ∃ (j : Nat) (v : Value), j ≤ n ∧ iv = .int .i64 (j : Int) ∧ v = ov ∧ Hid (∃ A1 c1, v = .slice A1 j c1 ∧ LS rInt 1 8 wr A1 j c1 (surplL (ws.take j) ps)) ∧ Hid (Below w.heap.size w wr)) (fun _ iv _ => n - (intOf iv).toNat)
 case atStart => exact ⟨0, _, by omega, rfl, rfl, Lib.hid ⟨_, 0, rfl, rfl, Nat.le_refl _, by unfold lim; omega, fun k hk => by cases hk⟩, HB1⟩
 case round =>
  obtain ⟨j, v, hj, rfl, rfl, hv, hb⟩ := hrel
  obtain ⟨wx, hwx⟩ : ∃ x, x = wr := ⟨_, rfl⟩
  rw [← hwx] at hv hb ⊢
  clear hwx
  obtain ⟨out, hout⟩ : ∃ x, x = surplL (ws.take j) ps := ⟨_, rfl⟩
  have HOD := Lib.hid hout
  obtain ⟨A1, c1, rfl, hls⟩ := hv.out
  rw [← hout] at hls
  have HSRT : Hid (out.Pairwise (· ≤ ·)) := Lib.hid (by rw [hout, surpl_sort]; exact (sortI_both _).2)
  have HOUT := Lib.hid hls
  have HOL : Hid (out.length = j) := Lib.hid hls.1
  have HSZ : Hid (j ≤ 8) := Lib.hid (by have := HN8.out; omega)
  clear hv hout hls
  by_cases hlt : j < n
  ·
   obtain ⟨y0, g, o, cs, hs, ea, hat, hr⟩ := H.out.at_ stay_wt hb.out hlt
   obtain ⟨rfl, hok⟩ := hr
   obtain ⟨x, hx⟩ : ∃ x, x = spreadI y0.st ps - y0.da := ⟨_, rfl⟩
   have hda := wants_all HW.out (List.mem_of_getElem? hs)
   have hsr := spread_rng y0.st ps
   have hsub : IntKind.i64.wrap (spreadI y0.st ps - y0.da) = x := by rw [hx]; exact IntWalk.i64_in _ (by have := HPM.out; omega)
   have HWX : Hid (wfI x) := Lib.hid (wfI_of (by rw [hx]; have := HPM.out; omega) (by rw [hx]; have := HPM.out; omega))
   have HNX : Hid (surplL (ws.take (j + 1)) ps = insI x out) := Lib.hid (by rw [surpl_next hs, ← HOD.out, hx])
   have HA := Lib.hid (At.kept hat (Below.refl _ wx).drew)
   have q0 : wx.drew.cell? ⟨g, o + j * 4, none⟩ = some (.string (strB y0.st)) := HA.out 0 _ rfl
   have HBd := Lib.hid hb.out.drew
   subst ea
   clear hs hat hok hda hsr hx
   go_wp2_with fail
   refine Text.wp_region_text (fun w' => w'.cell? ⟨g, o + j * 4 + 2, none⟩ = some (.int .i64 y0.da)) [(0, 4), (1, 4), (2, 4), (3, 4), (5, 4), (7, 4), (8, 4), (9, 4), (10, 4), (11, 0), (4, 1), (6, 2), (12, 4), (13, 4)] (by kernel_rfl) (by kernel_rfl) (fun _ _ _ _ _ h => h) (HA.out 2 _ rfl) ?_
   iterate 9 (refine Text.purek rfl rfl (fun K hK => ⟨_, fun w' => by go_simp <;> rfl, ?_⟩); go_simp; refine hK _ ?_; clear hK K)
   (refine Text.heldk rfl rfl (fun K hK => ⟨_, fun w' hw' => by go_simp <;> rfl, ?_⟩); go_simp; refine hK _ ?_; clear hK K)
   (refine Text.readk rfl rfl (fun K hK => ⟨_, by go_simp <;> rfl, ?_⟩); go_simp; refine hK _ ?_; clear hK K)
   refine Text.eff rfl rfl (fun K hK => ?_)
   go_simp
   refine (rspread_any y0.st B m d ps _ (HP0.out.kept stay_pl HBd.out)).mono ?_
   rintro e wb ⟨rfl, b5⟩
   have HBb := Lib.hid (below_then HBd.out b5)
   have HOb : Hid (LS rInt 1 8 wb A1 j c1 out) := Lib.hid ((HOUT.out.kept stay_int (Below.refl _ _).drew).kept stay_int b5)
   have HRb : Hid (rInt wb [.int .i64 x] x) := Lib.hid ⟨rfl, HWX.out⟩
   refine hK _ _ ((At.kept HA.out b5) 2 _ rfl) ?_
   clear hK K b5
   iterate 2 (refine Text.purek rfl rfl (fun K hK => ⟨_, fun w' => by go_simp <;> rfl, ?_⟩); go_simp; refine hK _ ?_; clear hK K)
   refine Text.done ?_
   go_wp2_with fail
   go_loopw [8] (fun kv wr => wb = wr ∧ ∃ k : Nat, k ≤ j ∧ kv = .int .i64 (k : Int) ∧ Hid (∀ y, out[k]? = some y → x < y)) (fun kv _ => (intOf kv).toNat)
   case atStart => exact ⟨rfl, j, by omega, rfl, Lib.hid (fun y hy => by rw [List.getElem?_eq_none (by rw [HOL.out]; exact Nat.le_refl _)] at hy; cases hy)⟩
   case round =>
    obtain ⟨rfl, k, hk, rfl, hall⟩ := hrel
    by_cases hp : 0 < k
    rotate_left
    ·
     have HINS : Hid (insI x out = out.take k ++ x :: out.drop k) := Lib.hid (insI_at (by rw [HOL.out]; exact hk) (fun y hy => by rw [show k = 0 by omega] at hy; simp at hy) hall.out)
     have f0 : decide (k > 0) = false := decide_eq_false hp
     have f0' : decide ((k : Int) > 0) = false := decide_eq_false (by omega)
     clear hp
     go_wp2_with fail
     have HP := Lib.hid (HOb.out.pre hk)
     have HC := Lib.hid (HOb.out.cutM hk)
     have HTL : Hid ((out.take k).length = k) := Lib.hid HP.out.1
     have HNC : Hid (j ≤ c1) := Lib.hid HOb.out.2.1
     refine Text.wp_region_bt (fun w' => Below wb.heap.size wb w') (.still 1 4 (.still 2 4 (.still 3 4 (.still 5 4 (.still 8 4 (.still 9 4 (.still 10 4 (.br 0 (.br 4 (.eff 6 (.eff 7 (.eff 11 (.still 12 4 .leaf)))) 6 (.eff 4 (.eff 7 (.eff 11 (.still 12 4 .leaf))))) 6 (.eff 0 (.eff 4 (.eff 7 (.eff 11 (.still 12 4 .leaf))))))))))))) (by kernel_rfl) (by kernel_rfl) (fun _ _ _ _ _ h => h) ((Below.refl _ _).drew) ?_
     iterate 2 (refine Text.bpurek rfl rfl (fun K hK => ⟨_, fun w' => by go_simp <;> rfl, ?_⟩); go_simp; refine hK _ ?_; clear hK K)
     refine Text.bpurek rfl rfl (fun K hK => ⟨_, fun w' => exec_preM (.tmp 45) (.tmp 46) 39 3 1 rfl Tryz.underlying39 (szI _) _ j c1 k rfl (by go_simp) hk HNC.out, ?_⟩)
     go_simp
     refine hK _ ?_
     clear hK K
     iterate 3 (refine Text.bpurek rfl rfl (fun K hK => ⟨_, fun w' => by go_simp <;> rfl, ?_⟩); go_simp; refine hK _ ?_; clear hK K)
     refine Text.bpurek rfl rfl (fun K hK => ⟨_, fun w' => exec_cutM (.tmp 52) (.tmp 53) 39 3 1 rfl Tryz.underlying39 (szI _) _ j c1 k rfl (by go_simp) hk, ?_⟩)
     go_simp
     refine hK _ ?_
     clear hK K
     have HX0 : Hid (Below wb.heap.size wb wb.drew) := Lib.hid (Below.refl _ _).drew
     refine Text.bfork ?_ ?_
     ·
      refine Text.beff rfl rfl (fun K hK => ?_)
      refine wp_bslice 39 3 0 _ rfl #[] (by rw [List.map_toArray]; rfl) [] (bslI0 _) ?_
      intro wa a1 a2 a3
      have HKwa := Lib.hid a2
      have HGwa := Lib.hid a1
      have HXwa : Hid (Below wb.heap.size wb wa) := Lib.hid (below_thenB (HX0).out (by have := (HX0).out.size; exact this) a2)
      have HOwa : Hid (OL rInt 1 3 wb wa (.slice (some ⟨wb.heap.size, 0, none⟩) 0 0) []) := Lib.hid (OL.nil' _ _ a1 (by have := (HX0).out.size; exact this))
      refine hK _ _ HXwa.out ?_
      clear hK K a1 a2 a3
      refine Text.bfork ?_ ?_
      ·
       refine Text.beff rfl rfl (fun K hK => ?_)
       obtain ⟨iS, i1, i2, i3, i4⟩ := info_some infoI
       refine wp_appOL2 _ (.tmp 44) (.tmp 47) iS _ rfl Tryz.underlying39 i1 i2 i3 rfl _ rfl (HOwa).out (HXwa).out rfl HP.out (fun _ _ h => len_int _ _ h) (fun _ _ h => ones_int _ _ h) (by rw [i4]; have := HSZ.out; simp; omega) (by have := HSZ.out; simp; omega) (fun v4 wc q1 q2 q3 => ?_)
       have HXwc := Lib.hid q2
       have HKP4 := Lib.hid q3
       have HO4 : Hid (OL rInt 1 3 wb wc v4 (out.take k)) := Lib.hid q1
       refine hK _ _ HXwc.out ?_
       clear hK K q1 q2 q3 i1 i2 i3 i4
       refine Text.beff rfl rfl (fun K hK => ?_)
       refine wp_bslice 39 3 1 _ rfl #[(0, .int .i64 x)] (by rw [List.map_toArray]; rfl) [.int .i64 x] (bslI _ _) ?_
       intro wd a1 a2 a3
       have HKwd := Lib.hid a2
       have HXwd : Hid (Below wb.heap.size wb wd) := Lib.hid (below_thenB (HXwc).out (by have := (HXwc).out.size; exact this) a2)
       have HGwd := Lib.hid a1
       refine hK _ _ HXwd.out ?_
       clear hK K a1 a2 a3
       have HO5 := Lib.hid (HO4.out.kept HKwd.out)
       obtain ⟨cs4, g1, g2, g3, g4, g5⟩ := (HO5).out
       have HK1 := Lib.hid g1
       have HK2 := Lib.hid g2
       have HK3 := Lib.hid g3
       rw [HTL.out] at g4
       have HK4 := Lib.hid g4
       have HK5 := Lib.hid g5
       clear g1 g2 g3 g4 g5
       refine Text.beff rfl rfl (fun K hK => ?_)
       obtain ⟨iS, i1, i2, i3, i4⟩ := info_some infoI
       refine wp_appRW _ (.tmp 48) (.tmp 50) 39 3 1 iS _ rfl Tryz.underlying39 i1 i2 i3 rfl v4 k _ rfl HK4.out wc.heap.size [.int .i64 x] rfl (HGwd).out rfl (fun u hu => by rw [List.mem_singleton.1 hu]; rfl) (by rw [i4]; have := HSZ.out; omega) (by have := HSZ.out; omega) ?_
       intro v7 w7 ap
       have HX7 : Hid (Below wb.heap.size wb w7) := Lib.hid (low_kp (HXwd).out ap.kp (fun i hi e => by have := HK5.out i e; omega))
       have HO7 : Hid (OL rInt 1 3 wb w7 v7 (out.take k ++ [x])) := Lib.hid (OL.push HK1.out HK2.out HK3.out HK5.out HTL.out rfl HRb.out (HXwd).out.size ap)
       refine hK _ _ HX7.out ?_
       clear hK K ap i1 i2 i3 i4
       refine Text.beff rfl rfl (fun K hK => ?_)
       obtain ⟨iS, i1, i2, i3, i4⟩ := info_some infoI
       refine wp_appOL2 _ (.tmp 51) (.tmp 54) iS _ rfl Tryz.underlying39 i1 i2 i3 rfl _ rfl HO7.out HX7.out rfl HC.out (fun _ _ h => len_int _ _ h) (fun _ _ h => ones_int _ _ h) (by rw [i4, List.length_append, HTL.out, List.length_singleton]; have := HSZ.out; omega) (by rw [List.length_append, HTL.out, List.length_singleton]; have := HSZ.out; omega) (fun v9 w9 q1 q2 _ => ?_)
       have HX9 := Lib.hid q2
       have HO9 := Lib.hid q1
       refine hK _ _ HX9.out ?_
       clear hK K q1 q2 i1 i2 i3 i4
       (refine Text.bpurek rfl rfl (fun K hK => ⟨_, fun w' => by go_simp <;> rfl, ?_⟩); go_simp; refine hK _ ?_; clear hK K)
       refine Text.bdone ?_
       have HW9 : Hid (∃ A9 c9, v9 = .slice A9 (j + 1) c9 ∧ LS rInt 1 8 w9 A9 (j + 1) c9 (out.take k ++ x :: out.drop k)) := Lib.hid (by
        have e : out.take k ++ [x] ++ out.drop k = out.take k ++ x :: out.drop k := by rw [List.append_assoc]; rfl
        have hl : (out.take k ++ x :: out.drop k).length = j + 1 := by have h8 := HOL.out; have h9 := HTL.out; rw [List.length_append, List.length_cons, List.length_drop]; omega
        have ho := HO9.out
        rw [e] at ho
        have h7 := ho.ls (b := 8) stay_int HX9.out (by rw [hl]; have := HSZ.out; unfold lim; omega)
        rw [hl] at h7
        exact h7)
       go_wp2_with fail
       go_roundw
       case rel => exact ⟨j + 1, v9, by omega, by go_num, rfl, Lib.hid (by rw [HNX.out, HINS.out]; exact HW9.out), Lib.hid (below_thenB HBb.out HBb.out.size HX9.out)⟩
       case measure => simp [intOf]; omega
      ·
       refine Text.beff rfl rfl (fun K hK => ?_)
       refine wp_bslice 39 3 1 _ rfl #[(0, .int .i64 x)] (by rw [List.map_toArray]; rfl) [.int .i64 x] (bslI _ _) ?_
       intro wc a1 a2 a3
       have HKwc := Lib.hid a2
       have HXwc : Hid (Below wb.heap.size wb wc) := Lib.hid (below_thenB (HXwa).out (by have := (HXwa).out.size; exact this) a2)
       have HGwc := Lib.hid a1
       refine hK _ _ HXwc.out ?_
       clear hK K a1 a2 a3
       have HOc := Lib.hid (HOwa.out.kept HKwc.out)
       refine Text.beff rfl rfl (fun K hK => ?_)
       obtain ⟨iS, i1, i2, i3, i4⟩ := info_some infoI
       refine wp_appOL2 _ (.tmp 44) (.tmp 47) iS _ rfl Tryz.underlying39 i1 i2 i3 rfl _ rfl (HOc).out (HXwc).out rfl HP.out (fun _ _ h => len_int _ _ h) (fun _ _ h => ones_int _ _ h) (by rw [i4]; have := HSZ.out; simp; omega) (by have := HSZ.out; simp; omega) (fun v4 wd q1 q2 q3 => ?_)
       have HXwd := Lib.hid q2
       have HKP4 := Lib.hid q3
       have HO4 : Hid (OL rInt 1 3 wb wd v4 (out.take k)) := Lib.hid q1
       refine hK _ _ HXwd.out ?_
       clear hK K q1 q2 q3 i1 i2 i3 i4
       have HGs := Lib.hid (HGwc.out.kp HKP4.out (fun e => by have e' : wb.heap.size = wa.heap.size := Option.some.inj e; have h7 : wb.heap.size < wa.heap.size := HGwa.out.lt; omega))
       obtain ⟨cs4, g1, g2, g3, g4, g5⟩ := (HO4).out
       have HK1 := Lib.hid g1
       have HK2 := Lib.hid g2
       have HK3 := Lib.hid g3
       rw [HTL.out] at g4
       have HK4 := Lib.hid g4
       have HK5 := Lib.hid g5
       clear g1 g2 g3 g4 g5
       refine Text.beff rfl rfl (fun K hK => ?_)
       obtain ⟨iS, i1, i2, i3, i4⟩ := info_some infoI
       refine wp_appRW _ (.tmp 48) (.tmp 50) 39 3 1 iS _ rfl Tryz.underlying39 i1 i2 i3 rfl v4 k _ rfl HK4.out wa.heap.size [.int .i64 x] rfl (HGs).out rfl (fun u hu => by rw [List.mem_singleton.1 hu]; rfl) (by rw [i4]; have := HSZ.out; omega) (by have := HSZ.out; omega) ?_
       intro v7 w7 ap
       have HX7 : Hid (Below wb.heap.size wb w7) := Lib.hid (low_kp (HXwd).out ap.kp (fun i hi e => by have := HK5.out i e; omega))
       have HO7 : Hid (OL rInt 1 3 wb w7 v7 (out.take k ++ [x])) := Lib.hid (OL.push HK1.out HK2.out HK3.out HK5.out HTL.out rfl HRb.out (HXwd).out.size ap)
       refine hK _ _ HX7.out ?_
       clear hK K ap i1 i2 i3 i4
       refine Text.beff rfl rfl (fun K hK => ?_)
       obtain ⟨iS, i1, i2, i3, i4⟩ := info_some infoI
       refine wp_appOL2 _ (.tmp 51) (.tmp 54) iS _ rfl Tryz.underlying39 i1 i2 i3 rfl _ rfl HO7.out HX7.out rfl HC.out (fun _ _ h => len_int _ _ h) (fun _ _ h => ones_int _ _ h) (by rw [i4, List.length_append, HTL.out, List.length_singleton]; have := HSZ.out; omega) (by rw [List.length_append, HTL.out, List.length_singleton]; have := HSZ.out; omega) (fun v9 w9 q1 q2 _ => ?_)
       have HX9 := Lib.hid q2
       have HO9 := Lib.hid q1
       refine hK _ _ HX9.out ?_
       clear hK K q1 q2 i1 i2 i3 i4
       (refine Text.bpurek rfl rfl (fun K hK => ⟨_, fun w' => by go_simp <;> rfl, ?_⟩); go_simp; refine hK _ ?_; clear hK K)
       refine Text.bdone ?_
       have HW9 : Hid (∃ A9 c9, v9 = .slice A9 (j + 1) c9 ∧ LS rInt 1 8 w9 A9 (j + 1) c9 (out.take k ++ x :: out.drop k)) := Lib.hid (by
        have e : out.take k ++ [x] ++ out.drop k = out.take k ++ x :: out.drop k := by rw [List.append_assoc]; rfl
        have hl : (out.take k ++ x :: out.drop k).length = j + 1 := by have h8 := HOL.out; have h9 := HTL.out; rw [List.length_append, List.length_cons, List.length_drop]; omega
        have ho := HO9.out
        rw [e] at ho
        have h7 := ho.ls (b := 8) stay_int HX9.out (by rw [hl]; have := HSZ.out; unfold lim; omega)
        rw [hl] at h7
        exact h7)
       go_wp2_with fail
       go_roundw
       case rel => exact ⟨j + 1, v9, by omega, by go_num, rfl, Lib.hid (by rw [HNX.out, HINS.out]; exact HW9.out), Lib.hid (below_thenB HBb.out HBb.out.size HX9.out)⟩
       case measure => simp [intOf]; omega
     ·
      refine Text.beff rfl rfl (fun K hK => ?_)
      refine wp_bslice 39 3 1 _ rfl #[(0, .int .i64 x)] (by rw [List.map_toArray]; rfl) [.int .i64 x] (bslI _ _) ?_
      intro wa a1 a2 a3
      have HKwa := Lib.hid a2
      have HXwa : Hid (Below wb.heap.size wb wa) := Lib.hid (below_thenB (HX0).out (by have := (HX0).out.size; exact this) a2)
      have HGwa := Lib.hid a1
      refine hK _ _ HXwa.out ?_
      clear hK K a1 a2 a3
      refine Text.beff rfl rfl (fun K hK => ?_)
      refine wp_bslice 39 3 0 _ rfl #[] (by rw [List.map_toArray]; rfl) [] (bslI0 _) ?_
      intro wc a1 a2 a3
      have HKwc := Lib.hid a2
      have HGwc := Lib.hid a1
      have HXwc : Hid (Below wb.heap.size wb wc) := Lib.hid (below_thenB (HXwa).out (by have := (HXwa).out.size; exact this) a2)
      have HOwc : Hid (OL rInt 1 3 wb wc (.slice (some ⟨wa.heap.size, 0, none⟩) 0 0) []) := Lib.hid (OL.nil' _ _ a1 (by have := (HXwa).out.size; exact this))
      refine hK _ _ HXwc.out ?_
      clear hK K a1 a2 a3
      have HGa := Lib.hid (HGwa.out.kept HKwc.out)
      refine Text.beff rfl rfl (fun K hK => ?_)
      obtain ⟨iS, i1, i2, i3, i4⟩ := info_some infoI
      refine wp_appOL2 _ (.tmp 44) (.tmp 47) iS _ rfl Tryz.underlying39 i1 i2 i3 rfl _ rfl (HOwc).out (HXwc).out rfl HP.out (fun _ _ h => len_int _ _ h) (fun _ _ h => ones_int _ _ h) (by rw [i4]; have := HSZ.out; simp; omega) (by have := HSZ.out; simp; omega) (fun v4 wd q1 q2 q3 => ?_)
      have HXwd := Lib.hid q2
      have HKP4 := Lib.hid q3
      have HO4 : Hid (OL rInt 1 3 wb wd v4 (out.take k)) := Lib.hid q1
      refine hK _ _ HXwd.out ?_
      clear hK K q1 q2 q3 i1 i2 i3 i4
      have HGs := Lib.hid (HGa.out.kp HKP4.out (fun e => by have e' : wa.heap.size = wb.heap.size := Option.some.inj e; have h7 : wb.heap.size < wa.heap.size := HGwa.out.lt; omega))
      obtain ⟨cs4, g1, g2, g3, g4, g5⟩ := (HO4).out
      have HK1 := Lib.hid g1
      have HK2 := Lib.hid g2
      have HK3 := Lib.hid g3
      rw [HTL.out] at g4
      have HK4 := Lib.hid g4
      have HK5 := Lib.hid g5
      clear g1 g2 g3 g4 g5
      refine Text.beff rfl rfl (fun K hK => ?_)
      obtain ⟨iS, i1, i2, i3, i4⟩ := info_some infoI
      refine wp_appRW _ (.tmp 48) (.tmp 50) 39 3 1 iS _ rfl Tryz.underlying39 i1 i2 i3 rfl v4 k _ rfl HK4.out wb.drew.heap.size [.int .i64 x] rfl (HGs).out rfl (fun u hu => by rw [List.mem_singleton.1 hu]; rfl) (by rw [i4]; have := HSZ.out; omega) (by have := HSZ.out; omega) ?_
      intro v7 w7 ap
      have HX7 : Hid (Below wb.heap.size wb w7) := Lib.hid (low_kp (HXwd).out ap.kp (fun i hi e => by have := HK5.out i e; omega))
      have HO7 : Hid (OL rInt 1 3 wb w7 v7 (out.take k ++ [x])) := Lib.hid (OL.push HK1.out HK2.out HK3.out HK5.out HTL.out rfl HRb.out (HXwd).out.size ap)
      refine hK _ _ HX7.out ?_
      clear hK K ap i1 i2 i3 i4
      refine Text.beff rfl rfl (fun K hK => ?_)
      obtain ⟨iS, i1, i2, i3, i4⟩ := info_some infoI
      refine wp_appOL2 _ (.tmp 51) (.tmp 54) iS _ rfl Tryz.underlying39 i1 i2 i3 rfl _ rfl HO7.out HX7.out rfl HC.out (fun _ _ h => len_int _ _ h) (fun _ _ h => ones_int _ _ h) (by rw [i4, List.length_append, HTL.out, List.length_singleton]; have := HSZ.out; omega) (by rw [List.length_append, HTL.out, List.length_singleton]; have := HSZ.out; omega) (fun v9 w9 q1 q2 _ => ?_)
      have HX9 := Lib.hid q2
      have HO9 := Lib.hid q1
      refine hK _ _ HX9.out ?_
      clear hK K q1 q2 i1 i2 i3 i4
      (refine Text.bpurek rfl rfl (fun K hK => ⟨_, fun w' => by go_simp <;> rfl, ?_⟩); go_simp; refine hK _ ?_; clear hK K)
      refine Text.bdone ?_
      have HW9 : Hid (∃ A9 c9, v9 = .slice A9 (j + 1) c9 ∧ LS rInt 1 8 w9 A9 (j + 1) c9 (out.take k ++ x :: out.drop k)) := Lib.hid (by
       have e : out.take k ++ [x] ++ out.drop k = out.take k ++ x :: out.drop k := by rw [List.append_assoc]; rfl
       have hl : (out.take k ++ x :: out.drop k).length = j + 1 := by have h8 := HOL.out; have h9 := HTL.out; rw [List.length_append, List.length_cons, List.length_drop]; omega
       have ho := HO9.out
       rw [e] at ho
       have h7 := ho.ls (b := 8) stay_int HX9.out (by rw [hl]; have := HSZ.out; unfold lim; omega)
       rw [hl] at h7
       exact h7)
      go_wp2_with fail
      go_roundw
      case rel => exact ⟨j + 1, v9, by omega, by go_num, rfl, Lib.hid (by rw [HNX.out, HINS.out]; exact HW9.out), Lib.hid (below_thenB HBb.out HBb.out.size HX9.out)⟩
      case measure => simp [intOf]; omega
    ·
     obtain ⟨i, hi⟩ : ∃ i, i = k - 1 := ⟨_, rfl⟩
     have hik : i < j := by omega
     have hi1 : (k : Int) - 1 = (i : Int) := by omega
     have hw1 : IntKind.i64.wrap ((k : Int) - 1) = (i : Int) := by rw [IntWalk.i64_in _ (by have := HSZ.out; omega)]; exact hi1
     have hw2 : IntKind.i64.wrap (i : Int) = (i : Int) := IntWalk.i64_in _ (by have := HSZ.out; omega)
     have HIK : Hid (i + 1 = k) := Lib.hid (by omega)
     have f0 : decide (k > 0) = true := decide_eq_true hp
     have f0' : decide ((k : Int) > 0) = true := decide_eq_true (by omega)
     obtain ⟨y, g', o', hs', e', q1⟩ := HOb.out.int_at (Below.refl _ _) hik
     have HY := Lib.hid hs'
     subst e'
     clear hs' hi
     by_cases h1 : y > x
     ·
      have f1 : decide (y > x) = true := decide_eq_true h1
      have HALL : Hid (∀ z, out[i]? = some z → x < z) := Lib.hid (fun z hz => by rw [HY.out] at hz; cases hz; exact h1)
      clear h1
      go_wp2_with fail
      go_roundw
      case rel => exact ⟨trivial, i, by omega, by go_num, HALL⟩
      case measure => simp [intOf]; omega
     ·
      have f1 : decide (y > x) = false := decide_eq_false h1
      have HINS : Hid (insI x out = out.take k ++ x :: out.drop k) := Lib.hid (insI_at (by rw [HOL.out]; exact hk) (by rw [← HIK.out]; exact le_take HSRT.out HY.out (by omega)) hall.out)
      clear h1
      go_wp2_with fail
      have HP := Lib.hid (HOb.out.pre hk)
      have HC := Lib.hid (HOb.out.cutM hk)
      have HTL : Hid ((out.take k).length = k) := Lib.hid HP.out.1
      have HNC : Hid (j ≤ c1) := Lib.hid HOb.out.2.1
      refine Text.wp_region_bt (fun w' => Below wb.heap.size wb w') (.still 1 4 (.still 2 4 (.still 3 4 (.still 5 4 (.still 8 4 (.still 9 4 (.still 10 4 (.br 0 (.br 4 (.eff 6 (.eff 7 (.eff 11 (.still 12 4 .leaf)))) 6 (.eff 4 (.eff 7 (.eff 11 (.still 12 4 .leaf))))) 6 (.eff 0 (.eff 4 (.eff 7 (.eff 11 (.still 12 4 .leaf))))))))))))) (by kernel_rfl) (by kernel_rfl) (fun _ _ _ _ _ h => h) ((Below.refl _ _).drew) ?_
      iterate 2 (refine Text.bpurek rfl rfl (fun K hK => ⟨_, fun w' => by go_simp <;> rfl, ?_⟩); go_simp; refine hK _ ?_; clear hK K)
      refine Text.bpurek rfl rfl (fun K hK => ⟨_, fun w' => exec_preM (.tmp 45) (.tmp 46) 39 3 1 rfl Tryz.underlying39 (szI _) _ j c1 k rfl (by go_simp) hk HNC.out, ?_⟩)
      go_simp
      refine hK _ ?_
      clear hK K
      iterate 3 (refine Text.bpurek rfl rfl (fun K hK => ⟨_, fun w' => by go_simp <;> rfl, ?_⟩); go_simp; refine hK _ ?_; clear hK K)
      refine Text.bpurek rfl rfl (fun K hK => ⟨_, fun w' => exec_cutM (.tmp 52) (.tmp 53) 39 3 1 rfl Tryz.underlying39 (szI _) _ j c1 k rfl (by go_simp) hk, ?_⟩)
      go_simp
      refine hK _ ?_
      clear hK K
      have HX0 : Hid (Below wb.heap.size wb wb.drew) := Lib.hid (Below.refl _ _).drew
      refine Text.bfork ?_ ?_
      ·
       refine Text.beff rfl rfl (fun K hK => ?_)
       refine wp_bslice 39 3 0 _ rfl #[] (by rw [List.map_toArray]; rfl) [] (bslI0 _) ?_
       intro wa a1 a2 a3
       have HKwa := Lib.hid a2
       have HGwa := Lib.hid a1
       have HXwa : Hid (Below wb.heap.size wb wa) := Lib.hid (below_thenB (HX0).out (by have := (HX0).out.size; exact this) a2)
       have HOwa : Hid (OL rInt 1 3 wb wa (.slice (some ⟨wb.heap.size, 0, none⟩) 0 0) []) := Lib.hid (OL.nil' _ _ a1 (by have := (HX0).out.size; exact this))
       refine hK _ _ HXwa.out ?_
       clear hK K a1 a2 a3
       refine Text.bfork ?_ ?_
       ·
        refine Text.beff rfl rfl (fun K hK => ?_)
        obtain ⟨iS, i1, i2, i3, i4⟩ := info_some infoI
        refine wp_appOL2 _ (.tmp 44) (.tmp 47) iS _ rfl Tryz.underlying39 i1 i2 i3 rfl _ rfl (HOwa).out (HXwa).out rfl HP.out (fun _ _ h => len_int _ _ h) (fun _ _ h => ones_int _ _ h) (by rw [i4]; have := HSZ.out; simp; omega) (by have := HSZ.out; simp; omega) (fun v4 wc q1 q2 q3 => ?_)
        have HXwc := Lib.hid q2
        have HKP4 := Lib.hid q3
        have HO4 : Hid (OL rInt 1 3 wb wc v4 (out.take k)) := Lib.hid q1
        refine hK _ _ HXwc.out ?_
        clear hK K q1 q2 q3 i1 i2 i3 i4
        refine Text.beff rfl rfl (fun K hK => ?_)
        refine wp_bslice 39 3 1 _ rfl #[(0, .int .i64 x)] (by rw [List.map_toArray]; rfl) [.int .i64 x] (bslI _ _) ?_
        intro wd a1 a2 a3
        have HKwd := Lib.hid a2
        have HXwd : Hid (Below wb.heap.size wb wd) := Lib.hid (below_thenB (HXwc).out (by have := (HXwc).out.size; exact this) a2)
        have HGwd := Lib.hid a1
        refine hK _ _ HXwd.out ?_
        clear hK K a1 a2 a3
        have HO5 := Lib.hid (HO4.out.kept HKwd.out)
        obtain ⟨cs4, g1, g2, g3, g4, g5⟩ := (HO5).out
        have HK1 := Lib.hid g1
        have HK2 := Lib.hid g2
        have HK3 := Lib.hid g3
        rw [HTL.out] at g4
        have HK4 := Lib.hid g4
        have HK5 := Lib.hid g5
        clear g1 g2 g3 g4 g5
        refine Text.beff rfl rfl (fun K hK => ?_)
        obtain ⟨iS, i1, i2, i3, i4⟩ := info_some infoI
        refine wp_appRW _ (.tmp 48) (.tmp 50) 39 3 1 iS _ rfl Tryz.underlying39 i1 i2 i3 rfl v4 k _ rfl HK4.out wc.heap.size [.int .i64 x] rfl (HGwd).out rfl (fun u hu => by rw [List.mem_singleton.1 hu]; rfl) (by rw [i4]; have := HSZ.out; omega) (by have := HSZ.out; omega) ?_
        intro v7 w7 ap
        have HX7 : Hid (Below wb.heap.size wb w7) := Lib.hid (low_kp (HXwd).out ap.kp (fun i hi e => by have := HK5.out i e; omega))
        have HO7 : Hid (OL rInt 1 3 wb w7 v7 (out.take k ++ [x])) := Lib.hid (OL.push HK1.out HK2.out HK3.out HK5.out HTL.out rfl HRb.out (HXwd).out.size ap)
        refine hK _ _ HX7.out ?_
        clear hK K ap i1 i2 i3 i4
        refine Text.beff rfl rfl (fun K hK => ?_)
        obtain ⟨iS, i1, i2, i3, i4⟩ := info_some infoI
        refine wp_appOL2 _ (.tmp 51) (.tmp 54) iS _ rfl Tryz.underlying39 i1 i2 i3 rfl _ rfl HO7.out HX7.out rfl HC.out (fun _ _ h => len_int _ _ h) (fun _ _ h => ones_int _ _ h) (by rw [i4, List.length_append, HTL.out, List.length_singleton]; have := HSZ.out; omega) (by rw [List.length_append, HTL.out, List.length_singleton]; have := HSZ.out; omega) (fun v9 w9 q1 q2 _ => ?_)
        have HX9 := Lib.hid q2
        have HO9 := Lib.hid q1
        refine hK _ _ HX9.out ?_
        clear hK K q1 q2 i1 i2 i3 i4
        (refine Text.bpurek rfl rfl (fun K hK => ⟨_, fun w' => by go_simp <;> rfl, ?_⟩); go_simp; refine hK _ ?_; clear hK K)
        refine Text.bdone ?_
        have HW9 : Hid (∃ A9 c9, v9 = .slice A9 (j + 1) c9 ∧ LS rInt 1 8 w9 A9 (j + 1) c9 (out.take k ++ x :: out.drop k)) := Lib.hid (by
         have e : out.take k ++ [x] ++ out.drop k = out.take k ++ x :: out.drop k := by rw [List.append_assoc]; rfl
         have hl : (out.take k ++ x :: out.drop k).length = j + 1 := by have h8 := HOL.out; have h9 := HTL.out; rw [List.length_append, List.length_cons, List.length_drop]; omega
         have ho := HO9.out
         rw [e] at ho
         have h7 := ho.ls (b := 8) stay_int HX9.out (by rw [hl]; have := HSZ.out; unfold lim; omega)
         rw [hl] at h7
         exact h7)
        go_wp2_with fail
        go_roundw
        case rel => exact ⟨j + 1, v9, by omega, by go_num, rfl, Lib.hid (by rw [HNX.out, HINS.out]; exact HW9.out), Lib.hid (below_thenB HBb.out HBb.out.size HX9.out)⟩
        case measure => simp [intOf]; omega
       ·
        refine Text.beff rfl rfl (fun K hK => ?_)
        refine wp_bslice 39 3 1 _ rfl #[(0, .int .i64 x)] (by rw [List.map_toArray]; rfl) [.int .i64 x] (bslI _ _) ?_
        intro wc a1 a2 a3
        have HKwc := Lib.hid a2
        have HXwc : Hid (Below wb.heap.size wb wc) := Lib.hid (below_thenB (HXwa).out (by have := (HXwa).out.size; exact this) a2)
        have HGwc := Lib.hid a1
        refine hK _ _ HXwc.out ?_
        clear hK K a1 a2 a3
        have HOc := Lib.hid (HOwa.out.kept HKwc.out)
        refine Text.beff rfl rfl (fun K hK => ?_)
        obtain ⟨iS, i1, i2, i3, i4⟩ := info_some infoI
        refine wp_appOL2 _ (.tmp 44) (.tmp 47) iS _ rfl Tryz.underlying39 i1 i2 i3 rfl _ rfl (HOc).out (HXwc).out rfl HP.out (fun _ _ h => len_int _ _ h) (fun _ _ h => ones_int _ _ h) (by rw [i4]; have := HSZ.out; simp; omega) (by have := HSZ.out; simp; omega) (fun v4 wd q1 q2 q3 => ?_)
        have HXwd := Lib.hid q2
        have HKP4 := Lib.hid q3
        have HO4 : Hid (OL rInt 1 3 wb wd v4 (out.take k)) := Lib.hid q1
        refine hK _ _ HXwd.out ?_
        clear hK K q1 q2 q3 i1 i2 i3 i4
        have HGs := Lib.hid (HGwc.out.kp HKP4.out (fun e => by have e' : wb.heap.size = wa.heap.size := Option.some.inj e; have h7 : wb.heap.size < wa.heap.size := HGwa.out.lt; omega))
        obtain ⟨cs4, g1, g2, g3, g4, g5⟩ := (HO4).out
        have HK1 := Lib.hid g1
        have HK2 := Lib.hid g2
        have HK3 := Lib.hid g3
        rw [HTL.out] at g4
        have HK4 := Lib.hid g4
        have HK5 := Lib.hid g5
        clear g1 g2 g3 g4 g5
        refine Text.beff rfl rfl (fun K hK => ?_)
        obtain ⟨iS, i1, i2, i3, i4⟩ := info_some infoI
        refine wp_appRW _ (.tmp 48) (.tmp 50) 39 3 1 iS _ rfl Tryz.underlying39 i1 i2 i3 rfl v4 k _ rfl HK4.out wa.heap.size [.int .i64 x] rfl (HGs).out rfl (fun u hu => by rw [List.mem_singleton.1 hu]; rfl) (by rw [i4]; have := HSZ.out; omega) (by have := HSZ.out; omega) ?_
        intro v7 w7 ap
        have HX7 : Hid (Below wb.heap.size wb w7) := Lib.hid (low_kp (HXwd).out ap.kp (fun i hi e => by have := HK5.out i e; omega))
        have HO7 : Hid (OL rInt 1 3 wb w7 v7 (out.take k ++ [x])) := Lib.hid (OL.push HK1.out HK2.out HK3.out HK5.out HTL.out rfl HRb.out (HXwd).out.size ap)
        refine hK _ _ HX7.out ?_
        clear hK K ap i1 i2 i3 i4
        refine Text.beff rfl rfl (fun K hK => ?_)
        obtain ⟨iS, i1, i2, i3, i4⟩ := info_some infoI
        refine wp_appOL2 _ (.tmp 51) (.tmp 54) iS _ rfl Tryz.underlying39 i1 i2 i3 rfl _ rfl HO7.out HX7.out rfl HC.out (fun _ _ h => len_int _ _ h) (fun _ _ h => ones_int _ _ h) (by rw [i4, List.length_append, HTL.out, List.length_singleton]; have := HSZ.out; omega) (by rw [List.length_append, HTL.out, List.length_singleton]; have := HSZ.out; omega) (fun v9 w9 q1 q2 _ => ?_)
        have HX9 := Lib.hid q2
        have HO9 := Lib.hid q1
        refine hK _ _ HX9.out ?_
        clear hK K q1 q2 i1 i2 i3 i4
        (refine Text.bpurek rfl rfl (fun K hK => ⟨_, fun w' => by go_simp <;> rfl, ?_⟩); go_simp; refine hK _ ?_; clear hK K)
        refine Text.bdone ?_
        have HW9 : Hid (∃ A9 c9, v9 = .slice A9 (j + 1) c9 ∧ LS rInt 1 8 w9 A9 (j + 1) c9 (out.take k ++ x :: out.drop k)) := Lib.hid (by
         have e : out.take k ++ [x] ++ out.drop k = out.take k ++ x :: out.drop k := by rw [List.append_assoc]; rfl
         have hl : (out.take k ++ x :: out.drop k).length = j + 1 := by have h8 := HOL.out; have h9 := HTL.out; rw [List.length_append, List.length_cons, List.length_drop]; omega
         have ho := HO9.out
         rw [e] at ho
         have h7 := ho.ls (b := 8) stay_int HX9.out (by rw [hl]; have := HSZ.out; unfold lim; omega)
         rw [hl] at h7
         exact h7)
        go_wp2_with fail
        go_roundw
        case rel => exact ⟨j + 1, v9, by omega, by go_num, rfl, Lib.hid (by rw [HNX.out, HINS.out]; exact HW9.out), Lib.hid (below_thenB HBb.out HBb.out.size HX9.out)⟩
        case measure => simp [intOf]; omega
      ·
       refine Text.beff rfl rfl (fun K hK => ?_)
       refine wp_bslice 39 3 1 _ rfl #[(0, .int .i64 x)] (by rw [List.map_toArray]; rfl) [.int .i64 x] (bslI _ _) ?_
       intro wa a1 a2 a3
       have HKwa := Lib.hid a2
       have HXwa : Hid (Below wb.heap.size wb wa) := Lib.hid (below_thenB (HX0).out (by have := (HX0).out.size; exact this) a2)
       have HGwa := Lib.hid a1
       refine hK _ _ HXwa.out ?_
       clear hK K a1 a2 a3
       refine Text.beff rfl rfl (fun K hK => ?_)
       refine wp_bslice 39 3 0 _ rfl #[] (by rw [List.map_toArray]; rfl) [] (bslI0 _) ?_
       intro wc a1 a2 a3
       have HKwc := Lib.hid a2
       have HGwc := Lib.hid a1
       have HXwc : Hid (Below wb.heap.size wb wc) := Lib.hid (below_thenB (HXwa).out (by have := (HXwa).out.size; exact this) a2)
       have HOwc : Hid (OL rInt 1 3 wb wc (.slice (some ⟨wa.heap.size, 0, none⟩) 0 0) []) := Lib.hid (OL.nil' _ _ a1 (by have := (HXwa).out.size; exact this))
       refine hK _ _ HXwc.out ?_
       clear hK K a1 a2 a3
       have HGa := Lib.hid (HGwa.out.kept HKwc.out)
       refine Text.beff rfl rfl (fun K hK => ?_)
       obtain ⟨iS, i1, i2, i3, i4⟩ := info_some infoI
       refine wp_appOL2 _ (.tmp 44) (.tmp 47) iS _ rfl Tryz.underlying39 i1 i2 i3 rfl _ rfl (HOwc).out (HXwc).out rfl HP.out (fun _ _ h => len_int _ _ h) (fun _ _ h => ones_int _ _ h) (by rw [i4]; have := HSZ.out; simp; omega) (by have := HSZ.out; simp; omega) (fun v4 wd q1 q2 q3 => ?_)
       have HXwd := Lib.hid q2
       have HKP4 := Lib.hid q3
       have HO4 : Hid (OL rInt 1 3 wb wd v4 (out.take k)) := Lib.hid q1
       refine hK _ _ HXwd.out ?_
       clear hK K q1 q2 q3 i1 i2 i3 i4
       have HGs := Lib.hid (HGa.out.kp HKP4.out (fun e => by have e' : wa.heap.size = wb.heap.size := Option.some.inj e; have h7 : wb.heap.size < wa.heap.size := HGwa.out.lt; omega))
       obtain ⟨cs4, g1, g2, g3, g4, g5⟩ := (HO4).out
       have HK1 := Lib.hid g1
       have HK2 := Lib.hid g2
       have HK3 := Lib.hid g3
       rw [HTL.out] at g4
       have HK4 := Lib.hid g4
       have HK5 := Lib.hid g5
       clear g1 g2 g3 g4 g5
       refine Text.beff rfl rfl (fun K hK => ?_)
       obtain ⟨iS, i1, i2, i3, i4⟩ := info_some infoI
       refine wp_appRW _ (.tmp 48) (.tmp 50) 39 3 1 iS _ rfl Tryz.underlying39 i1 i2 i3 rfl v4 k _ rfl HK4.out wb.drew.heap.size [.int .i64 x] rfl (HGs).out rfl (fun u hu => by rw [List.mem_singleton.1 hu]; rfl) (by rw [i4]; have := HSZ.out; omega) (by have := HSZ.out; omega) ?_
       intro v7 w7 ap
       have HX7 : Hid (Below wb.heap.size wb w7) := Lib.hid (low_kp (HXwd).out ap.kp (fun i hi e => by have := HK5.out i e; omega))
       have HO7 : Hid (OL rInt 1 3 wb w7 v7 (out.take k ++ [x])) := Lib.hid (OL.push HK1.out HK2.out HK3.out HK5.out HTL.out rfl HRb.out (HXwd).out.size ap)
       refine hK _ _ HX7.out ?_
       clear hK K ap i1 i2 i3 i4
       refine Text.beff rfl rfl (fun K hK => ?_)
       obtain ⟨iS, i1, i2, i3, i4⟩ := info_some infoI
       refine wp_appOL2 _ (.tmp 51) (.tmp 54) iS _ rfl Tryz.underlying39 i1 i2 i3 rfl _ rfl HO7.out HX7.out rfl HC.out (fun _ _ h => len_int _ _ h) (fun _ _ h => ones_int _ _ h) (by rw [i4, List.length_append, HTL.out, List.length_singleton]; have := HSZ.out; omega) (by rw [List.length_append, HTL.out, List.length_singleton]; have := HSZ.out; omega) (fun v9 w9 q1 q2 _ => ?_)
       have HX9 := Lib.hid q2
       have HO9 := Lib.hid q1
       refine hK _ _ HX9.out ?_
       clear hK K q1 q2 i1 i2 i3 i4
       (refine Text.bpurek rfl rfl (fun K hK => ⟨_, fun w' => by go_simp <;> rfl, ?_⟩); go_simp; refine hK _ ?_; clear hK K)
       refine Text.bdone ?_
       have HW9 : Hid (∃ A9 c9, v9 = .slice A9 (j + 1) c9 ∧ LS rInt 1 8 w9 A9 (j + 1) c9 (out.take k ++ x :: out.drop k)) := Lib.hid (by
        have e : out.take k ++ [x] ++ out.drop k = out.take k ++ x :: out.drop k := by rw [List.append_assoc]; rfl
        have hl : (out.take k ++ x :: out.drop k).length = j + 1 := by have h8 := HOL.out; have h9 := HTL.out; rw [List.length_append, List.length_cons, List.length_drop]; omega
        have ho := HO9.out
        rw [e] at ho
        have h7 := ho.ls (b := 8) stay_int HX9.out (by rw [hl]; have := HSZ.out; unfold lim; omega)
        rw [hl] at h7
        exact h7)
       go_wp2_with fail
       go_roundw
       case rel => exact ⟨j + 1, v9, by omega, by go_num, rfl, Lib.hid (by rw [HNX.out, HINS.out]; exact HW9.out), Lib.hid (below_thenB HBb.out HBb.out.size HX9.out)⟩
       case measure => simp [intOf]; omega
  ·
   obtain rfl : j = n := by omega
   have HE : Hid (out = surplL ws ps) := Lib.hid (by rw [HOD.out, take_end HL.out])
   go_wp2_with fail
   go_ret
   exact ⟨A1, c1, rfl, by rw [← HE.out]; exact HOUT.out, hb.out⟩
end Go.Proofs.YtklfficlegfhjaaGreat
