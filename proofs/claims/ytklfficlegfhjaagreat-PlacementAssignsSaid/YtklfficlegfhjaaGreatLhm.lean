/- The reference's Preferred. -/
import Derived.Test.YtklfficlegfhjaaGreatLpm
import Derived.Test.YtklfficlegfhjaaGreatText2m
namespace Go.Proofs.YtklfficlegfhjaaGreat
open Go Go.RowKit Gf Sha

theorem pref_next {hs : List Hd} {k : Nat} {x : Hd} (h : hs[k]? = some x) : prefL (hs.take (k + 1)) = insH x (prefL (hs.take k)) := by
 rw [take_next h, prefL_snoc]
theorem prefL_len (hs : List Hd) : (prefL hs).length = hs.length := (prefL_perm hs).length_eq
theorem pref_take {out : List Hd} (hs : SortH out) {x y : Hd} {i : Nat} (hy : out[i]? = some y) (h : pref x y = false) : ∀ v ∈ out.take (i + 1), pref x v = false := by
 intro v hv
 obtain ⟨hl, rfl⟩ := List.getElem?_eq_some_iff.1 hy
 obtain ⟨t, ht, rfl⟩ := List.mem_iff_getElem.1 hv
 rw [List.length_take] at ht
 rw [List.getElem_take]
 rcases Nat.lt_or_ge t i with h1 | h1
 ·
  have h2 := List.pairwise_iff_getElem.1 hs t i (by omega) hl h1
  rw [pref_ff] at h h2 ⊢
  omega
 ·
  have e : t = i := by omega
  subst e
  exact h
set_option maxRecDepth 100000 in
set_option maxHeartbeats 8000000 in
theorem rpref_any (A : Option Addr) (n c : Nat) (hs : List Hd) (w : World) (h : LS rHd 3 24 w A n c hs) (hn9 : n ≤ 1000) :
  Calls Tryz.prog 49 #[.slice A n c] w fun e w' => ∃ A' c', e = .returned (.slice A' n c') ∧ LS rHd 3 24 w' A' n c' (prefL hs) ∧ Below w.heap.size w w' := by
 have hn := h.len_le
 have H := Lib.hid h
 have HL := Lib.hid h.1
 have HN9 := Lib.hid hn9
 clear h hn9
 go_enter Tryz.func49, Tryz.ntmps49
 go_wp2_with (first
  | ((with_reducible show OpW 6); refine wpList_bslice _ rfl 32 93 0 _ rfl #[] (by rw [List.map_toArray]; rfl) [] (bslH0 _) ?_; intro w1 a1 a2 a3; have HB1 := Lib.hid a2; clear a1 a2 a3))
 go_loopw [3, 4] (fun ov iv wr => ∃ (j : Nat) (v : Value), j ≤ n ∧ iv = .int .i64 (j : Int) ∧ v = ov ∧ Hid (∃ A1 c1, v = .slice A1 j c1 ∧ LS rHd 3 24 wr A1 j c1 (prefL (hs.take j))) ∧ Hid (Below w.heap.size w wr)) (fun _ iv _ => n - (intOf iv).toNat)
 case atStart => exact ⟨0, _, by omega, rfl, rfl, Lib.hid ⟨_, 0, rfl, rfl, Nat.le_refl _, by unfold lim; omega, fun k hk => by cases hk⟩, HB1⟩
 case round =>
  obtain ⟨j, v, hj, rfl, rfl, hv, hb⟩ := hrel
  obtain ⟨wx, hwx⟩ : ∃ x, x = wr := ⟨_, rfl⟩
  rw [← hwx] at hv hb ⊢
  clear hwx
  obtain ⟨out, hout⟩ : ∃ x, x = prefL (hs.take j) := ⟨_, rfl⟩
  have HOD := Lib.hid hout
  obtain ⟨A1, c1, rfl, hls⟩ := hv.out
  rw [← hout] at hls
  have HSRT : Hid (SortH out) := Lib.hid (by rw [hout]; exact prefL_sort _)
  have HOUT := Lib.hid hls
  have HOL : Hid (out.length = j) := Lib.hid hls.1
  have HSZ : Hid (j ≤ 1000) := Lib.hid (by have := HN9.out; omega)
  clear hv hout hls
  by_cases hlt : j < n
  ·
   obtain ⟨x, g, o, cs, hs', ea, hat, hr⟩ := H.out.at_ stay_hd hb.out hlt
   obtain ⟨rfl, hok⟩ := hr
   have HOKX := Lib.hid hok
   have HNX : Hid (prefL (hs.take (j + 1)) = insH x out) := Lib.hid (by rw [pref_next hs', ← HOD.out])
   have HA := Lib.hid hat
   subst ea
   clear hs' hat hok
   go_wp2_with fail
   go_loopw [5] (fun kv wr => ∃ k : Nat, k ≤ j ∧ kv = .int .i64 (k : Int) ∧ Hid (∀ y, out[k]? = some y → pref x y = true) ∧ Hid (Below wx.heap.size wx wr)) (fun kv _ => (intOf kv).toNat)
   case atStart => exact ⟨j, by omega, rfl, Lib.hid (fun y hy => by rw [List.getElem?_eq_none (by rw [HOL.out]; exact Nat.le_refl _)] at hy; cases hy), Lib.hid (Below.refl _ _)⟩
   case round =>
    obtain ⟨k, hk, rfl, hall, hb4⟩ := hrel
    obtain ⟨wy, hwy⟩ : ∃ x, x = wr := ⟨_, rfl⟩
    rw [← hwy] at hb4 ⊢
    clear hwy
    have HXy := hb4
    have p0 : wy.cell? ⟨g, o + j * 3 + 2, none⟩ = some (.int .i64 x.wt) := (At.kept HA.out hb4.out) 2 _ rfl
    have p1 : wy.cell? ⟨g, o + j * 3, none⟩ = some (.int .i64 x.dv) := (At.kept HA.out hb4.out) 0 _ rfl
    by_cases hp : 0 < k
    rotate_left
    ·
     have HINS : Hid (insH x out = out.take k ++ x :: out.drop k) := Lib.hid (insH_at (by rw [HOL.out]; exact hk) (fun y hy => by rw [show k = 0 by omega] at hy; simp at hy) hall.out)
     have f0 : decide (k > 0) = false := decide_eq_false hp
     have f0' : decide ((k : Int) > 0) = false := decide_eq_false (by omega)
     have f1 : decide (0 < k) = false := f0
     have f1' : decide (0 < (k : Int)) = false := f0'
     clear hp
     go_wp2_with fail
     refine Text.wp_region_text (fun _ => True) [(0, 4), (1, 4), (2, 4), (3, 4), (4, 4), (5, 4), (6, 4), (7, 4), (8, 4), (9, 4), (10, 4), (11, 4), (12, 4), (13, 4), (14, 4), (15, 4), (16, 4), (17, 4), (18, 4), (19, 4), (20, 4), (21, 4), (22, 4), (23, 4), (24, 4), (25, 4), (26, 4), (27, 4), (28, 4), (29, 4), (30, 4), (31, 4), (32, 4), (33, 4), (34, 4), (35, 4), (36, 4), (37, 4), (38, 4), (39, 4), (40, 4), (41, 4), (42, 4), (43, 4)] (by kernel_rfl) (by kernel_rfl) (fun _ _ _ _ _ h => h) (trivial) ?_
     iterate 3 (refine Text.purek rfl rfl (fun K hK => ⟨_, fun w' => by go_simp <;> rfl, ?_⟩); go_simp; refine hK _ ?_; clear hK K)
     iterate 40 (refine Text.skipk (.inr (.inr rfl)) rfl rfl (fun K hK => ?_); go_simp; refine hK _ ?_; clear hK K)
     (refine Text.purek rfl rfl (fun K hK => ⟨_, fun w' => by go_simp <;> rfl, ?_⟩); go_simp; refine hK _ ?_; clear hK K)
     refine Text.done ?_
     go_wp2_with fail
     have HOb : Hid (LS rHd 3 24 wy.drew A1 j c1 out) := Lib.hid (HOUT.out.kept stay_hd HXy.out.drew)
     have HAb : Hid (At wy.drew g (o + j * 3) (hdL x)) := Lib.hid (At.kept HA.out HXy.out.drew)
     have HRb : Hid (rHd wy.drew (hdL x) x) := Lib.hid ⟨rfl, HOKX.out⟩
     have HBb : Hid (Below w.heap.size w wy.drew) := Lib.hid (below_thenB hb.out hb.out.size HXy.out.drew)
     obtain ⟨wb, hwb⟩ : ∃ z, z = wy.drew := ⟨_, rfl⟩
     rw [← hwb] at HOb HAb HRb HBb ⊢
     clear hwb
     have HP := Lib.hid (HOb.out.pre hk)
     have HC := Lib.hid (HOb.out.cutM hk)
     have HTL : Hid ((out.take k).length = k) := Lib.hid HP.out.1
     have HNC : Hid (j ≤ c1) := Lib.hid HOb.out.2.1
     refine Text.wp_region_bt (fun w' => Below wb.heap.size wb w') (.still 1 4 (.still 2 4 (.still 3 4 (.still 5 4 (.still 6 4 (.still 7 4 (.still 8 0 (.still 11 4 (.still 12 4 (.still 13 4 (.br 0 (.br 4 (.eff 9 (.eff 10 (.eff 14 (.still 15 4 .leaf)))) 9 (.eff 4 (.eff 10 (.eff 14 (.still 15 4 .leaf))))) 9 (.eff 0 (.eff 4 (.eff 10 (.eff 14 (.still 15 4 .leaf)))))))))))))))) (by kernel_rfl) (by kernel_rfl) (fun _ _ _ _ _ h => h) ((Below.refl _ _).drew) ?_
     iterate 2 (refine Text.bpurek rfl rfl (fun K hK => ⟨_, fun w' => by go_simp <;> rfl, ?_⟩); go_simp; refine hK _ ?_; clear hK K)
     refine Text.bpurek rfl rfl (fun K hK => ⟨_, fun w' => exec_preM (.tmp 62) (.tmp 63) 32 93 3 rfl Tryz.underlying32 (szRh _) _ j c1 k rfl (by go_simp) hk HNC.out, ?_⟩)
     go_simp
     refine hK _ ?_
     clear hK K
     iterate 3 (refine Text.bpurek rfl rfl (fun K hK => ⟨_, fun w' => by go_simp <;> rfl, ?_⟩); go_simp; refine hK _ ?_; clear hK K)
     refine Text.bheldk rfl rfl (fun K hK => ⟨_, fun w' hw' => exec_loadv 93 (.tmp 68) rfl 3 (by kernel_rfl) g (o + j * 3) (hdL x) (by go_simp) (At.kept HAb.out hw') rfl, ?_⟩)
     go_simp
     refine hK _ ?_
     clear hK K
     iterate 2 (refine Text.bpurek rfl rfl (fun K hK => ⟨_, fun w' => by go_simp <;> rfl, ?_⟩); go_simp; refine hK _ ?_; clear hK K)
     refine Text.bpurek rfl rfl (fun K hK => ⟨_, fun w' => exec_cutM (.tmp 72) (.tmp 73) 32 93 3 rfl Tryz.underlying32 (szRh _) _ j c1 k rfl (by go_simp) hk, ?_⟩)
     go_simp
     refine hK _ ?_
     clear hK K
     have HX0 : Hid (Below wb.heap.size wb wb.drew) := Lib.hid (Below.refl _ _).drew
     refine Text.bfork ?_ ?_
     ·
      refine Text.beff rfl rfl (fun K hK => ?_)
      refine wp_bslice 32 93 0 _ rfl #[] (by rw [List.map_toArray]; rfl) [] (bslH0 _) ?_
      intro wa a1 a2 a3
      have HKwa := Lib.hid a2
      have HGwa := Lib.hid a1
      have HXwa : Hid (Below wb.heap.size wb wa) := Lib.hid (below_thenB (HX0).out (by have := (HX0).out.size; exact this) a2)
      have HOwa : Hid (OL rHd 3 93 wb wa (.slice (some ⟨wb.heap.size, 0, none⟩) 0 0) []) := Lib.hid (OL.nil' _ _ a1 (by have := (HX0).out.size; exact this))
      refine hK _ _ HXwa.out ?_
      clear hK K a1 a2 a3
      refine Text.bfork ?_ ?_
      ·
       refine Text.beff rfl rfl (fun K hK => ?_)
       obtain ⟨iS, i1, i2, i3, i4⟩ := info_some infoRh
       refine wp_appOL2 _ (.tmp 61) (.tmp 64) iS _ rfl Tryz.underlying32 i1 i2 i3 rfl _ rfl (HOwa).out (HXwa).out rfl HP.out (fun _ _ h => len_hd _ _ h) (fun _ _ h => ones_hd _ _ h) (by rw [i4]; have := HSZ.out; simp; omega) (by have := HSZ.out; simp; omega) (fun v4 wc q1 q2 q3 => ?_)
       have HXwc := Lib.hid q2
       have HKP4 := Lib.hid q3
       have HO4 : Hid (OL rHd 3 93 wb wc v4 (out.take k)) := Lib.hid q1
       refine hK _ _ HXwc.out ?_
       clear hK K q1 q2 q3 i1 i2 i3 i4
       refine Text.beff rfl rfl (fun K hK => ?_)
       refine wp_bslice 32 93 1 _ rfl #[(0, .agg (hdL x).toArray)] (by rw [List.map_toArray]; rfl) (hdL x) (bslH1 _ _) ?_
       intro wd a1 a2 a3
       have HKwd := Lib.hid a2
       have HXwd : Hid (Below wb.heap.size wb wd) := Lib.hid (below_thenB (HXwc).out (by have := (HXwc).out.size; exact this) a2)
       have HGwd := Lib.hid a1
       refine hK _ _ HXwd.out ?_
       clear hK K a1 a2 a3
       have HO5 := Lib.hid (HO4.out.kept HKwd.out)
       obtain ⟨cs4, g1, g2, g3, g4, g5⟩ := (HO5).out
       have HK1 := Lib.hid g1
       have HK2 := Lib.hid g2
       have HK3 := Lib.hid g3
       rw [HTL.out] at g4
       have HK4 := Lib.hid g4
       have HK5 := Lib.hid g5
       clear g1 g2 g3 g4 g5
       refine Text.beff rfl rfl (fun K hK => ?_)
       obtain ⟨iS, i1, i2, i3, i4⟩ := info_some infoRh
       refine wp_appRW _ (.tmp 65) (.tmp 70) 32 93 3 iS _ rfl Tryz.underlying32 i1 i2 i3 rfl v4 k _ rfl HK4.out wc.heap.size (hdL x) rfl (HGwd).out rfl (one_hd x) (by rw [i4]; have := HSZ.out; omega) (by have := HSZ.out; omega) ?_
       intro v7 w7 ap
       have HX7 : Hid (Below wb.heap.size wb w7) := Lib.hid (low_kp (HXwd).out ap.kp (fun i hi e => by have := HK5.out i e; omega))
       have HO7 : Hid (OL rHd 3 93 wb w7 v7 (out.take k ++ [x])) := Lib.hid (OL.push HK1.out HK2.out HK3.out HK5.out HTL.out rfl HRb.out (HXwd).out.size ap)
       refine hK _ _ HX7.out ?_
       clear hK K ap i1 i2 i3 i4
       refine Text.beff rfl rfl (fun K hK => ?_)
       obtain ⟨iS, i1, i2, i3, i4⟩ := info_some infoRh
       refine wp_appOL2 _ (.tmp 71) (.tmp 74) iS _ rfl Tryz.underlying32 i1 i2 i3 rfl _ rfl HO7.out HX7.out rfl HC.out (fun _ _ h => len_hd _ _ h) (fun _ _ h => ones_hd _ _ h) (by rw [i4, List.length_append, HTL.out, List.length_singleton]; have := HSZ.out; omega) (by rw [List.length_append, HTL.out, List.length_singleton]; have := HSZ.out; omega) (fun v9 w9 q1 q2 _ => ?_)
       have HX9 := Lib.hid q2
       have HO9 := Lib.hid q1
       refine hK _ _ HX9.out ?_
       clear hK K q1 q2 i1 i2 i3 i4
       (refine Text.bpurek rfl rfl (fun K hK => ⟨_, fun w' => by go_simp <;> rfl, ?_⟩); go_simp; refine hK _ ?_; clear hK K)
       refine Text.bdone ?_
       have HW9 : Hid (∃ A9 c9, v9 = .slice A9 (j + 1) c9 ∧ LS rHd 3 24 w9 A9 (j + 1) c9 (out.take k ++ x :: out.drop k)) := Lib.hid (by
        have e : out.take k ++ [x] ++ out.drop k = out.take k ++ x :: out.drop k := by rw [List.append_assoc]; rfl
        have hl : (out.take k ++ x :: out.drop k).length = j + 1 := by have h8 := HOL.out; have h9 := HTL.out; rw [List.length_append, List.length_cons, List.length_drop]; omega
        have ho := HO9.out
        rw [e] at ho
        have h7 := ho.ls (b := 24) stay_hd HX9.out (by rw [hl]; have := HSZ.out; unfold lim; omega)
        rw [hl] at h7
        exact h7)
       go_wp2_with fail
       go_roundw
       case rel => exact ⟨j + 1, v9, by omega, by go_num, rfl, Lib.hid (by rw [HNX.out, HINS.out]; exact HW9.out), Lib.hid (below_thenB HBb.out HBb.out.size HX9.out)⟩
       case measure => simp [intOf]; omega
      ·
       refine Text.beff rfl rfl (fun K hK => ?_)
       refine wp_bslice 32 93 1 _ rfl #[(0, .agg (hdL x).toArray)] (by rw [List.map_toArray]; rfl) (hdL x) (bslH1 _ _) ?_
       intro wc a1 a2 a3
       have HKwc := Lib.hid a2
       have HXwc : Hid (Below wb.heap.size wb wc) := Lib.hid (below_thenB (HXwa).out (by have := (HXwa).out.size; exact this) a2)
       have HGwc := Lib.hid a1
       refine hK _ _ HXwc.out ?_
       clear hK K a1 a2 a3
       have HOc := Lib.hid (HOwa.out.kept HKwc.out)
       refine Text.beff rfl rfl (fun K hK => ?_)
       obtain ⟨iS, i1, i2, i3, i4⟩ := info_some infoRh
       refine wp_appOL2 _ (.tmp 61) (.tmp 64) iS _ rfl Tryz.underlying32 i1 i2 i3 rfl _ rfl (HOc).out (HXwc).out rfl HP.out (fun _ _ h => len_hd _ _ h) (fun _ _ h => ones_hd _ _ h) (by rw [i4]; have := HSZ.out; simp; omega) (by have := HSZ.out; simp; omega) (fun v4 wd q1 q2 q3 => ?_)
       have HXwd := Lib.hid q2
       have HKP4 := Lib.hid q3
       have HO4 : Hid (OL rHd 3 93 wb wd v4 (out.take k)) := Lib.hid q1
       refine hK _ _ HXwd.out ?_
       clear hK K q1 q2 q3 i1 i2 i3 i4
       have HGs := Lib.hid (HGwc.out.kp HKP4.out (fun e => by have e' : wb.heap.size = wa.heap.size := Option.some.inj e; have h7 : wb.heap.size < wa.heap.size := HGwa.out.lt; omega))
       obtain ⟨cs4, g1, g2, g3, g4, g5⟩ := (HO4).out
       have HK1 := Lib.hid g1
       have HK2 := Lib.hid g2
       have HK3 := Lib.hid g3
       rw [HTL.out] at g4
       have HK4 := Lib.hid g4
       have HK5 := Lib.hid g5
       clear g1 g2 g3 g4 g5
       refine Text.beff rfl rfl (fun K hK => ?_)
       obtain ⟨iS, i1, i2, i3, i4⟩ := info_some infoRh
       refine wp_appRW _ (.tmp 65) (.tmp 70) 32 93 3 iS _ rfl Tryz.underlying32 i1 i2 i3 rfl v4 k _ rfl HK4.out wa.heap.size (hdL x) rfl (HGs).out rfl (one_hd x) (by rw [i4]; have := HSZ.out; omega) (by have := HSZ.out; omega) ?_
       intro v7 w7 ap
       have HX7 : Hid (Below wb.heap.size wb w7) := Lib.hid (low_kp (HXwd).out ap.kp (fun i hi e => by have := HK5.out i e; omega))
       have HO7 : Hid (OL rHd 3 93 wb w7 v7 (out.take k ++ [x])) := Lib.hid (OL.push HK1.out HK2.out HK3.out HK5.out HTL.out rfl HRb.out (HXwd).out.size ap)
       refine hK _ _ HX7.out ?_
       clear hK K ap i1 i2 i3 i4
       refine Text.beff rfl rfl (fun K hK => ?_)
       obtain ⟨iS, i1, i2, i3, i4⟩ := info_some infoRh
       refine wp_appOL2 _ (.tmp 71) (.tmp 74) iS _ rfl Tryz.underlying32 i1 i2 i3 rfl _ rfl HO7.out HX7.out rfl HC.out (fun _ _ h => len_hd _ _ h) (fun _ _ h => ones_hd _ _ h) (by rw [i4, List.length_append, HTL.out, List.length_singleton]; have := HSZ.out; omega) (by rw [List.length_append, HTL.out, List.length_singleton]; have := HSZ.out; omega) (fun v9 w9 q1 q2 _ => ?_)
       have HX9 := Lib.hid q2
       have HO9 := Lib.hid q1
       refine hK _ _ HX9.out ?_
       clear hK K q1 q2 i1 i2 i3 i4
       (refine Text.bpurek rfl rfl (fun K hK => ⟨_, fun w' => by go_simp <;> rfl, ?_⟩); go_simp; refine hK _ ?_; clear hK K)
       refine Text.bdone ?_
       have HW9 : Hid (∃ A9 c9, v9 = .slice A9 (j + 1) c9 ∧ LS rHd 3 24 w9 A9 (j + 1) c9 (out.take k ++ x :: out.drop k)) := Lib.hid (by
        have e : out.take k ++ [x] ++ out.drop k = out.take k ++ x :: out.drop k := by rw [List.append_assoc]; rfl
        have hl : (out.take k ++ x :: out.drop k).length = j + 1 := by have h8 := HOL.out; have h9 := HTL.out; rw [List.length_append, List.length_cons, List.length_drop]; omega
        have ho := HO9.out
        rw [e] at ho
        have h7 := ho.ls (b := 24) stay_hd HX9.out (by rw [hl]; have := HSZ.out; unfold lim; omega)
        rw [hl] at h7
        exact h7)
       go_wp2_with fail
       go_roundw
       case rel => exact ⟨j + 1, v9, by omega, by go_num, rfl, Lib.hid (by rw [HNX.out, HINS.out]; exact HW9.out), Lib.hid (below_thenB HBb.out HBb.out.size HX9.out)⟩
       case measure => simp [intOf]; omega
     ·
      refine Text.beff rfl rfl (fun K hK => ?_)
      refine wp_bslice 32 93 1 _ rfl #[(0, .agg (hdL x).toArray)] (by rw [List.map_toArray]; rfl) (hdL x) (bslH1 _ _) ?_
      intro wa a1 a2 a3
      have HKwa := Lib.hid a2
      have HXwa : Hid (Below wb.heap.size wb wa) := Lib.hid (below_thenB (HX0).out (by have := (HX0).out.size; exact this) a2)
      have HGwa := Lib.hid a1
      refine hK _ _ HXwa.out ?_
      clear hK K a1 a2 a3
      refine Text.beff rfl rfl (fun K hK => ?_)
      refine wp_bslice 32 93 0 _ rfl #[] (by rw [List.map_toArray]; rfl) [] (bslH0 _) ?_
      intro wc a1 a2 a3
      have HKwc := Lib.hid a2
      have HGwc := Lib.hid a1
      have HXwc : Hid (Below wb.heap.size wb wc) := Lib.hid (below_thenB (HXwa).out (by have := (HXwa).out.size; exact this) a2)
      have HOwc : Hid (OL rHd 3 93 wb wc (.slice (some ⟨wa.heap.size, 0, none⟩) 0 0) []) := Lib.hid (OL.nil' _ _ a1 (by have := (HXwa).out.size; exact this))
      refine hK _ _ HXwc.out ?_
      clear hK K a1 a2 a3
      have HGa := Lib.hid (HGwa.out.kept HKwc.out)
      refine Text.beff rfl rfl (fun K hK => ?_)
      obtain ⟨iS, i1, i2, i3, i4⟩ := info_some infoRh
      refine wp_appOL2 _ (.tmp 61) (.tmp 64) iS _ rfl Tryz.underlying32 i1 i2 i3 rfl _ rfl (HOwc).out (HXwc).out rfl HP.out (fun _ _ h => len_hd _ _ h) (fun _ _ h => ones_hd _ _ h) (by rw [i4]; have := HSZ.out; simp; omega) (by have := HSZ.out; simp; omega) (fun v4 wd q1 q2 q3 => ?_)
      have HXwd := Lib.hid q2
      have HKP4 := Lib.hid q3
      have HO4 : Hid (OL rHd 3 93 wb wd v4 (out.take k)) := Lib.hid q1
      refine hK _ _ HXwd.out ?_
      clear hK K q1 q2 q3 i1 i2 i3 i4
      have HGs := Lib.hid (HGa.out.kp HKP4.out (fun e => by have e' : wa.heap.size = wb.heap.size := Option.some.inj e; have h7 : wb.heap.size < wa.heap.size := HGwa.out.lt; omega))
      obtain ⟨cs4, g1, g2, g3, g4, g5⟩ := (HO4).out
      have HK1 := Lib.hid g1
      have HK2 := Lib.hid g2
      have HK3 := Lib.hid g3
      rw [HTL.out] at g4
      have HK4 := Lib.hid g4
      have HK5 := Lib.hid g5
      clear g1 g2 g3 g4 g5
      refine Text.beff rfl rfl (fun K hK => ?_)
      obtain ⟨iS, i1, i2, i3, i4⟩ := info_some infoRh
      refine wp_appRW _ (.tmp 65) (.tmp 70) 32 93 3 iS _ rfl Tryz.underlying32 i1 i2 i3 rfl v4 k _ rfl HK4.out wb.drew.heap.size (hdL x) rfl (HGs).out rfl (one_hd x) (by rw [i4]; have := HSZ.out; omega) (by have := HSZ.out; omega) ?_
      intro v7 w7 ap
      have HX7 : Hid (Below wb.heap.size wb w7) := Lib.hid (low_kp (HXwd).out ap.kp (fun i hi e => by have := HK5.out i e; omega))
      have HO7 : Hid (OL rHd 3 93 wb w7 v7 (out.take k ++ [x])) := Lib.hid (OL.push HK1.out HK2.out HK3.out HK5.out HTL.out rfl HRb.out (HXwd).out.size ap)
      refine hK _ _ HX7.out ?_
      clear hK K ap i1 i2 i3 i4
      refine Text.beff rfl rfl (fun K hK => ?_)
      obtain ⟨iS, i1, i2, i3, i4⟩ := info_some infoRh
      refine wp_appOL2 _ (.tmp 71) (.tmp 74) iS _ rfl Tryz.underlying32 i1 i2 i3 rfl _ rfl HO7.out HX7.out rfl HC.out (fun _ _ h => len_hd _ _ h) (fun _ _ h => ones_hd _ _ h) (by rw [i4, List.length_append, HTL.out, List.length_singleton]; have := HSZ.out; omega) (by rw [List.length_append, HTL.out, List.length_singleton]; have := HSZ.out; omega) (fun v9 w9 q1 q2 _ => ?_)
      have HX9 := Lib.hid q2
      have HO9 := Lib.hid q1
      refine hK _ _ HX9.out ?_
      clear hK K q1 q2 i1 i2 i3 i4
      (refine Text.bpurek rfl rfl (fun K hK => ⟨_, fun w' => by go_simp <;> rfl, ?_⟩); go_simp; refine hK _ ?_; clear hK K)
      refine Text.bdone ?_
      have HW9 : Hid (∃ A9 c9, v9 = .slice A9 (j + 1) c9 ∧ LS rHd 3 24 w9 A9 (j + 1) c9 (out.take k ++ x :: out.drop k)) := Lib.hid (by
       have e : out.take k ++ [x] ++ out.drop k = out.take k ++ x :: out.drop k := by rw [List.append_assoc]; rfl
       have hl : (out.take k ++ x :: out.drop k).length = j + 1 := by have h8 := HOL.out; have h9 := HTL.out; rw [List.length_append, List.length_cons, List.length_drop]; omega
       have ho := HO9.out
       rw [e] at ho
       have h7 := ho.ls (b := 24) stay_hd HX9.out (by rw [hl]; have := HSZ.out; unfold lim; omega)
       rw [hl] at h7
       exact h7)
      go_wp2_with fail
      go_roundw
      case rel => exact ⟨j + 1, v9, by omega, by go_num, rfl, Lib.hid (by rw [HNX.out, HINS.out]; exact HW9.out), Lib.hid (below_thenB HBb.out HBb.out.size HX9.out)⟩
      case measure => simp [intOf]; omega
    ·
     obtain ⟨i, hi⟩ : ∃ i, i = k - 1 := ⟨_, rfl⟩
     have hik : i < j := by omega
     have hi1 : (k : Int) - 1 = (i : Int) := by omega
     have hw1 : IntKind.i64.wrap ((k : Int) - 1) = (i : Int) := by rw [IntWalk.i64_in _ (by omega)]; exact hi1
     have hw2 : IntKind.i64.wrap (i : Int) = (i : Int) := IntWalk.i64_in _ (by omega)
     have HIK : Hid (i + 1 = k) := Lib.hid (by omega)
     have f0 : decide (0 < k) = true := decide_eq_true hp
     have f0' : decide ((0 : Int) < (k : Int)) = true := decide_eq_true (by omega)
     obtain ⟨y, g', o', cs', hs', e', hat', hr'⟩ := HOUT.out.at_ stay_hd HXy.out hik
     obtain ⟨rfl, _⟩ := hr'
     have HY := Lib.hid hs'
     have q0 : wy.cell? ⟨g', o' + i * 3 + 2, none⟩ = some (.int .i64 y.wt) := hat' 2 _ rfl
     have q1 : wy.cell? ⟨g', o' + i * 3, none⟩ = some (.int .i64 y.dv) := hat' 0 _ rfl
     subst e'
     clear hs' hat' hi
     by_cases h1 : y.wt < x.wt
     ·
      have f1 : decide (y.wt < x.wt) = true := decide_eq_true h1
      have HALL : Hid (∀ z, out[i]? = some z → pref x z = true) := Lib.hid (fun z hz => by rw [HY.out] at hz; cases hz; rw [pref_tt]; exact .inl h1)
      clear h1
      go_wp2_with fail
      refine Text.wp_region_text (fun _ => True) [(0, 4), (1, 4), (2, 4), (3, 4), (4, 4), (5, 4), (6, 4), (7, 4), (9, 4), (10, 4), (11, 4), (12, 4), (8, 1), (13, 1), (14, 4), (15, 4), (16, 4), (17, 4), (18, 4), (19, 4), (20, 4), (21, 4), (22, 4), (23, 4), (24, 4), (25, 4), (26, 4), (27, 4), (28, 4), (29, 4), (30, 4), (31, 4), (32, 4), (33, 4), (34, 4), (35, 4), (36, 4), (37, 4), (38, 4), (39, 4), (40, 4), (41, 4), (42, 4), (43, 4)] (by kernel_rfl) (by kernel_rfl) (fun _ _ _ _ _ h => h) (trivial) ?_
      iterate 12 (refine Text.purek rfl rfl (fun K hK => ⟨_, fun w' => by go_simp <;> rfl, ?_⟩); go_simp; refine hK _ ?_; clear hK K)
      iterate 2 (refine Text.readk rfl rfl (fun K hK => ⟨_, by go_simp <;> rfl, ?_⟩); go_simp; refine hK _ ?_; clear hK K)
      iterate 2 (refine Text.purek rfl rfl (fun K hK => ⟨_, fun w' => by go_simp <;> rfl, ?_⟩); go_simp; refine hK _ ?_; clear hK K)
      iterate 26 (refine Text.skipk (.inr (.inr rfl)) rfl rfl (fun K hK => ?_); go_simp; refine hK _ ?_; clear hK K)
      iterate 2 (refine Text.purek rfl rfl (fun K hK => ⟨_, fun w' => by go_simp <;> rfl, ?_⟩); go_simp; refine hK _ ?_; clear hK K)
      refine Text.done ?_
      go_wp2_with fail
      go_roundw
      case rel => exact ⟨i, by omega, by go_num, HALL, Lib.hid hb4.out.drew⟩
      case measure => simp [intOf]; omega
     have f1 : decide (y.wt < x.wt) = false := decide_eq_false h1
     by_cases h2 : y.wt = x.wt
     rotate_left
     ·
      have f2 : (y.wt == x.wt) = false := by rw [beq_eq_false_iff_ne]; exact h2
      have HINS : Hid (insH x out = out.take k ++ x :: out.drop k) := Lib.hid (insH_at (by rw [HOL.out]; exact hk) (by rw [← HIK.out]; exact pref_take HSRT.out HY.out (by rw [pref_ff]; omega)) hall.out)
      clear h1 h2
      go_wp2_with fail
      refine Text.wp_region_text (fun _ => True) [(0, 4), (1, 4), (2, 4), (3, 4), (4, 4), (5, 4), (6, 4), (7, 4), (9, 4), (10, 4), (11, 4), (12, 4), (8, 1), (13, 1), (14, 4), (15, 4), (16, 4), (17, 4), (18, 4), (19, 4), (20, 4), (22, 4), (23, 4), (24, 4), (25, 4), (21, 1), (26, 1), (27, 4), (28, 4), (29, 4), (30, 4), (31, 4), (32, 4), (33, 4), (34, 4), (35, 4), (36, 4), (37, 4), (38, 4), (39, 4), (40, 4), (41, 4), (42, 4), (43, 4)] (by kernel_rfl) (by kernel_rfl) (fun _ _ _ _ _ h => h) (trivial) ?_
      iterate 12 (refine Text.purek rfl rfl (fun K hK => ⟨_, fun w' => by go_simp <;> rfl, ?_⟩); go_simp; refine hK _ ?_; clear hK K)
      iterate 2 (refine Text.readk rfl rfl (fun K hK => ⟨_, by go_simp <;> rfl, ?_⟩); go_simp; refine hK _ ?_; clear hK K)
      iterate 11 (refine Text.purek rfl rfl (fun K hK => ⟨_, fun w' => by go_simp <;> rfl, ?_⟩); go_simp; refine hK _ ?_; clear hK K)
      iterate 2 (refine Text.readk rfl rfl (fun K hK => ⟨_, by go_simp <;> rfl, ?_⟩); go_simp; refine hK _ ?_; clear hK K)
      iterate 2 (refine Text.purek rfl rfl (fun K hK => ⟨_, fun w' => by go_simp <;> rfl, ?_⟩); go_simp; refine hK _ ?_; clear hK K)
      iterate 12 (refine Text.skipk (.inr (.inr rfl)) rfl rfl (fun K hK => ?_); go_simp; refine hK _ ?_; clear hK K)
      iterate 3 (refine Text.purek rfl rfl (fun K hK => ⟨_, fun w' => by go_simp <;> rfl, ?_⟩); go_simp; refine hK _ ?_; clear hK K)
      refine Text.done ?_
      go_wp2_with fail
      have HOb : Hid (LS rHd 3 24 wy.drew (some ⟨g', o', none⟩) j c1 out) := Lib.hid (HOUT.out.kept stay_hd HXy.out.drew)
      have HAb : Hid (At wy.drew g (o + j * 3) (hdL x)) := Lib.hid (At.kept HA.out HXy.out.drew)
      have HRb : Hid (rHd wy.drew (hdL x) x) := Lib.hid ⟨rfl, HOKX.out⟩
      have HBb : Hid (Below w.heap.size w wy.drew) := Lib.hid (below_thenB hb.out hb.out.size HXy.out.drew)
      obtain ⟨wb, hwb⟩ : ∃ z, z = wy.drew := ⟨_, rfl⟩
      rw [← hwb] at HOb HAb HRb HBb ⊢
      clear hwb
      have HP := Lib.hid (HOb.out.pre hk)
      have HC := Lib.hid (HOb.out.cutM hk)
      have HTL : Hid ((out.take k).length = k) := Lib.hid HP.out.1
      have HNC : Hid (j ≤ c1) := Lib.hid HOb.out.2.1
      refine Text.wp_region_bt (fun w' => Below wb.heap.size wb w') (.still 1 4 (.still 2 4 (.still 3 4 (.still 5 4 (.still 6 4 (.still 7 4 (.still 8 0 (.still 11 4 (.still 12 4 (.still 13 4 (.br 0 (.br 4 (.eff 9 (.eff 10 (.eff 14 (.still 15 4 .leaf)))) 9 (.eff 4 (.eff 10 (.eff 14 (.still 15 4 .leaf))))) 9 (.eff 0 (.eff 4 (.eff 10 (.eff 14 (.still 15 4 .leaf)))))))))))))))) (by kernel_rfl) (by kernel_rfl) (fun _ _ _ _ _ h => h) ((Below.refl _ _).drew) ?_
      iterate 2 (refine Text.bpurek rfl rfl (fun K hK => ⟨_, fun w' => by go_simp <;> rfl, ?_⟩); go_simp; refine hK _ ?_; clear hK K)
      refine Text.bpurek rfl rfl (fun K hK => ⟨_, fun w' => exec_preM (.tmp 62) (.tmp 63) 32 93 3 rfl Tryz.underlying32 (szRh _) _ j c1 k rfl (by go_simp) hk HNC.out, ?_⟩)
      go_simp
      refine hK _ ?_
      clear hK K
      iterate 3 (refine Text.bpurek rfl rfl (fun K hK => ⟨_, fun w' => by go_simp <;> rfl, ?_⟩); go_simp; refine hK _ ?_; clear hK K)
      refine Text.bheldk rfl rfl (fun K hK => ⟨_, fun w' hw' => exec_loadv 93 (.tmp 68) rfl 3 (by kernel_rfl) g (o + j * 3) (hdL x) (by go_simp) (At.kept HAb.out hw') rfl, ?_⟩)
      go_simp
      refine hK _ ?_
      clear hK K
      iterate 2 (refine Text.bpurek rfl rfl (fun K hK => ⟨_, fun w' => by go_simp <;> rfl, ?_⟩); go_simp; refine hK _ ?_; clear hK K)
      refine Text.bpurek rfl rfl (fun K hK => ⟨_, fun w' => exec_cutM (.tmp 72) (.tmp 73) 32 93 3 rfl Tryz.underlying32 (szRh _) _ j c1 k rfl (by go_simp) hk, ?_⟩)
      go_simp
      refine hK _ ?_
      clear hK K
      have HX0 : Hid (Below wb.heap.size wb wb.drew) := Lib.hid (Below.refl _ _).drew
      refine Text.bfork ?_ ?_
      ·
       refine Text.beff rfl rfl (fun K hK => ?_)
       refine wp_bslice 32 93 0 _ rfl #[] (by rw [List.map_toArray]; rfl) [] (bslH0 _) ?_
       intro wa a1 a2 a3
       have HKwa := Lib.hid a2
       have HGwa := Lib.hid a1
       have HXwa : Hid (Below wb.heap.size wb wa) := Lib.hid (below_thenB (HX0).out (by have := (HX0).out.size; exact this) a2)
       have HOwa : Hid (OL rHd 3 93 wb wa (.slice (some ⟨wb.heap.size, 0, none⟩) 0 0) []) := Lib.hid (OL.nil' _ _ a1 (by have := (HX0).out.size; exact this))
       refine hK _ _ HXwa.out ?_
       clear hK K a1 a2 a3
       refine Text.bfork ?_ ?_
       ·
        refine Text.beff rfl rfl (fun K hK => ?_)
        obtain ⟨iS, i1, i2, i3, i4⟩ := info_some infoRh
        refine wp_appOL2 _ (.tmp 61) (.tmp 64) iS _ rfl Tryz.underlying32 i1 i2 i3 rfl _ rfl (HOwa).out (HXwa).out rfl HP.out (fun _ _ h => len_hd _ _ h) (fun _ _ h => ones_hd _ _ h) (by rw [i4]; have := HSZ.out; simp; omega) (by have := HSZ.out; simp; omega) (fun v4 wc q1 q2 q3 => ?_)
        have HXwc := Lib.hid q2
        have HKP4 := Lib.hid q3
        have HO4 : Hid (OL rHd 3 93 wb wc v4 (out.take k)) := Lib.hid q1
        refine hK _ _ HXwc.out ?_
        clear hK K q1 q2 q3 i1 i2 i3 i4
        refine Text.beff rfl rfl (fun K hK => ?_)
        refine wp_bslice 32 93 1 _ rfl #[(0, .agg (hdL x).toArray)] (by rw [List.map_toArray]; rfl) (hdL x) (bslH1 _ _) ?_
        intro wd a1 a2 a3
        have HKwd := Lib.hid a2
        have HXwd : Hid (Below wb.heap.size wb wd) := Lib.hid (below_thenB (HXwc).out (by have := (HXwc).out.size; exact this) a2)
        have HGwd := Lib.hid a1
        refine hK _ _ HXwd.out ?_
        clear hK K a1 a2 a3
        have HO5 := Lib.hid (HO4.out.kept HKwd.out)
        obtain ⟨cs4, g1, g2, g3, g4, g5⟩ := (HO5).out
        have HK1 := Lib.hid g1
        have HK2 := Lib.hid g2
        have HK3 := Lib.hid g3
        rw [HTL.out] at g4
        have HK4 := Lib.hid g4
        have HK5 := Lib.hid g5
        clear g1 g2 g3 g4 g5
        refine Text.beff rfl rfl (fun K hK => ?_)
        obtain ⟨iS, i1, i2, i3, i4⟩ := info_some infoRh
        refine wp_appRW _ (.tmp 65) (.tmp 70) 32 93 3 iS _ rfl Tryz.underlying32 i1 i2 i3 rfl v4 k _ rfl HK4.out wc.heap.size (hdL x) rfl (HGwd).out rfl (one_hd x) (by rw [i4]; have := HSZ.out; omega) (by have := HSZ.out; omega) ?_
        intro v7 w7 ap
        have HX7 : Hid (Below wb.heap.size wb w7) := Lib.hid (low_kp (HXwd).out ap.kp (fun i hi e => by have := HK5.out i e; omega))
        have HO7 : Hid (OL rHd 3 93 wb w7 v7 (out.take k ++ [x])) := Lib.hid (OL.push HK1.out HK2.out HK3.out HK5.out HTL.out rfl HRb.out (HXwd).out.size ap)
        refine hK _ _ HX7.out ?_
        clear hK K ap i1 i2 i3 i4
        refine Text.beff rfl rfl (fun K hK => ?_)
        obtain ⟨iS, i1, i2, i3, i4⟩ := info_some infoRh
        refine wp_appOL2 _ (.tmp 71) (.tmp 74) iS _ rfl Tryz.underlying32 i1 i2 i3 rfl _ rfl HO7.out HX7.out rfl HC.out (fun _ _ h => len_hd _ _ h) (fun _ _ h => ones_hd _ _ h) (by rw [i4, List.length_append, HTL.out, List.length_singleton]; have := HSZ.out; omega) (by rw [List.length_append, HTL.out, List.length_singleton]; have := HSZ.out; omega) (fun v9 w9 q1 q2 _ => ?_)
        have HX9 := Lib.hid q2
        have HO9 := Lib.hid q1
        refine hK _ _ HX9.out ?_
        clear hK K q1 q2 i1 i2 i3 i4
        (refine Text.bpurek rfl rfl (fun K hK => ⟨_, fun w' => by go_simp <;> rfl, ?_⟩); go_simp; refine hK _ ?_; clear hK K)
        refine Text.bdone ?_
        have HW9 : Hid (∃ A9 c9, v9 = .slice A9 (j + 1) c9 ∧ LS rHd 3 24 w9 A9 (j + 1) c9 (out.take k ++ x :: out.drop k)) := Lib.hid (by
         have e : out.take k ++ [x] ++ out.drop k = out.take k ++ x :: out.drop k := by rw [List.append_assoc]; rfl
         have hl : (out.take k ++ x :: out.drop k).length = j + 1 := by have h8 := HOL.out; have h9 := HTL.out; rw [List.length_append, List.length_cons, List.length_drop]; omega
         have ho := HO9.out
         rw [e] at ho
         have h7 := ho.ls (b := 24) stay_hd HX9.out (by rw [hl]; have := HSZ.out; unfold lim; omega)
         rw [hl] at h7
         exact h7)
        go_wp2_with fail
        go_roundw
        case rel => exact ⟨j + 1, v9, by omega, by go_num, rfl, Lib.hid (by rw [HNX.out, HINS.out]; exact HW9.out), Lib.hid (below_thenB HBb.out HBb.out.size HX9.out)⟩
        case measure => simp [intOf]; omega
       ·
        refine Text.beff rfl rfl (fun K hK => ?_)
        refine wp_bslice 32 93 1 _ rfl #[(0, .agg (hdL x).toArray)] (by rw [List.map_toArray]; rfl) (hdL x) (bslH1 _ _) ?_
        intro wc a1 a2 a3
        have HKwc := Lib.hid a2
        have HXwc : Hid (Below wb.heap.size wb wc) := Lib.hid (below_thenB (HXwa).out (by have := (HXwa).out.size; exact this) a2)
        have HGwc := Lib.hid a1
        refine hK _ _ HXwc.out ?_
        clear hK K a1 a2 a3
        have HOc := Lib.hid (HOwa.out.kept HKwc.out)
        refine Text.beff rfl rfl (fun K hK => ?_)
        obtain ⟨iS, i1, i2, i3, i4⟩ := info_some infoRh
        refine wp_appOL2 _ (.tmp 61) (.tmp 64) iS _ rfl Tryz.underlying32 i1 i2 i3 rfl _ rfl (HOc).out (HXwc).out rfl HP.out (fun _ _ h => len_hd _ _ h) (fun _ _ h => ones_hd _ _ h) (by rw [i4]; have := HSZ.out; simp; omega) (by have := HSZ.out; simp; omega) (fun v4 wd q1 q2 q3 => ?_)
        have HXwd := Lib.hid q2
        have HKP4 := Lib.hid q3
        have HO4 : Hid (OL rHd 3 93 wb wd v4 (out.take k)) := Lib.hid q1
        refine hK _ _ HXwd.out ?_
        clear hK K q1 q2 q3 i1 i2 i3 i4
        have HGs := Lib.hid (HGwc.out.kp HKP4.out (fun e => by have e' : wb.heap.size = wa.heap.size := Option.some.inj e; have h7 : wb.heap.size < wa.heap.size := HGwa.out.lt; omega))
        obtain ⟨cs4, g1, g2, g3, g4, g5⟩ := (HO4).out
        have HK1 := Lib.hid g1
        have HK2 := Lib.hid g2
        have HK3 := Lib.hid g3
        rw [HTL.out] at g4
        have HK4 := Lib.hid g4
        have HK5 := Lib.hid g5
        clear g1 g2 g3 g4 g5
        refine Text.beff rfl rfl (fun K hK => ?_)
        obtain ⟨iS, i1, i2, i3, i4⟩ := info_some infoRh
        refine wp_appRW _ (.tmp 65) (.tmp 70) 32 93 3 iS _ rfl Tryz.underlying32 i1 i2 i3 rfl v4 k _ rfl HK4.out wa.heap.size (hdL x) rfl (HGs).out rfl (one_hd x) (by rw [i4]; have := HSZ.out; omega) (by have := HSZ.out; omega) ?_
        intro v7 w7 ap
        have HX7 : Hid (Below wb.heap.size wb w7) := Lib.hid (low_kp (HXwd).out ap.kp (fun i hi e => by have := HK5.out i e; omega))
        have HO7 : Hid (OL rHd 3 93 wb w7 v7 (out.take k ++ [x])) := Lib.hid (OL.push HK1.out HK2.out HK3.out HK5.out HTL.out rfl HRb.out (HXwd).out.size ap)
        refine hK _ _ HX7.out ?_
        clear hK K ap i1 i2 i3 i4
        refine Text.beff rfl rfl (fun K hK => ?_)
        obtain ⟨iS, i1, i2, i3, i4⟩ := info_some infoRh
        refine wp_appOL2 _ (.tmp 71) (.tmp 74) iS _ rfl Tryz.underlying32 i1 i2 i3 rfl _ rfl HO7.out HX7.out rfl HC.out (fun _ _ h => len_hd _ _ h) (fun _ _ h => ones_hd _ _ h) (by rw [i4, List.length_append, HTL.out, List.length_singleton]; have := HSZ.out; omega) (by rw [List.length_append, HTL.out, List.length_singleton]; have := HSZ.out; omega) (fun v9 w9 q1 q2 _ => ?_)
        have HX9 := Lib.hid q2
        have HO9 := Lib.hid q1
        refine hK _ _ HX9.out ?_
        clear hK K q1 q2 i1 i2 i3 i4
        (refine Text.bpurek rfl rfl (fun K hK => ⟨_, fun w' => by go_simp <;> rfl, ?_⟩); go_simp; refine hK _ ?_; clear hK K)
        refine Text.bdone ?_
        have HW9 : Hid (∃ A9 c9, v9 = .slice A9 (j + 1) c9 ∧ LS rHd 3 24 w9 A9 (j + 1) c9 (out.take k ++ x :: out.drop k)) := Lib.hid (by
         have e : out.take k ++ [x] ++ out.drop k = out.take k ++ x :: out.drop k := by rw [List.append_assoc]; rfl
         have hl : (out.take k ++ x :: out.drop k).length = j + 1 := by have h8 := HOL.out; have h9 := HTL.out; rw [List.length_append, List.length_cons, List.length_drop]; omega
         have ho := HO9.out
         rw [e] at ho
         have h7 := ho.ls (b := 24) stay_hd HX9.out (by rw [hl]; have := HSZ.out; unfold lim; omega)
         rw [hl] at h7
         exact h7)
        go_wp2_with fail
        go_roundw
        case rel => exact ⟨j + 1, v9, by omega, by go_num, rfl, Lib.hid (by rw [HNX.out, HINS.out]; exact HW9.out), Lib.hid (below_thenB HBb.out HBb.out.size HX9.out)⟩
        case measure => simp [intOf]; omega
      ·
       refine Text.beff rfl rfl (fun K hK => ?_)
       refine wp_bslice 32 93 1 _ rfl #[(0, .agg (hdL x).toArray)] (by rw [List.map_toArray]; rfl) (hdL x) (bslH1 _ _) ?_
       intro wa a1 a2 a3
       have HKwa := Lib.hid a2
       have HXwa : Hid (Below wb.heap.size wb wa) := Lib.hid (below_thenB (HX0).out (by have := (HX0).out.size; exact this) a2)
       have HGwa := Lib.hid a1
       refine hK _ _ HXwa.out ?_
       clear hK K a1 a2 a3
       refine Text.beff rfl rfl (fun K hK => ?_)
       refine wp_bslice 32 93 0 _ rfl #[] (by rw [List.map_toArray]; rfl) [] (bslH0 _) ?_
       intro wc a1 a2 a3
       have HKwc := Lib.hid a2
       have HGwc := Lib.hid a1
       have HXwc : Hid (Below wb.heap.size wb wc) := Lib.hid (below_thenB (HXwa).out (by have := (HXwa).out.size; exact this) a2)
       have HOwc : Hid (OL rHd 3 93 wb wc (.slice (some ⟨wa.heap.size, 0, none⟩) 0 0) []) := Lib.hid (OL.nil' _ _ a1 (by have := (HXwa).out.size; exact this))
       refine hK _ _ HXwc.out ?_
       clear hK K a1 a2 a3
       have HGa := Lib.hid (HGwa.out.kept HKwc.out)
       refine Text.beff rfl rfl (fun K hK => ?_)
       obtain ⟨iS, i1, i2, i3, i4⟩ := info_some infoRh
       refine wp_appOL2 _ (.tmp 61) (.tmp 64) iS _ rfl Tryz.underlying32 i1 i2 i3 rfl _ rfl (HOwc).out (HXwc).out rfl HP.out (fun _ _ h => len_hd _ _ h) (fun _ _ h => ones_hd _ _ h) (by rw [i4]; have := HSZ.out; simp; omega) (by have := HSZ.out; simp; omega) (fun v4 wd q1 q2 q3 => ?_)
       have HXwd := Lib.hid q2
       have HKP4 := Lib.hid q3
       have HO4 : Hid (OL rHd 3 93 wb wd v4 (out.take k)) := Lib.hid q1
       refine hK _ _ HXwd.out ?_
       clear hK K q1 q2 q3 i1 i2 i3 i4
       have HGs := Lib.hid (HGa.out.kp HKP4.out (fun e => by have e' : wa.heap.size = wb.heap.size := Option.some.inj e; have h7 : wb.heap.size < wa.heap.size := HGwa.out.lt; omega))
       obtain ⟨cs4, g1, g2, g3, g4, g5⟩ := (HO4).out
       have HK1 := Lib.hid g1
       have HK2 := Lib.hid g2
       have HK3 := Lib.hid g3
       rw [HTL.out] at g4
       have HK4 := Lib.hid g4
       have HK5 := Lib.hid g5
       clear g1 g2 g3 g4 g5
       refine Text.beff rfl rfl (fun K hK => ?_)
       obtain ⟨iS, i1, i2, i3, i4⟩ := info_some infoRh
       refine wp_appRW _ (.tmp 65) (.tmp 70) 32 93 3 iS _ rfl Tryz.underlying32 i1 i2 i3 rfl v4 k _ rfl HK4.out wb.drew.heap.size (hdL x) rfl (HGs).out rfl (one_hd x) (by rw [i4]; have := HSZ.out; omega) (by have := HSZ.out; omega) ?_
       intro v7 w7 ap
       have HX7 : Hid (Below wb.heap.size wb w7) := Lib.hid (low_kp (HXwd).out ap.kp (fun i hi e => by have := HK5.out i e; omega))
       have HO7 : Hid (OL rHd 3 93 wb w7 v7 (out.take k ++ [x])) := Lib.hid (OL.push HK1.out HK2.out HK3.out HK5.out HTL.out rfl HRb.out (HXwd).out.size ap)
       refine hK _ _ HX7.out ?_
       clear hK K ap i1 i2 i3 i4
       refine Text.beff rfl rfl (fun K hK => ?_)
       obtain ⟨iS, i1, i2, i3, i4⟩ := info_some infoRh
       refine wp_appOL2 _ (.tmp 71) (.tmp 74) iS _ rfl Tryz.underlying32 i1 i2 i3 rfl _ rfl HO7.out HX7.out rfl HC.out (fun _ _ h => len_hd _ _ h) (fun _ _ h => ones_hd _ _ h) (by rw [i4, List.length_append, HTL.out, List.length_singleton]; have := HSZ.out; omega) (by rw [List.length_append, HTL.out, List.length_singleton]; have := HSZ.out; omega) (fun v9 w9 q1 q2 _ => ?_)
       have HX9 := Lib.hid q2
       have HO9 := Lib.hid q1
       refine hK _ _ HX9.out ?_
       clear hK K q1 q2 i1 i2 i3 i4
       (refine Text.bpurek rfl rfl (fun K hK => ⟨_, fun w' => by go_simp <;> rfl, ?_⟩); go_simp; refine hK _ ?_; clear hK K)
       refine Text.bdone ?_
       have HW9 : Hid (∃ A9 c9, v9 = .slice A9 (j + 1) c9 ∧ LS rHd 3 24 w9 A9 (j + 1) c9 (out.take k ++ x :: out.drop k)) := Lib.hid (by
        have e : out.take k ++ [x] ++ out.drop k = out.take k ++ x :: out.drop k := by rw [List.append_assoc]; rfl
        have hl : (out.take k ++ x :: out.drop k).length = j + 1 := by have h8 := HOL.out; have h9 := HTL.out; rw [List.length_append, List.length_cons, List.length_drop]; omega
        have ho := HO9.out
        rw [e] at ho
        have h7 := ho.ls (b := 24) stay_hd HX9.out (by rw [hl]; have := HSZ.out; unfold lim; omega)
        rw [hl] at h7
        exact h7)
       go_wp2_with fail
       go_roundw
       case rel => exact ⟨j + 1, v9, by omega, by go_num, rfl, Lib.hid (by rw [HNX.out, HINS.out]; exact HW9.out), Lib.hid (below_thenB HBb.out HBb.out.size HX9.out)⟩
       case measure => simp [intOf]; omega
     have f2 : (y.wt == x.wt) = true := by rw [beq_iff_eq]; exact h2
     by_cases h3 : y.dv > x.dv
     ·
      have f3 : decide (y.dv > x.dv) = true := decide_eq_true h3
      have f3' : decide (x.dv < y.dv) = true := decide_eq_true h3
      have HALL : Hid (∀ z, out[i]? = some z → pref x z = true) := Lib.hid (fun z hz => by rw [HY.out] at hz; cases hz; rw [pref_tt]; exact .inr ⟨h2.symm, h3⟩)
      clear h1 h2 h3
      go_wp2_with fail
      refine Text.wp_region_text (fun _ => True) [(0, 4), (1, 4), (2, 4), (3, 4), (4, 4), (5, 4), (6, 4), (7, 4), (9, 4), (10, 4), (11, 4), (12, 4), (8, 1), (13, 1), (14, 4), (15, 4), (16, 4), (17, 4), (18, 4), (19, 4), (20, 4), (22, 4), (23, 4), (24, 4), (25, 4), (21, 1), (26, 1), (27, 4), (28, 4), (29, 4), (30, 4), (31, 4), (32, 4), (33, 4), (35, 4), (36, 4), (37, 4), (38, 4), (34, 1), (39, 1), (40, 4), (41, 4), (42, 4), (43, 4)] (by kernel_rfl) (by kernel_rfl) (fun _ _ _ _ _ h => h) (trivial) ?_
      iterate 12 (refine Text.purek rfl rfl (fun K hK => ⟨_, fun w' => by go_simp <;> rfl, ?_⟩); go_simp; refine hK _ ?_; clear hK K)
      iterate 2 (refine Text.readk rfl rfl (fun K hK => ⟨_, by go_simp <;> rfl, ?_⟩); go_simp; refine hK _ ?_; clear hK K)
      iterate 11 (refine Text.purek rfl rfl (fun K hK => ⟨_, fun w' => by go_simp <;> rfl, ?_⟩); go_simp; refine hK _ ?_; clear hK K)
      iterate 2 (refine Text.readk rfl rfl (fun K hK => ⟨_, by go_simp <;> rfl, ?_⟩); go_simp; refine hK _ ?_; clear hK K)
      iterate 11 (refine Text.purek rfl rfl (fun K hK => ⟨_, fun w' => by go_simp <;> rfl, ?_⟩); go_simp; refine hK _ ?_; clear hK K)
      iterate 2 (refine Text.readk rfl rfl (fun K hK => ⟨_, by go_simp <;> rfl, ?_⟩); go_simp; refine hK _ ?_; clear hK K)
      iterate 4 (refine Text.purek rfl rfl (fun K hK => ⟨_, fun w' => by go_simp <;> rfl, ?_⟩); go_simp; refine hK _ ?_; clear hK K)
      refine Text.done ?_
      go_wp2_with fail
      go_roundw
      case rel => exact ⟨i, by omega, by go_num, HALL, Lib.hid hb4.out.drew⟩
      case measure => simp [intOf]; omega
     have f3 : decide (y.dv > x.dv) = false := decide_eq_false h3
     have f3' : decide (x.dv < y.dv) = false := decide_eq_false h3
     have HINS : Hid (insH x out = out.take k ++ x :: out.drop k) := Lib.hid (insH_at (by rw [HOL.out]; exact hk) (by rw [← HIK.out]; exact pref_take HSRT.out HY.out (by rw [pref_ff]; omega)) hall.out)
     clear h1 h2 h3
     go_wp2_with fail
     refine Text.wp_region_text (fun _ => True) [(0, 4), (1, 4), (2, 4), (3, 4), (4, 4), (5, 4), (6, 4), (7, 4), (9, 4), (10, 4), (11, 4), (12, 4), (8, 1), (13, 1), (14, 4), (15, 4), (16, 4), (17, 4), (18, 4), (19, 4), (20, 4), (22, 4), (23, 4), (24, 4), (25, 4), (21, 1), (26, 1), (27, 4), (28, 4), (29, 4), (30, 4), (31, 4), (32, 4), (33, 4), (35, 4), (36, 4), (37, 4), (38, 4), (34, 1), (39, 1), (40, 4), (41, 4), (42, 4), (43, 4)] (by kernel_rfl) (by kernel_rfl) (fun _ _ _ _ _ h => h) (trivial) ?_
     iterate 12 (refine Text.purek rfl rfl (fun K hK => ⟨_, fun w' => by go_simp <;> rfl, ?_⟩); go_simp; refine hK _ ?_; clear hK K)
     iterate 2 (refine Text.readk rfl rfl (fun K hK => ⟨_, by go_simp <;> rfl, ?_⟩); go_simp; refine hK _ ?_; clear hK K)
     iterate 11 (refine Text.purek rfl rfl (fun K hK => ⟨_, fun w' => by go_simp <;> rfl, ?_⟩); go_simp; refine hK _ ?_; clear hK K)
     iterate 2 (refine Text.readk rfl rfl (fun K hK => ⟨_, by go_simp <;> rfl, ?_⟩); go_simp; refine hK _ ?_; clear hK K)
     iterate 11 (refine Text.purek rfl rfl (fun K hK => ⟨_, fun w' => by go_simp <;> rfl, ?_⟩); go_simp; refine hK _ ?_; clear hK K)
     iterate 2 (refine Text.readk rfl rfl (fun K hK => ⟨_, by go_simp <;> rfl, ?_⟩); go_simp; refine hK _ ?_; clear hK K)
     iterate 4 (refine Text.purek rfl rfl (fun K hK => ⟨_, fun w' => by go_simp <;> rfl, ?_⟩); go_simp; refine hK _ ?_; clear hK K)
     refine Text.done ?_
     go_wp2_with fail
     have HOb : Hid (LS rHd 3 24 wy.drew (some ⟨g', o', none⟩) j c1 out) := Lib.hid (HOUT.out.kept stay_hd HXy.out.drew)
     have HAb : Hid (At wy.drew g (o + j * 3) (hdL x)) := Lib.hid (At.kept HA.out HXy.out.drew)
     have HRb : Hid (rHd wy.drew (hdL x) x) := Lib.hid ⟨rfl, HOKX.out⟩
     have HBb : Hid (Below w.heap.size w wy.drew) := Lib.hid (below_thenB hb.out hb.out.size HXy.out.drew)
     obtain ⟨wb, hwb⟩ : ∃ z, z = wy.drew := ⟨_, rfl⟩
     rw [← hwb] at HOb HAb HRb HBb ⊢
     clear hwb
     have HP := Lib.hid (HOb.out.pre hk)
     have HC := Lib.hid (HOb.out.cutM hk)
     have HTL : Hid ((out.take k).length = k) := Lib.hid HP.out.1
     have HNC : Hid (j ≤ c1) := Lib.hid HOb.out.2.1
     refine Text.wp_region_bt (fun w' => Below wb.heap.size wb w') (.still 1 4 (.still 2 4 (.still 3 4 (.still 5 4 (.still 6 4 (.still 7 4 (.still 8 0 (.still 11 4 (.still 12 4 (.still 13 4 (.br 0 (.br 4 (.eff 9 (.eff 10 (.eff 14 (.still 15 4 .leaf)))) 9 (.eff 4 (.eff 10 (.eff 14 (.still 15 4 .leaf))))) 9 (.eff 0 (.eff 4 (.eff 10 (.eff 14 (.still 15 4 .leaf)))))))))))))))) (by kernel_rfl) (by kernel_rfl) (fun _ _ _ _ _ h => h) ((Below.refl _ _).drew) ?_
     iterate 2 (refine Text.bpurek rfl rfl (fun K hK => ⟨_, fun w' => by go_simp <;> rfl, ?_⟩); go_simp; refine hK _ ?_; clear hK K)
     refine Text.bpurek rfl rfl (fun K hK => ⟨_, fun w' => exec_preM (.tmp 62) (.tmp 63) 32 93 3 rfl Tryz.underlying32 (szRh _) _ j c1 k rfl (by go_simp) hk HNC.out, ?_⟩)
     go_simp
     refine hK _ ?_
     clear hK K
     iterate 3 (refine Text.bpurek rfl rfl (fun K hK => ⟨_, fun w' => by go_simp <;> rfl, ?_⟩); go_simp; refine hK _ ?_; clear hK K)
     refine Text.bheldk rfl rfl (fun K hK => ⟨_, fun w' hw' => exec_loadv 93 (.tmp 68) rfl 3 (by kernel_rfl) g (o + j * 3) (hdL x) (by go_simp) (At.kept HAb.out hw') rfl, ?_⟩)
     go_simp
     refine hK _ ?_
     clear hK K
     iterate 2 (refine Text.bpurek rfl rfl (fun K hK => ⟨_, fun w' => by go_simp <;> rfl, ?_⟩); go_simp; refine hK _ ?_; clear hK K)
     refine Text.bpurek rfl rfl (fun K hK => ⟨_, fun w' => exec_cutM (.tmp 72) (.tmp 73) 32 93 3 rfl Tryz.underlying32 (szRh _) _ j c1 k rfl (by go_simp) hk, ?_⟩)
     go_simp
     refine hK _ ?_
     clear hK K
     have HX0 : Hid (Below wb.heap.size wb wb.drew) := Lib.hid (Below.refl _ _).drew
     refine Text.bfork ?_ ?_
     ·
      refine Text.beff rfl rfl (fun K hK => ?_)
      refine wp_bslice 32 93 0 _ rfl #[] (by rw [List.map_toArray]; rfl) [] (bslH0 _) ?_
      intro wa a1 a2 a3
      have HKwa := Lib.hid a2
      have HGwa := Lib.hid a1
      have HXwa : Hid (Below wb.heap.size wb wa) := Lib.hid (below_thenB (HX0).out (by have := (HX0).out.size; exact this) a2)
      have HOwa : Hid (OL rHd 3 93 wb wa (.slice (some ⟨wb.heap.size, 0, none⟩) 0 0) []) := Lib.hid (OL.nil' _ _ a1 (by have := (HX0).out.size; exact this))
      refine hK _ _ HXwa.out ?_
      clear hK K a1 a2 a3
      refine Text.bfork ?_ ?_
      ·
       refine Text.beff rfl rfl (fun K hK => ?_)
       obtain ⟨iS, i1, i2, i3, i4⟩ := info_some infoRh
       refine wp_appOL2 _ (.tmp 61) (.tmp 64) iS _ rfl Tryz.underlying32 i1 i2 i3 rfl _ rfl (HOwa).out (HXwa).out rfl HP.out (fun _ _ h => len_hd _ _ h) (fun _ _ h => ones_hd _ _ h) (by rw [i4]; have := HSZ.out; simp; omega) (by have := HSZ.out; simp; omega) (fun v4 wc q1 q2 q3 => ?_)
       have HXwc := Lib.hid q2
       have HKP4 := Lib.hid q3
       have HO4 : Hid (OL rHd 3 93 wb wc v4 (out.take k)) := Lib.hid q1
       refine hK _ _ HXwc.out ?_
       clear hK K q1 q2 q3 i1 i2 i3 i4
       refine Text.beff rfl rfl (fun K hK => ?_)
       refine wp_bslice 32 93 1 _ rfl #[(0, .agg (hdL x).toArray)] (by rw [List.map_toArray]; rfl) (hdL x) (bslH1 _ _) ?_
       intro wd a1 a2 a3
       have HKwd := Lib.hid a2
       have HXwd : Hid (Below wb.heap.size wb wd) := Lib.hid (below_thenB (HXwc).out (by have := (HXwc).out.size; exact this) a2)
       have HGwd := Lib.hid a1
       refine hK _ _ HXwd.out ?_
       clear hK K a1 a2 a3
       have HO5 := Lib.hid (HO4.out.kept HKwd.out)
       obtain ⟨cs4, g1, g2, g3, g4, g5⟩ := (HO5).out
       have HK1 := Lib.hid g1
       have HK2 := Lib.hid g2
       have HK3 := Lib.hid g3
       rw [HTL.out] at g4
       have HK4 := Lib.hid g4
       have HK5 := Lib.hid g5
       clear g1 g2 g3 g4 g5
       refine Text.beff rfl rfl (fun K hK => ?_)
       obtain ⟨iS, i1, i2, i3, i4⟩ := info_some infoRh
       refine wp_appRW _ (.tmp 65) (.tmp 70) 32 93 3 iS _ rfl Tryz.underlying32 i1 i2 i3 rfl v4 k _ rfl HK4.out wc.heap.size (hdL x) rfl (HGwd).out rfl (one_hd x) (by rw [i4]; have := HSZ.out; omega) (by have := HSZ.out; omega) ?_
       intro v7 w7 ap
       have HX7 : Hid (Below wb.heap.size wb w7) := Lib.hid (low_kp (HXwd).out ap.kp (fun i hi e => by have := HK5.out i e; omega))
       have HO7 : Hid (OL rHd 3 93 wb w7 v7 (out.take k ++ [x])) := Lib.hid (OL.push HK1.out HK2.out HK3.out HK5.out HTL.out rfl HRb.out (HXwd).out.size ap)
       refine hK _ _ HX7.out ?_
       clear hK K ap i1 i2 i3 i4
       refine Text.beff rfl rfl (fun K hK => ?_)
       obtain ⟨iS, i1, i2, i3, i4⟩ := info_some infoRh
       refine wp_appOL2 _ (.tmp 71) (.tmp 74) iS _ rfl Tryz.underlying32 i1 i2 i3 rfl _ rfl HO7.out HX7.out rfl HC.out (fun _ _ h => len_hd _ _ h) (fun _ _ h => ones_hd _ _ h) (by rw [i4, List.length_append, HTL.out, List.length_singleton]; have := HSZ.out; omega) (by rw [List.length_append, HTL.out, List.length_singleton]; have := HSZ.out; omega) (fun v9 w9 q1 q2 _ => ?_)
       have HX9 := Lib.hid q2
       have HO9 := Lib.hid q1
       refine hK _ _ HX9.out ?_
       clear hK K q1 q2 i1 i2 i3 i4
       (refine Text.bpurek rfl rfl (fun K hK => ⟨_, fun w' => by go_simp <;> rfl, ?_⟩); go_simp; refine hK _ ?_; clear hK K)
       refine Text.bdone ?_
       have HW9 : Hid (∃ A9 c9, v9 = .slice A9 (j + 1) c9 ∧ LS rHd 3 24 w9 A9 (j + 1) c9 (out.take k ++ x :: out.drop k)) := Lib.hid (by
        have e : out.take k ++ [x] ++ out.drop k = out.take k ++ x :: out.drop k := by rw [List.append_assoc]; rfl
        have hl : (out.take k ++ x :: out.drop k).length = j + 1 := by have h8 := HOL.out; have h9 := HTL.out; rw [List.length_append, List.length_cons, List.length_drop]; omega
        have ho := HO9.out
        rw [e] at ho
        have h7 := ho.ls (b := 24) stay_hd HX9.out (by rw [hl]; have := HSZ.out; unfold lim; omega)
        rw [hl] at h7
        exact h7)
       go_wp2_with fail
       go_roundw
       case rel => exact ⟨j + 1, v9, by omega, by go_num, rfl, Lib.hid (by rw [HNX.out, HINS.out]; exact HW9.out), Lib.hid (below_thenB HBb.out HBb.out.size HX9.out)⟩
       case measure => simp [intOf]; omega
      ·
       refine Text.beff rfl rfl (fun K hK => ?_)
       refine wp_bslice 32 93 1 _ rfl #[(0, .agg (hdL x).toArray)] (by rw [List.map_toArray]; rfl) (hdL x) (bslH1 _ _) ?_
       intro wc a1 a2 a3
       have HKwc := Lib.hid a2
       have HXwc : Hid (Below wb.heap.size wb wc) := Lib.hid (below_thenB (HXwa).out (by have := (HXwa).out.size; exact this) a2)
       have HGwc := Lib.hid a1
       refine hK _ _ HXwc.out ?_
       clear hK K a1 a2 a3
       have HOc := Lib.hid (HOwa.out.kept HKwc.out)
       refine Text.beff rfl rfl (fun K hK => ?_)
       obtain ⟨iS, i1, i2, i3, i4⟩ := info_some infoRh
       refine wp_appOL2 _ (.tmp 61) (.tmp 64) iS _ rfl Tryz.underlying32 i1 i2 i3 rfl _ rfl (HOc).out (HXwc).out rfl HP.out (fun _ _ h => len_hd _ _ h) (fun _ _ h => ones_hd _ _ h) (by rw [i4]; have := HSZ.out; simp; omega) (by have := HSZ.out; simp; omega) (fun v4 wd q1 q2 q3 => ?_)
       have HXwd := Lib.hid q2
       have HKP4 := Lib.hid q3
       have HO4 : Hid (OL rHd 3 93 wb wd v4 (out.take k)) := Lib.hid q1
       refine hK _ _ HXwd.out ?_
       clear hK K q1 q2 q3 i1 i2 i3 i4
       have HGs := Lib.hid (HGwc.out.kp HKP4.out (fun e => by have e' : wb.heap.size = wa.heap.size := Option.some.inj e; have h7 : wb.heap.size < wa.heap.size := HGwa.out.lt; omega))
       obtain ⟨cs4, g1, g2, g3, g4, g5⟩ := (HO4).out
       have HK1 := Lib.hid g1
       have HK2 := Lib.hid g2
       have HK3 := Lib.hid g3
       rw [HTL.out] at g4
       have HK4 := Lib.hid g4
       have HK5 := Lib.hid g5
       clear g1 g2 g3 g4 g5
       refine Text.beff rfl rfl (fun K hK => ?_)
       obtain ⟨iS, i1, i2, i3, i4⟩ := info_some infoRh
       refine wp_appRW _ (.tmp 65) (.tmp 70) 32 93 3 iS _ rfl Tryz.underlying32 i1 i2 i3 rfl v4 k _ rfl HK4.out wa.heap.size (hdL x) rfl (HGs).out rfl (one_hd x) (by rw [i4]; have := HSZ.out; omega) (by have := HSZ.out; omega) ?_
       intro v7 w7 ap
       have HX7 : Hid (Below wb.heap.size wb w7) := Lib.hid (low_kp (HXwd).out ap.kp (fun i hi e => by have := HK5.out i e; omega))
       have HO7 : Hid (OL rHd 3 93 wb w7 v7 (out.take k ++ [x])) := Lib.hid (OL.push HK1.out HK2.out HK3.out HK5.out HTL.out rfl HRb.out (HXwd).out.size ap)
       refine hK _ _ HX7.out ?_
       clear hK K ap i1 i2 i3 i4
       refine Text.beff rfl rfl (fun K hK => ?_)
       obtain ⟨iS, i1, i2, i3, i4⟩ := info_some infoRh
       refine wp_appOL2 _ (.tmp 71) (.tmp 74) iS _ rfl Tryz.underlying32 i1 i2 i3 rfl _ rfl HO7.out HX7.out rfl HC.out (fun _ _ h => len_hd _ _ h) (fun _ _ h => ones_hd _ _ h) (by rw [i4, List.length_append, HTL.out, List.length_singleton]; have := HSZ.out; omega) (by rw [List.length_append, HTL.out, List.length_singleton]; have := HSZ.out; omega) (fun v9 w9 q1 q2 _ => ?_)
       have HX9 := Lib.hid q2
       have HO9 := Lib.hid q1
       refine hK _ _ HX9.out ?_
       clear hK K q1 q2 i1 i2 i3 i4
       (refine Text.bpurek rfl rfl (fun K hK => ⟨_, fun w' => by go_simp <;> rfl, ?_⟩); go_simp; refine hK _ ?_; clear hK K)
       refine Text.bdone ?_
       have HW9 : Hid (∃ A9 c9, v9 = .slice A9 (j + 1) c9 ∧ LS rHd 3 24 w9 A9 (j + 1) c9 (out.take k ++ x :: out.drop k)) := Lib.hid (by
        have e : out.take k ++ [x] ++ out.drop k = out.take k ++ x :: out.drop k := by rw [List.append_assoc]; rfl
        have hl : (out.take k ++ x :: out.drop k).length = j + 1 := by have h8 := HOL.out; have h9 := HTL.out; rw [List.length_append, List.length_cons, List.length_drop]; omega
        have ho := HO9.out
        rw [e] at ho
        have h7 := ho.ls (b := 24) stay_hd HX9.out (by rw [hl]; have := HSZ.out; unfold lim; omega)
        rw [hl] at h7
        exact h7)
       go_wp2_with fail
       go_roundw
       case rel => exact ⟨j + 1, v9, by omega, by go_num, rfl, Lib.hid (by rw [HNX.out, HINS.out]; exact HW9.out), Lib.hid (below_thenB HBb.out HBb.out.size HX9.out)⟩
       case measure => simp [intOf]; omega
     ·
      refine Text.beff rfl rfl (fun K hK => ?_)
      refine wp_bslice 32 93 1 _ rfl #[(0, .agg (hdL x).toArray)] (by rw [List.map_toArray]; rfl) (hdL x) (bslH1 _ _) ?_
      intro wa a1 a2 a3
      have HKwa := Lib.hid a2
      have HXwa : Hid (Below wb.heap.size wb wa) := Lib.hid (below_thenB (HX0).out (by have := (HX0).out.size; exact this) a2)
      have HGwa := Lib.hid a1
      refine hK _ _ HXwa.out ?_
      clear hK K a1 a2 a3
      refine Text.beff rfl rfl (fun K hK => ?_)
      refine wp_bslice 32 93 0 _ rfl #[] (by rw [List.map_toArray]; rfl) [] (bslH0 _) ?_
      intro wc a1 a2 a3
      have HKwc := Lib.hid a2
      have HGwc := Lib.hid a1
      have HXwc : Hid (Below wb.heap.size wb wc) := Lib.hid (below_thenB (HXwa).out (by have := (HXwa).out.size; exact this) a2)
      have HOwc : Hid (OL rHd 3 93 wb wc (.slice (some ⟨wa.heap.size, 0, none⟩) 0 0) []) := Lib.hid (OL.nil' _ _ a1 (by have := (HXwa).out.size; exact this))
      refine hK _ _ HXwc.out ?_
      clear hK K a1 a2 a3
      have HGa := Lib.hid (HGwa.out.kept HKwc.out)
      refine Text.beff rfl rfl (fun K hK => ?_)
      obtain ⟨iS, i1, i2, i3, i4⟩ := info_some infoRh
      refine wp_appOL2 _ (.tmp 61) (.tmp 64) iS _ rfl Tryz.underlying32 i1 i2 i3 rfl _ rfl (HOwc).out (HXwc).out rfl HP.out (fun _ _ h => len_hd _ _ h) (fun _ _ h => ones_hd _ _ h) (by rw [i4]; have := HSZ.out; simp; omega) (by have := HSZ.out; simp; omega) (fun v4 wd q1 q2 q3 => ?_)
      have HXwd := Lib.hid q2
      have HKP4 := Lib.hid q3
      have HO4 : Hid (OL rHd 3 93 wb wd v4 (out.take k)) := Lib.hid q1
      refine hK _ _ HXwd.out ?_
      clear hK K q1 q2 q3 i1 i2 i3 i4
      have HGs := Lib.hid (HGa.out.kp HKP4.out (fun e => by have e' : wa.heap.size = wb.heap.size := Option.some.inj e; have h7 : wb.heap.size < wa.heap.size := HGwa.out.lt; omega))
      obtain ⟨cs4, g1, g2, g3, g4, g5⟩ := (HO4).out
      have HK1 := Lib.hid g1
      have HK2 := Lib.hid g2
      have HK3 := Lib.hid g3
      rw [HTL.out] at g4
      have HK4 := Lib.hid g4
      have HK5 := Lib.hid g5
      clear g1 g2 g3 g4 g5
      refine Text.beff rfl rfl (fun K hK => ?_)
      obtain ⟨iS, i1, i2, i3, i4⟩ := info_some infoRh
      refine wp_appRW _ (.tmp 65) (.tmp 70) 32 93 3 iS _ rfl Tryz.underlying32 i1 i2 i3 rfl v4 k _ rfl HK4.out wb.drew.heap.size (hdL x) rfl (HGs).out rfl (one_hd x) (by rw [i4]; have := HSZ.out; omega) (by have := HSZ.out; omega) ?_
      intro v7 w7 ap
      have HX7 : Hid (Below wb.heap.size wb w7) := Lib.hid (low_kp (HXwd).out ap.kp (fun i hi e => by have := HK5.out i e; omega))
      have HO7 : Hid (OL rHd 3 93 wb w7 v7 (out.take k ++ [x])) := Lib.hid (OL.push HK1.out HK2.out HK3.out HK5.out HTL.out rfl HRb.out (HXwd).out.size ap)
      refine hK _ _ HX7.out ?_
      clear hK K ap i1 i2 i3 i4
      refine Text.beff rfl rfl (fun K hK => ?_)
      obtain ⟨iS, i1, i2, i3, i4⟩ := info_some infoRh
      refine wp_appOL2 _ (.tmp 71) (.tmp 74) iS _ rfl Tryz.underlying32 i1 i2 i3 rfl _ rfl HO7.out HX7.out rfl HC.out (fun _ _ h => len_hd _ _ h) (fun _ _ h => ones_hd _ _ h) (by rw [i4, List.length_append, HTL.out, List.length_singleton]; have := HSZ.out; omega) (by rw [List.length_append, HTL.out, List.length_singleton]; have := HSZ.out; omega) (fun v9 w9 q1 q2 _ => ?_)
      have HX9 := Lib.hid q2
      have HO9 := Lib.hid q1
      refine hK _ _ HX9.out ?_
      clear hK K q1 q2 i1 i2 i3 i4
      (refine Text.bpurek rfl rfl (fun K hK => ⟨_, fun w' => by go_simp <;> rfl, ?_⟩); go_simp; refine hK _ ?_; clear hK K)
      refine Text.bdone ?_
      have HW9 : Hid (∃ A9 c9, v9 = .slice A9 (j + 1) c9 ∧ LS rHd 3 24 w9 A9 (j + 1) c9 (out.take k ++ x :: out.drop k)) := Lib.hid (by
       have e : out.take k ++ [x] ++ out.drop k = out.take k ++ x :: out.drop k := by rw [List.append_assoc]; rfl
       have hl : (out.take k ++ x :: out.drop k).length = j + 1 := by have h8 := HOL.out; have h9 := HTL.out; rw [List.length_append, List.length_cons, List.length_drop]; omega
       have ho := HO9.out
       rw [e] at ho
       have h7 := ho.ls (b := 24) stay_hd HX9.out (by rw [hl]; have := HSZ.out; unfold lim; omega)
       rw [hl] at h7
       exact h7)
      go_wp2_with fail
      go_roundw
      case rel => exact ⟨j + 1, v9, by omega, by go_num, rfl, Lib.hid (by rw [HNX.out, HINS.out]; exact HW9.out), Lib.hid (below_thenB HBb.out HBb.out.size HX9.out)⟩
      case measure => simp [intOf]; omega
  ·
   obtain rfl : j = n := by omega
   have HE : Hid (out = prefL hs) := Lib.hid (by rw [HOD.out, take_end HL.out])
   go_wp2_with fail
   go_ret
   exact ⟨A1, c1, rfl, by rw [← HE.out]; exact HOUT.out, hb.out⟩
end Go.Proofs.YtklfficlegfhjaaGreat
