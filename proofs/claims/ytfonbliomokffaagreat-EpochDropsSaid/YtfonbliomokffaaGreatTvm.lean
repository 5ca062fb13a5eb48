/- The reference's Proposals. -/
import Derived.Test.YtfonbliomokffaaGreatTum
import Derived.Test.YtfonbliomokffaaGreatTsm
namespace Go.Proofs.YtfonbliomokffaaGreat
open Go Go.RowKit Gf Sha

theorem OLn.nil {α : Type} (R : Rdg α) (s : Nat) (te : TypeId) (base : Nat) (w : World) : OLn R s te base w (.slice none 0 0) [] :=
  ⟨[], rfl, (fun _ h => by cases h), (fun _ _ k h => absurd h (by simp)), RW.nil _ _ _, (fun b hb => by cases hb)⟩
theorem OLn.pushP {base n : Nat} {w w' : World} {v v' : Value} {L : List Pp} {x : Pp} {xs : List Value} (hn : L.length = n) (hxs : xs.length = 5) (hx : rPpT w xs x) (hw : base ≤ w.heap.size) {css : List (List Value)} (hl : css.length = L.length) (h2 : ∀ cs ∈ css, cs.length = 5) (h3 : ∀ w', Kp (fun b => v.ownBlock = some b) w w' → ∀ k (h : k < L.length) (h' : k < css.length), rPpT w' css[k] L[k]) (h5 : ∀ b, v.ownBlock = some b → base ≤ b)
    {l : List Value} (hr : RW w 40 5 v n l) (ap : AppR w 40 5 v n 1 css.flatten xs v' w') : OLn rPpT 5 40 base w' v' (L ++ [x]) :=
  OLn.push hl h2 h3 h5 hn hxs (fun w'' hk => hx.kp hk (fun i t l' hl' ht => own_ty hr hl' (by rcases ht with rfl | rfl <;> decide))) hw ap
theorem bslRp1 (p : Pp) (A1 : Option Addr) (n1 c1 : Nat) (A2 : Option Addr) (n2 c2 : Nat) (w : World) : (Instr.buildSlice 89 1 #[(0, .agg (ppC p A1 n1 c1 A2 n2 c2).toArray)]).run Tryz.prog w = .ok (.slice (some ⟨w.heap.size, 0, none⟩) 1 1) (w.alloc (.cells (ppC p A1 n1 c1 A2 n2 c2).toArray 40)) := by kernel_rfl
theorem propG_kind {V : Int} {x : En} (h : ¬ x.kind = 3) : propG V x = none := by unfold propG; rw [if_neg h]
theorem propG_none {V : Int} {x : En} (h : drecS x = none) : propG V x = none := by
  unfold propG
  split
  · rw [h]
  · rfl
theorem propG_yes {V : Int} {x : En} {p : Pp} (hk : x.kind = 3) (h : drecS x = some p) (hv : p.vault = V) : propG V x = some p := by
  unfold propG
  rw [if_pos hk, h]
  exact if_pos hv
theorem propG_other {V : Int} {x : En} {p : Pp} (hk : x.kind = 3) (h : drecS x = some p) (hv : ¬ p.vault = V) : propG V x = none := by
  unfold propG
  rw [if_pos hk, h]
  exact if_neg hv
theorem prop_len (l : List En) (V : Int) : (l.filterMap (propG V)).length ≤ l.length := List.length_filterMap_le _ _
set_option maxRecDepth 100000 in
set_option maxHeartbeats 8000000 in
theorem rproposals_any (A : Option Addr) (n c : Nat) (es : List En) (V : Int) (w : World) (h : LS rEn 6 72 w A n c es) (hn30 : n ≤ 10000) :
    Calls Tryz.prog 44 #[.slice A n c, .int .i64 V] w fun e w' => ∃ A' c', e = .returned (.slice A' (ofL (dd es) V).length c') ∧ LS rPpT 5 72 w' A' (ofL (dd es) V).length c' (ofL (dd es) V) ∧ Below w.heap.size w w' := by
  have H := Lib.hid h
  have HL := Lib.hid h.1
  have HN30 := Lib.hid hn30
  obtain ⟨N, hN⟩ : ∃ N, N = (cnt es).length := ⟨_, rfl⟩
  have hN9 : N ≤ 10000 := by rw [hN]; exact Nat.le_trans (cnt_len es) (by rw [h.1]; exact hn30)
  have HN := Lib.hid hN
  clear h hn30 hN
  go_enter Tryz.func44, Tryz.ntmps44
  go_wp2_with (first
    | (go_at_call 83; refine (rcounting_any A n c es w H.out HN30.out).mono ?_; rw [← HN.out]; rintro e w2 ⟨A2, c2, rfl, x1, x2⟩; have HC := Lib.hid x1; have HB2 := Lib.hid x2; clear x1 x2))
  go_loopw [5, 13] (fun ov iv wr => ∃ (j : Nat) (v : Value), j ≤ N ∧ iv = .int .i64 (j : Int) ∧ v = ov ∧ Hid (OLn rPpT 5 40 w2.heap.size wr v (((cnt es).take j).filterMap (propG V))) ∧ Hid (Below w2.heap.size w2 wr)) (fun _ iv _ => N - (intOf iv).toNat)
  case atStart => exact ⟨0, _, by omega, rfl, rfl, Lib.hid (OLn.nil _ _ _ _ _), Lib.hid (Below.refl _ _)⟩
  case round =>
    obtain ⟨j, v, hj, rfl, rfl, hv, hb⟩ := hrel
    obtain ⟨wx, hwx⟩ : ∃ x, x = wr := ⟨_, rfl⟩
    rw [← hwx] at hv hb ⊢
    clear hwx
    obtain ⟨U, hU⟩ : ∃ U, U = ((cnt es).take j).filterMap (propG V) := ⟨_, rfl⟩
    have HUL : Hid (U.length ≤ 10000) := Lib.hid (by
      rw [hU]
      have h1 := prop_len ((cnt es).take j) V
      rw [List.length_take] at h1
      omega)
    have HU := Lib.hid hU
    rw [← hU] at hv
    clear hU
    by_cases hlt : j < N
    · obtain ⟨x, g, o, cs, hs, ea, hat, hr⟩ := HC.out.at_ stay_en hb.out hlt
      obtain ⟨AB, m, d, rfl, hbs, hw1, hw2, _⟩ := hr
      have HBS := Lib.hid hbs
      have HW1 := Lib.hid hw1
      have HW2 := Lib.hid hw2
      have HA := Lib.hid hat
      have HST := Lib.hid (prop_step (V := V) hs)
      subst ea
      clear hs hat hbs hw1 hw2
      by_cases hk : x.kind = 3
      rotate_left
      · have f0 : (x.kind != 3) = true := by rw [bne_iff_ne]; exact hk
        have HE : Hid (((cnt es).take (j + 1)).filterMap (propG V) = U) := Lib.hid (by rw [HST.out, propG_kind hk, ← HU.out]; simp)
        clear hk
        go_wp2_with (first
          | ((with_reducible show wpList _ _ _ (⟨some 16, _, _, _, _, _⟩ :: _) _ _); refine wpList_loadv _ rfl 33 (.tmp 15) rfl 6 (by kernel_rfl) g (o + j * 6) (enC x AB m d) (by go_simp) HA.out rfl ?_)
          | ((with_reducible show wpList _ _ _ (⟨some 7, _, _, _, _, _⟩ :: _) _ _); refine wpList_alloc _ rfl 33 rfl enZ enZero ?_; intro w3 a1 a2 a3; have HV3 := Lib.hid a1; have HX3 := Lib.hid a2; clear a1 a2 a3)
          | ((with_reducible show wpList _ _ _ (⟨none, _, _, _, _, _⟩ :: _) _ _); refine wpList_storev _ rfl 33 (.tmp 7) (.tmp 16) rfl 6 (by kernel_rfl) wx.heap.size 0 _ enZ (enC x AB m d) rfl rfl HV3.out rfl (one_en x AB m d) (by decide) ?_; intro w4 a1 a2 a3; have q0 := a1.get (j := 0) rfl; have q1 := a1.get (j := 1) rfl; have q2 := a1.get (j := 2) rfl; have q4 := a1.get (j := 4) rfl; have HX4 : Hid (Below wx.heap.size wx w4) := Lib.hid (low_kp HX3.out a2 (fun i hi e => by omega)); clear a1 a2 a3)
          | fail)
        go_roundw
        case rel => exact ⟨j + 1, _, by omega, by go_num, rfl, Lib.hid (by rw [HE.out]; exact hv.out.kept HX4.out), Lib.hid (below_thenB hb.out hb.out.size HX4.out)⟩
        case measure => simp [intOf]; omega
      have f0 : (x.kind != 3) = false := by rw [bne_eq_false_iff_eq]; exact hk
      have HKI := Lib.hid hk
      clear hk
      have HDC := Lib.hid (fun w (h : BS w AB m d x.body) => rdec_any AB m d x w h HW1.out HW2.out)
      cases hd : drecS x with
      | none =>
        have HE : Hid (((cnt es).take (j + 1)).filterMap (propG V) = U) := Lib.hid (by rw [HST.out, propG_none hd, ← HU.out]; simp)
        go_wp2_with (first
          | ((with_reducible show wpList _ _ _ (⟨some 16, _, _, _, _, _⟩ :: _) _ _); refine wpList_loadv _ rfl 33 (.tmp 15) rfl 6 (by kernel_rfl) g (o + j * 6) (enC x AB m d) (by go_simp) HA.out rfl ?_)
          | ((with_reducible show wpList _ _ _ (⟨some 7, _, _, _, _, _⟩ :: _) _ _); refine wpList_alloc _ rfl 33 rfl enZ enZero ?_; intro w3 a1 a2 a3; have HV3 := Lib.hid a1; have HX3 := Lib.hid a2; clear a1 a2 a3)
          | ((with_reducible show wpList _ _ _ (⟨none, _, _, _, _, _⟩ :: _) _ _); refine wpList_storev _ rfl 33 (.tmp 7) (.tmp 16) rfl 6 (by kernel_rfl) wx.heap.size 0 _ enZ (enC x AB m d) rfl rfl HV3.out rfl (one_en x AB m d) (by decide) ?_; intro w4 a1 a2 a3; have q0 := a1.get (j := 0) rfl; have q1 := a1.get (j := 1) rfl; have q2 := a1.get (j := 2) rfl; have q4 := a1.get (j := 4) rfl; have HX4 : Hid (Below wx.heap.size wx w4) := Lib.hid (low_kp HX3.out a2 (fun i hi e => by omega)); clear a1 a2 a3)
          | (go_at_call 35; refine (HDC.out w4 (HBS.out.kept HX4.out)).mono ?_; rintro e w5 ⟨_, x1, x2⟩; obtain ⟨cz, rfl, z1, z2⟩ := x1 hd; have HX5 := Lib.hid (below_then HX4.out x2); have HZ1 := Lib.hid z1; have HZ2 := Lib.hid z2; clear x1 x2 z1 z2)
          | ((with_reducible show wpList _ _ _ (⟨some 8, _, _, _, _, _⟩ :: _) _ _); refine wpList_alloc _ rfl 40 rfl ppZ rpZero ?_; intro w6 a1 a2 a3; have HV6 := Lib.hid a1; have HX6 := Lib.hid (below_then HX5.out a2); have HLE := Lib.hid HX5.out.size; clear a1 a2 a3)
          | ((with_reducible show wpList _ _ _ (⟨none, _, _, _, _, _⟩ :: _) _ _); refine wpList_storev _ rfl 40 (.tmp 8) (.tmp 28) rfl 5 (by kernel_rfl) w5.heap.size 0 _ ppZ cz rfl rfl HV6.out HZ1.out HZ2.out (by decide) ?_; intro w7 a1 a2 a3; have HX7 : Hid (Below wx.heap.size wx w7) := Lib.hid (low_kp HX6.out a2 (fun i hi e => by have := HLE.out; omega)); clear a1 a2 a3))
        go_roundw
        case rel => exact ⟨j + 1, _, by omega, by go_num, rfl, Lib.hid (by rw [HE.out]; exact hv.out.kept HX7.out), Lib.hid (below_thenB hb.out hb.out.size HX7.out)⟩
        case measure => simp [intOf]; omega
      | some p =>
        by_cases hvt : p.vault = V
        rotate_left
        · have f1 : (p.vault == V) = false := by rw [beq_eq_false_iff_ne]; exact hvt
          have HE : Hid (((cnt es).take (j + 1)).filterMap (propG V) = U) := Lib.hid (by rw [HST.out, propG_other HKI.out hd hvt, ← HU.out]; simp)
          clear hvt
          go_wp2_with (first
            | ((with_reducible show wpList _ _ _ (⟨some 16, _, _, _, _, _⟩ :: _) _ _); refine wpList_loadv _ rfl 33 (.tmp 15) rfl 6 (by kernel_rfl) g (o + j * 6) (enC x AB m d) (by go_simp) HA.out rfl ?_)
            | ((with_reducible show wpList _ _ _ (⟨some 7, _, _, _, _, _⟩ :: _) _ _); refine wpList_alloc _ rfl 33 rfl enZ enZero ?_; intro w3 a1 a2 a3; have HV3 := Lib.hid a1; have HX3 := Lib.hid a2; clear a1 a2 a3)
            | ((with_reducible show wpList _ _ _ (⟨none, _, _, _, _, _⟩ :: _) _ _); refine wpList_storev _ rfl 33 (.tmp 7) (.tmp 16) rfl 6 (by kernel_rfl) wx.heap.size 0 _ enZ (enC x AB m d) rfl rfl HV3.out rfl (one_en x AB m d) (by decide) ?_; intro w4 a1 a2 a3; have q0 := a1.get (j := 0) rfl; have q1 := a1.get (j := 1) rfl; have q2 := a1.get (j := 2) rfl; have q4 := a1.get (j := 4) rfl; have HX4 : Hid (Below wx.heap.size wx w4) := Lib.hid (low_kp HX3.out a2 (fun i hi e => by omega)); clear a1 a2 a3)
            | (go_at_call 35; refine (HDC.out w4 (HBS.out.kept HX4.out)).mono ?_; rintro e w5 ⟨x1, _, x2⟩; obtain ⟨cz, rfl, z1⟩ := x1 p hd; have HX5 := Lib.hid (below_then HX4.out x2); obtain ⟨⟨A1, n1, c1, A2, n2, c2', rfl, _⟩, _⟩ := z1; clear x1 x2)
            | ((with_reducible show wpList _ _ _ (⟨some 8, _, _, _, _, _⟩ :: _) _ _); refine wpList_alloc _ rfl 40 rfl ppZ rpZero ?_; intro w6 a1 a2 a3; have HV6 := Lib.hid a1; have HX6 := Lib.hid (below_then HX5.out a2); have HLE := Lib.hid HX5.out.size; clear a1 a2 a3)
            | ((with_reducible show wpList _ _ _ (⟨none, _, _, _, _, _⟩ :: _) _ _); refine wpList_storev _ rfl 40 (.tmp 8) (.tmp 28) rfl 5 (by kernel_rfl) w5.heap.size 0 _ ppZ (ppC p A1 n1 c1 A2 n2 c2') rfl rfl HV6.out rfl (one_pp _ _ _ _ _ _ _) (by decide) ?_; intro w7 a1 a2 a3; rw [splice_pp ppZ _ (by rfl)] at a1; have q9 := a1.get (j := 2) rfl; have HX7 : Hid (Below wx.heap.size wx w7) := Lib.hid (low_kp HX6.out a2 (fun i hi e => by have := HLE.out; omega)); clear a1 a2 a3))
          go_roundw
          case rel => exact ⟨j + 1, _, by omega, by go_num, rfl, Lib.hid (by rw [HE.out]; exact hv.out.kept HX7.out), Lib.hid (below_thenB hb.out hb.out.size HX7.out)⟩
          case measure => simp [intOf]; omega
        · have f1 : (p.vault == V) = true := by rw [beq_iff_eq]; exact hvt
          have HE : Hid (((cnt es).take (j + 1)).filterMap (propG V) = U ++ [p]) := Lib.hid (by rw [HST.out, propG_yes HKI.out hd hvt, ← HU.out]; rfl)
          clear hvt
          go_wp2_with (first
            | ((with_reducible show wpList _ _ _ (⟨some 16, _, _, _, _, _⟩ :: _) _ _); refine wpList_loadv _ rfl 33 (.tmp 15) rfl 6 (by kernel_rfl) g (o + j * 6) (enC x AB m d) (by go_simp) HA.out rfl ?_)
            | ((with_reducible show wpList _ _ _ (⟨some 7, _, _, _, _, _⟩ :: _) _ _); refine wpList_alloc _ rfl 33 rfl enZ enZero ?_; intro w3 a1 a2 a3; have HV3 := Lib.hid a1; have HX3 := Lib.hid a2; clear a1 a2 a3)
            | ((with_reducible show wpList _ _ _ (⟨none, _, _, _, _, _⟩ :: _) _ _); refine wpList_storev _ rfl 33 (.tmp 7) (.tmp 16) rfl 6 (by kernel_rfl) wx.heap.size 0 _ enZ (enC x AB m d) rfl rfl HV3.out rfl (one_en x AB m d) (by decide) ?_; intro w4 a1 a2 a3; have q0 := a1.get (j := 0) rfl; have q1 := a1.get (j := 1) rfl; have q2 := a1.get (j := 2) rfl; have q4 := a1.get (j := 4) rfl; have HX4 : Hid (Below wx.heap.size wx w4) := Lib.hid (low_kp HX3.out a2 (fun i hi e => by omega)); clear a1 a2 a3)
            | (go_at_call 35; refine (HDC.out w4 (HBS.out.kept HX4.out)).mono ?_; rintro e w5 ⟨x1, _, x2⟩; obtain ⟨cz, rfl, z1⟩ := x1 p hd; have HR5 := Lib.hid z1; have HX5 := Lib.hid (below_then HX4.out x2); obtain ⟨⟨A1, n1, c1, A2, n2, c2', rfl, _⟩, _⟩ := z1; clear x1 x2)
            | ((with_reducible show wpList _ _ _ (⟨some 8, _, _, _, _, _⟩ :: _) _ _); refine wpList_alloc _ rfl 40 rfl ppZ rpZero ?_; intro w6 a1 a2 a3; have HV6 := Lib.hid a1; have HR6 := Lib.hid (stay_ppt _ _ _ _ HR5.out a2); have HX6 := Lib.hid (below_then HX5.out a2); have HLE := Lib.hid HX5.out.size; clear a1 a2 a3)
            | ((with_reducible show wpList _ _ _ (⟨none, _, _, _, _, _⟩ :: _) _ _); refine wpList_storev _ rfl 40 (.tmp 8) (.tmp 28) rfl 5 (by kernel_rfl) w5.heap.size 0 _ ppZ (ppC p A1 n1 c1 A2 n2 c2') rfl rfl HV6.out rfl (one_pp _ _ _ _ _ _ _) (by decide) ?_; intro w7 a1 a2 a3; rw [splice_pp ppZ _ (by rfl)] at a1; have q9 := a1.get (j := 2) rfl; have HP7 := Lib.hid a1; have HR7 := Lib.hid (HR6.out.kp a2 (fun i t l hl ht => hl.ne HV6.out (by rcases ht with rfl | rfl <;> decide))); have HX7 : Hid (Below wx.heap.size wx w7) := Lib.hid (low_kp HX6.out a2 (fun i hi e => by have := HLE.out; omega)); clear a1 a2 a3)
            | ((with_reducible show wpList _ _ _ (⟨some 38, _, _, _, _, _⟩ :: _) _ _); refine wpList_loadv _ rfl 40 (.tmp 8) rfl 5 (by kernel_rfl) w5.heap.size 0 (ppC p A1 n1 c1 A2 n2 c2') rfl (BL.all HP7.out) rfl ?_)
            | ((with_reducible show wpList _ _ _ (⟨some 39, _, _, _, _, _⟩ :: _) _ _); refine wpList_bslice _ rfl 89 40 1 _ rfl #[(0, .agg (ppC p A1 n1 c1 A2 n2 c2').toArray)] (by rw [List.map_toArray]; rfl) (ppC p A1 n1 c1 A2 n2 c2') (bslRp1 _ _ _ _ _ _ _ _) ?_; intro w8 a1 a2 a3; have HG8 := Lib.hid a1; have HR8 := Lib.hid (stay_ppt _ _ _ _ HR7.out a2); have HX8 := Lib.hid (below_then HX7.out a2); clear a1 a2 a3)
            | ((with_reducible show wpList _ _ _ (⟨some 40, _, _, _, _, _⟩ :: _) _ _); obtain ⟨iS, i1, i2, i3, i4⟩ := info_some infoRp; obtain ⟨css, hC1, hC2, hC3, hC4, hC5⟩ := hv.out.kept HX8.out; refine wpList_appRW _ rfl (.tmp 37) (.tmp 39) 89 40 5 iS _ rfl Tryz.underlying89 i1 i2 i3 rfl v U.length _ rfl hC4 w7.heap.size (ppC p A1 n1 c1 A2 n2 c2') rfl HG8.out rfl (one_pp _ _ _ _ _ _ _) (by rw [i4]; have := HUL.out; omega) (by have := HUL.out; omega) ?_; intro v' w9 ap; have HO9 := Lib.hid (OLn.pushP rfl rfl HR8.out (Nat.le_trans hb.out.size HX8.out.size) hC1 hC2 hC3 hC5 hC4 ap); have HX9 : Hid (Below w2.heap.size w2 w9) := Lib.hid (low_kp (below_thenB hb.out hb.out.size HX8.out) ap.kp (fun i hi e => by have := hC5 i e; omega)); obtain ⟨A9, c9, e9, _⟩ := ap.row.form; subst e9; clear i1 i2 i3 i4 hC1 hC2 hC3 hC4 hC5 ap))
          go_roundw
          case rel => exact ⟨j + 1, _, by omega, by go_num, rfl, Lib.hid (by rw [HE.out]; exact HO9.out), HX9⟩
          case measure => simp [intOf]; omega
    · obtain rfl : j = N := by omega
      have HE : Hid (U = ofL (dd es) V) := Lib.hid (by rw [HU.out, take_end HN.out.symm, ← prop_of]; rfl)
      obtain ⟨A9, c9, e9, l9⟩ := hv.out.ls (b := 72) (by have := HUL.out; unfold lim; omega)
      subst e9
      have HL9 := Lib.hid l9
      clear l9
      go_wp2_with fail
      go_ret
      rw [← HE.out]
      exact ⟨A9, c9, rfl, HL9.out, below_thenB HB2.out HB2.out.size hb.out⟩
end Go.Proofs.YtfonbliomokffaaGreat
