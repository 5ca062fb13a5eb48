/- PlacementBest: the walk. -/
import Derived.Test.YtklfficlegfhjaaKkm
import Derived.Test.YtklfficlegfhjaaC7
namespace Go.Proofs.Ytklfficlegfhjaa
open Go Go.RowKit Go.Shelf Gf Sha

theorem bests_few {n m p : Nat} (h : fewB n m p = true) : p ≤ 40 := by
  unfold fewB at h
  simp at h
  omega
theorem best2 {ws : List Wt} {hs : List Hd} {ps more : List Pl} {b : Int} (hne : ws ≠ []) (h1 : (assignV ws hs ps b).2 = 0) (h2 : checkE ws hs (ps ++ more) = 0) :
    leastE ws (assignV ws hs ps b).1 = (leastI ws (assignV ws hs ps b).1, 0) ∧ leastE ws (ps ++ more) = (leastI ws (ps ++ more), 0) ∧ leastI ws (ps ++ more) ≤ leastI ws (assignV ws hs ps b).1 := by
  have hok := check_ok.1 h2
  refine ⟨?_, ?_, assign_best hok hne h1⟩
  · have hc : checkE ws hs ps = 0 := by
      by_cases hc : checkE ws hs ps = 0
      · exact hc
      · unfold assignV at h1
        rw [if_pos hc] at h1
        exact absurd h1 hc
    have h3 := check_ok.1 (assign_keeps (check_ok.1 hc) h1).1
    unfold leastE
    rw [h3.w, h3.n]
    cases ws with
    | nil => exact absurd rfl hne
    | cons w r => rfl
  · unfold leastE
    rw [hok.w, hok.n]
    cases ws with
    | nil => exact absurd rfl hne
    | cons w r => rfl
theorem both_own {w : World} {v : Value} {p k j : Nat} {ps more : List Pl} {css dss : List (List Value)} (h : RW w 51 3 v (0 + p + k) ([] ++ css.flatten ++ dss.flatten)) (hl : (ps ++ more).length = j ∧ j = p + k ∧ j ≤ 80) (h1 : css.flatten = ps.flatMap plL) (h2 : dss.flatten = more.flatMap plL) (o1 : ∀ x ∈ ps, okPl x) (o2 : ∀ x ∈ more, okPl x) :
    ∃ A c, v = .slice A j c ∧ LS rPl 3 32 w A j c (ps ++ more) := by
  obtain ⟨hj, hj2, hj3⟩ := hl
  rw [h1, h2, List.nil_append, ← List.flatMap_append, Nat.zero_add, ← hj2, ← hj] at h
  rw [← hj]
  have ho : OwnP w 0 v (ps ++ more) := ⟨h, fun _ _ => Nat.zero_le _⟩
  exact ho.ls (fun x hx => (List.mem_append.1 hx).elim (o1 x) (o2 x)) (by unfold lim; omega)
set_option maxRecDepth 100000 in
set_option maxHeartbeats 4000000 in
theorem best_walk (A : Option Addr) (n c : Nat) (ws : List Wt) (B : Option Addr) (m d : Nat) (hs : List Hd) (P : Option Addr) (p q : Nat) (ps : List Pl) (M : Option Addr) (k l : Nat) (more : List Pl) (w : World) (h : LS rWt 4 40 w A n c ws) (hh : LS rHd 3 24 w B m d hs) (hp : LS rPl 3 32 w P p q ps) (hm : LS rPl 3 32 w M k l more) :
    Calls Try.prog 4 #[.slice A n c, .slice B m d, .slice P p q, .slice M k l] w fun e w' => e = .returned (.bool true) ∧ Below w.heap.size w w' := by
  have H := Lib.hid h
  have HH := Lib.hid hh
  have HP := Lib.hid hp
  have HLN := Lib.hid h.1
  obtain ⟨css, s1, s2, s3, s4⟩ := hp.src (P := Try.prog) (len_pl (w := w)) ones_pl Try.underlying24
  obtain ⟨dss, t1, t2, t3, t4⟩ := hm.src (P := Try.prog) (len_pl (w := w)) ones_pl Try.underlying24
  have HCP := Lib.hid (css_pl s1 s3)
  have HCM := Lib.hid (css_pl t1 t3)
  have HSP := Lib.hid s4
  have HSM := Lib.hid t4
  have HOP := Lib.hid (LS.okPl hp)
  have HOM := Lib.hid (LS.okPl hm)
  have HLL : Hid ((ps ++ more).length = p + k) := Lib.hid (by rw [List.length_append, hp.1, hm.1])
  obtain ⟨j, hj⟩ : ∃ j, j = p + k := ⟨_, rfl⟩
  have HJ := Lib.hid hj
  clear hj
  clear h hh hp hm s1 s2 s3 s4 t1 t2 t3 t4
  cases f1 : fewB n m p with
  | false =>
    go_enter Try.func4, Try.ntmps4
    go_wp2_with (first
      | (go_at_call 6; refine (few_any A _ c B m d P p q w).mono ?_; rintro e w1 ⟨rfl, hw⟩; rw [hw, f1]; clear hw w1)
      | (go_at_call 8; refine (awake_any w).mono ?_; rintro e w1 ⟨rfl, b1⟩; have HB1 := Lib.hid b1; clear b1))
    go_ret
    exact ⟨rfl, HB1.out⟩
  | true =>
    have HPL := Lib.hid (bests_few f1)
    have HPK : Hid (p ≤ 1000) := Lib.hid (by have := HPL.out; omega)
    cases f2 : decide ((k : Int) > 40) with
    | true =>
      have f3 : decide (k > 40) = true := decide_eq_true (by have := of_decide_eq_true f2; omega)
      go_enter Try.func4, Try.ntmps4
      go_wp2_with (first
        | (go_at_call 6; refine (few_any A _ c B m d P p q w).mono ?_; rintro e w1 ⟨rfl, hw⟩; rw [hw, f1]; clear hw w1)
        | (go_at_call 8; refine (awake_any w).mono ?_; rintro e w1 ⟨rfl, b1⟩; have HB1 := Lib.hid b1; clear b1))
      go_ret
      exact ⟨rfl, HB1.out⟩
    | false =>
      have hk := of_decide_eq_false f2
      have f3 : decide (k > 40) = false := decide_eq_false (by omega)
      have HML : Hid (k ≤ 40) := Lib.hid (by omega)
      have HSL : Hid ((ps ++ more).length = j ∧ j = p + k ∧ j ≤ 80) := Lib.hid ⟨by rw [HLL.out, HJ.out], HJ.out, by have := HPL.out; have := HJ.out; omega⟩
      clear hk
      by_cases h5 : n = 0
      · subst h5
        go_enter Try.func4, Try.ntmps4
        go_wp2_with (first
          | (go_at_call 6; refine (few_any A _ c B m d P p q w).mono ?_; rintro e w1 ⟨rfl, hw⟩; rw [hw, f1]; clear hw w1)
          | (go_at_call 8; refine (awake_any w).mono ?_; rintro e w1 ⟨rfl, b1⟩; have HB1 := Lib.hid b1; clear b1))
        go_ret
        exact ⟨rfl, HB1.out⟩
      · have f5 : ((n : Int) == 0) = false := by simpa using h5
        have f6 : (n == 0) = false := by simpa using h5
        have f7 : decide ((n : Int) = 0) = false := by simpa using h5
        have f8 : decide (n = 0) = false := by simpa using h5
        have hne : ws ≠ [] := fun e => h5 (by rw [← HLN.out, e]; rfl)
        have hb2 := best2 (ps := ps) (more := more) (hs := hs) (b := 600) hne
        obtain ⟨X, hX⟩ : ∃ X, X = assignV ws hs ps 600 := ⟨_, rfl⟩
        have HX := Lib.hid hX
        obtain ⟨E, hE⟩ : ∃ E, E = checkE ws hs (ps ++ more) := ⟨_, rfl⟩
        have HE := Lib.hid hE
        rw [← hX, ← hE] at hb2
        obtain ⟨XL, F1⟩ := X
        clear hE hX hne h5
        have g1 : ((0 : Int) != 0) = false := rfl
        have g2 : ((0 : Int) == 0) = true := rfl
        by_cases h1 : F1 = 0
        · subst h1
          by_cases h2 : E = 0
          · subst h2
            obtain ⟨k1, k2, k3⟩ := hb2 rfl rfl
            simp only at k1 k2 k3
            obtain ⟨L1, hL1⟩ : ∃ L, L = leastI ws XL := ⟨_, rfl⟩
            obtain ⟨L2, hL2⟩ : ∃ L, L = leastI ws (ps ++ more) := ⟨_, rfl⟩
            rw [← hL1] at k1 k3
            rw [← hL2] at k2 k3
            have HLE := Lib.hid k1
            have HLF := Lib.hid k2
            have f9 : decide (L1 ≥ L2) = true := decide_eq_true k3
            clear hb2 k1 k2 k3 hL1 hL2
            go_enter Try.func4, Try.ntmps4
            go_wp2_with (first
              | (go_at_call 6; refine (few_any A _ c B m d P p q w).mono ?_; rintro e w1 ⟨rfl, hw⟩; rw [hw, f1]; clear hw w1)
              | (go_at_call 12; refine (assign_any A n c ws B m d hs P p q ps 600 w H.out HH.out HP.out HPK.out).mono ?_; rintro e w1 ⟨A1, n1, c1, rfl, r1, r2⟩; rw [← HX.out] at r1 ⊢; have HX1 := Lib.hid r1; have HB1 := Lib.hid r2; clear r1 r2)
              | ((with_reducible show wpList _ _ _ (⟨some 39, _, _, _, _, _⟩ :: _) _ _); refine wpList_bslice _ rfl 24 51 0 _ rfl #[] (by rw [List.map_toArray]; rfl) [] (bsl0_pl _) ?_; intro w2 a1 a2 a3; have HG2 := Lib.hid a1; have HB2 := Lib.hid (below_then HB1.out a2); have HC2 := Lib.hid a2; clear a1 a2 a3)
              | ((with_reducible show wpList _ _ _ (⟨some 41, _, _, _, _, _⟩ :: _) _ _); obtain ⟨iS, i1, i2, i3, i4⟩ := info_some infoPl; refine wpList_appX _ rfl (.tmp 39) (.tmp 40) 24 51 3 iS _ rfl Try.underlying24 i1 i2 i3 rfl _ 0 [] rfl (RW.of_blk (n := 0) HG2.out (by simp) (by decide)) _ p _ rfl (HSP.out _ HB2.out) (by rw [i4]; have := HPL.out; omega) (by have := HPL.out; omega) ?_; intro v3 w3 ap; have HAP := Lib.hid ap; have HC3 : Hid (Below w1.heap.size w1 w3) := Lib.hid (((Kp.of_below (S := fun _ => False) HC2.out).after ap.kp (fun i hi e => by have e' : w1.heap.size = i := Option.some.inj e; omega)).below (Nat.le_refl _) (fun _ h => h.elim)); have HB3 := Lib.hid (below_then HB1.out HC3.out); have HO3 : Hid (∀ b, v3.ownBlock = some b → w1.heap.size ≤ b) := Lib.hid (fun b hb => (ap.own b hb).elim (fun e => by cases e; exact Nat.le_refl _) (fun e => by have := HC2.out.size; omega)); clear ap i1 i2 i3 i4)
              | ((with_reducible show wpList _ _ _ (⟨some 43, _, _, _, _, _⟩ :: _) _ _); obtain ⟨iS, i1, i2, i3, i4⟩ := info_some infoPl; refine wpList_appX _ rfl (.tmp 41) (.tmp 42) 24 51 3 iS _ rfl Try.underlying24 i1 i2 i3 rfl v3 _ _ rfl HAP.out.row _ k _ rfl (HSM.out _ HB3.out) (by rw [i4]; have := HPL.out; have := HML.out; omega) (by have := HPL.out; have := HML.out; omega) ?_; intro v4 w4 ap; have HC4 : Hid (Below w1.heap.size w1 w4) := Lib.hid (((Kp.of_below (S := fun _ => False) HC3.out).after ap.kp (fun i hi e => by have := HO3.out i e; omega)).below (Nat.le_refl _) (fun _ h => h.elim)); have HB4 := Lib.hid (below_then HB1.out HC4.out); have HX4 := Lib.hid (HX1.out.kept stay_pl HC4.out); obtain ⟨A4, c4, e4, r4⟩ := both_own ap.row HSL.out HCP.out HCM.out HOP.out HOM.out; have HL4 := Lib.hid r4; subst e4; clear ap i1 i2 i3 i4 r4)
              | (go_at_call 7; refine (check_any A n c ws B m d hs A4 j c4 (ps ++ more) w4 (H.out.kept stay_wt HB4.out) (HH.out.kept stay_hd HB4.out) HL4.out (by have := HSL.out.2.2; omega)).mono ?_; rintro e w5 ⟨rfl, r2⟩; rw [← HE.out]; have HB5 := Lib.hid (below_then HB4.out r2); have HX5 := Lib.hid (HX4.out.kept stay_pl r2); have HL5 := Lib.hid (HL4.out.kept stay_pl r2); clear r2)
              | (go_at_call 14; (with_reducible show Calls _ _ #[.slice A n c, .slice A1 n1 c1] _ _); refine (least_any A n c ws A1 n1 c1 XL w5 (H.out.kept stay_wt HB5.out) HX5.out).mono ?_; rintro e w6 ⟨rfl, r2⟩; rw [HLE.out]; have HB6 := Lib.hid (below_then HB5.out r2); have HL6 := Lib.hid (HL5.out.kept stay_pl r2); clear r2)
              | (go_at_call 14; (with_reducible show Calls _ _ #[.slice A n c, .slice A4 j c4] _ _); refine (least_any A n c ws A4 j c4 (ps ++ more) w6 (H.out.kept stay_wt HB6.out) HL6.out).mono ?_; rintro e w7 ⟨rfl, r2⟩; rw [HLF.out]; have HB7 := Lib.hid (below_then HB6.out r2); clear r2)
              | (go_at_call 8; refine (awake_any w7).mono ?_; rintro e w8 ⟨rfl, r2⟩; have HB8 := Lib.hid (below_then HB7.out r2); clear r2))
            go_ret
            exact ⟨rfl, HB8.out⟩
          · have f10 : (E != 0) = true := by simpa using h2
            clear hb2 h2
            go_enter Try.func4, Try.ntmps4
            go_wp2_with (first
              | (go_at_call 6; refine (few_any A _ c B m d P p q w).mono ?_; rintro e w1 ⟨rfl, hw⟩; rw [hw, f1]; clear hw w1)
              | (go_at_call 12; refine (assign_any A n c ws B m d hs P p q ps 600 w H.out HH.out HP.out HPK.out).mono ?_; rintro e w1 ⟨A1, n1, c1, rfl, r1, r2⟩; rw [← HX.out] at r1 ⊢; have HX1 := Lib.hid r1; have HB1 := Lib.hid r2; clear r1 r2)
              | ((with_reducible show wpList _ _ _ (⟨some 39, _, _, _, _, _⟩ :: _) _ _); refine wpList_bslice _ rfl 24 51 0 _ rfl #[] (by rw [List.map_toArray]; rfl) [] (bsl0_pl _) ?_; intro w2 a1 a2 a3; have HG2 := Lib.hid a1; have HB2 := Lib.hid (below_then HB1.out a2); have HC2 := Lib.hid a2; clear a1 a2 a3)
              | ((with_reducible show wpList _ _ _ (⟨some 41, _, _, _, _, _⟩ :: _) _ _); obtain ⟨iS, i1, i2, i3, i4⟩ := info_some infoPl; refine wpList_appX _ rfl (.tmp 39) (.tmp 40) 24 51 3 iS _ rfl Try.underlying24 i1 i2 i3 rfl _ 0 [] rfl (RW.of_blk (n := 0) HG2.out (by simp) (by decide)) _ p _ rfl (HSP.out _ HB2.out) (by rw [i4]; have := HPL.out; omega) (by have := HPL.out; omega) ?_; intro v3 w3 ap; have HAP := Lib.hid ap; have HC3 : Hid (Below w1.heap.size w1 w3) := Lib.hid (((Kp.of_below (S := fun _ => False) HC2.out).after ap.kp (fun i hi e => by have e' : w1.heap.size = i := Option.some.inj e; omega)).below (Nat.le_refl _) (fun _ h => h.elim)); have HB3 := Lib.hid (below_then HB1.out HC3.out); have HO3 : Hid (∀ b, v3.ownBlock = some b → w1.heap.size ≤ b) := Lib.hid (fun b hb => (ap.own b hb).elim (fun e => by cases e; exact Nat.le_refl _) (fun e => by have := HC2.out.size; omega)); clear ap i1 i2 i3 i4)
              | ((with_reducible show wpList _ _ _ (⟨some 43, _, _, _, _, _⟩ :: _) _ _); obtain ⟨iS, i1, i2, i3, i4⟩ := info_some infoPl; refine wpList_appX _ rfl (.tmp 41) (.tmp 42) 24 51 3 iS _ rfl Try.underlying24 i1 i2 i3 rfl v3 _ _ rfl HAP.out.row _ k _ rfl (HSM.out _ HB3.out) (by rw [i4]; have := HPL.out; have := HML.out; omega) (by have := HPL.out; have := HML.out; omega) ?_; intro v4 w4 ap; have HC4 : Hid (Below w1.heap.size w1 w4) := Lib.hid (((Kp.of_below (S := fun _ => False) HC3.out).after ap.kp (fun i hi e => by have := HO3.out i e; omega)).below (Nat.le_refl _) (fun _ h => h.elim)); have HB4 := Lib.hid (below_then HB1.out HC4.out); have HX4 := Lib.hid (HX1.out.kept stay_pl HC4.out); obtain ⟨A4, c4, e4, r4⟩ := both_own ap.row HSL.out HCP.out HCM.out HOP.out HOM.out; have HL4 := Lib.hid r4; subst e4; clear ap i1 i2 i3 i4 r4)
              | (go_at_call 7; refine (check_any A n c ws B m d hs A4 j c4 (ps ++ more) w4 (H.out.kept stay_wt HB4.out) (HH.out.kept stay_hd HB4.out) HL4.out (by have := HSL.out.2.2; omega)).mono ?_; rintro e w5 ⟨rfl, r2⟩; rw [← HE.out]; have HB5 := Lib.hid (below_then HB4.out r2); have HX5 := Lib.hid (HX4.out.kept stay_pl r2); have HL5 := Lib.hid (HL4.out.kept stay_pl r2); clear r2)
              | (go_at_call 14; (with_reducible show Calls _ _ #[.slice A n c, .slice A1 n1 c1] _ _); refine (least_any A n c ws A1 n1 c1 XL w5 (H.out.kept stay_wt HB5.out) HX5.out).mono ?_; rintro e w6 ⟨rfl, r2⟩; rw [HLE.out]; have HB6 := Lib.hid (below_then HB5.out r2); have HL6 := Lib.hid (HL5.out.kept stay_pl r2); clear r2)
              | (go_at_call 14; (with_reducible show Calls _ _ #[.slice A n c, .slice A4 j c4] _ _); refine (least_any A n c ws A4 j c4 (ps ++ more) w6 (H.out.kept stay_wt HB6.out) HL6.out).mono ?_; rintro e w7 ⟨rfl, r2⟩; rw [HLF.out]; have HB7 := Lib.hid (below_then HB6.out r2); clear r2)
              | (go_at_call 8; refine (awake_any w5).mono ?_; rintro e w8 ⟨rfl, r2⟩; have HB8 := Lib.hid (below_then HB5.out r2); clear r2))
            go_ret
            exact ⟨rfl, HB8.out⟩
        · have f10 : (F1 != 0) = true := by simpa using h1
          clear hb2 h1
          go_enter Try.func4, Try.ntmps4
          go_wp2_with (first
            | (go_at_call 6; refine (few_any A _ c B m d P p q w).mono ?_; rintro e w1 ⟨rfl, hw⟩; rw [hw, f1]; clear hw w1)
            | (go_at_call 12; refine (assign_any A n c ws B m d hs P p q ps 600 w H.out HH.out HP.out HPK.out).mono ?_; rintro e w1 ⟨A1, n1, c1, rfl, r1, r2⟩; rw [← HX.out] at r1 ⊢; have HX1 := Lib.hid r1; have HB1 := Lib.hid r2; clear r1 r2)
            | ((with_reducible show wpList _ _ _ (⟨some 39, _, _, _, _, _⟩ :: _) _ _); refine wpList_bslice _ rfl 24 51 0 _ rfl #[] (by rw [List.map_toArray]; rfl) [] (bsl0_pl _) ?_; intro w2 a1 a2 a3; have HG2 := Lib.hid a1; have HB2 := Lib.hid (below_then HB1.out a2); have HC2 := Lib.hid a2; clear a1 a2 a3)
            | ((with_reducible show wpList _ _ _ (⟨some 41, _, _, _, _, _⟩ :: _) _ _); obtain ⟨iS, i1, i2, i3, i4⟩ := info_some infoPl; refine wpList_appX _ rfl (.tmp 39) (.tmp 40) 24 51 3 iS _ rfl Try.underlying24 i1 i2 i3 rfl _ 0 [] rfl (RW.of_blk (n := 0) HG2.out (by simp) (by decide)) _ p _ rfl (HSP.out _ HB2.out) (by rw [i4]; have := HPL.out; omega) (by have := HPL.out; omega) ?_; intro v3 w3 ap; have HAP := Lib.hid ap; have HC3 : Hid (Below w1.heap.size w1 w3) := Lib.hid (((Kp.of_below (S := fun _ => False) HC2.out).after ap.kp (fun i hi e => by have e' : w1.heap.size = i := Option.some.inj e; omega)).below (Nat.le_refl _) (fun _ h => h.elim)); have HB3 := Lib.hid (below_then HB1.out HC3.out); have HO3 : Hid (∀ b, v3.ownBlock = some b → w1.heap.size ≤ b) := Lib.hid (fun b hb => (ap.own b hb).elim (fun e => by cases e; exact Nat.le_refl _) (fun e => by have := HC2.out.size; omega)); clear ap i1 i2 i3 i4)
            | ((with_reducible show wpList _ _ _ (⟨some 43, _, _, _, _, _⟩ :: _) _ _); obtain ⟨iS, i1, i2, i3, i4⟩ := info_some infoPl; refine wpList_appX _ rfl (.tmp 41) (.tmp 42) 24 51 3 iS _ rfl Try.underlying24 i1 i2 i3 rfl v3 _ _ rfl HAP.out.row _ k _ rfl (HSM.out _ HB3.out) (by rw [i4]; have := HPL.out; have := HML.out; omega) (by have := HPL.out; have := HML.out; omega) ?_; intro v4 w4 ap; have HC4 : Hid (Below w1.heap.size w1 w4) := Lib.hid (((Kp.of_below (S := fun _ => False) HC3.out).after ap.kp (fun i hi e => by have := HO3.out i e; omega)).below (Nat.le_refl _) (fun _ h => h.elim)); have HB4 := Lib.hid (below_then HB1.out HC4.out); have HX4 := Lib.hid (HX1.out.kept stay_pl HC4.out); obtain ⟨A4, c4, e4, r4⟩ := both_own ap.row HSL.out HCP.out HCM.out HOP.out HOM.out; have HL4 := Lib.hid r4; subst e4; clear ap i1 i2 i3 i4 r4)
            | (go_at_call 7; refine (check_any A n c ws B m d hs A4 j c4 (ps ++ more) w4 (H.out.kept stay_wt HB4.out) (HH.out.kept stay_hd HB4.out) HL4.out (by have := HSL.out.2.2; omega)).mono ?_; rintro e w5 ⟨rfl, r2⟩; rw [← HE.out]; have HB5 := Lib.hid (below_then HB4.out r2); have HX5 := Lib.hid (HX4.out.kept stay_pl r2); have HL5 := Lib.hid (HL4.out.kept stay_pl r2); clear r2)
            | (go_at_call 14; (with_reducible show Calls _ _ #[.slice A n c, .slice A1 n1 c1] _ _); refine (least_any A n c ws A1 n1 c1 XL w5 (H.out.kept stay_wt HB5.out) HX5.out).mono ?_; rintro e w6 ⟨rfl, r2⟩; rw [HLE.out]; have HB6 := Lib.hid (below_then HB5.out r2); have HL6 := Lib.hid (HL5.out.kept stay_pl r2); clear r2)
            | (go_at_call 14; (with_reducible show Calls _ _ #[.slice A n c, .slice A4 j c4] _ _); refine (least_any A n c ws A4 j c4 (ps ++ more) w6 (H.out.kept stay_wt HB6.out) HL6.out).mono ?_; rintro e w7 ⟨rfl, r2⟩; rw [HLF.out]; have HB7 := Lib.hid (below_then HB6.out r2); clear r2)
            | (go_at_call 8; refine (awake_any w4).mono ?_; rintro e w8 ⟨rfl, r2⟩; have HB8 := Lib.hid (below_then HB4.out r2); clear r2))
          go_ret
          exact ⟨rfl, HB8.out⟩
end Go.Proofs.Ytklfficlegfhjaa
