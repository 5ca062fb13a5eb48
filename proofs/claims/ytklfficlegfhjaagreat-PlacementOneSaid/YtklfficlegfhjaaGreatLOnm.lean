/- PlacementOne: the walk. -/
import Derived.Test.YtklfficlegfhjaaGreatKkm
import Derived.Test.YtklfficlegfhjaaGreatLfm
import Derived.Test.YtklfficlegfhjaaGreatLum
namespace Go.Proofs.YtklfficlegfhjaaGreat
open Go Go.RowKit Go.Shelf Gf Sha

theorem ones_few {n m p : Nat} (h : fewB n m p = true) : m ≤ 14 ∧ p ≤ 40 := by
 unfold fewB at h
 simp at h
 omega
set_option maxRecDepth 100000 in
set_option maxHeartbeats 4000000 in
theorem law_one_walk (A : Option Addr) (n c : Nat) (ws : List Wt) (B : Option Addr) (m d : Nat) (hs : List Hd) (P : Option Addr) (p q : Nat) (ps : List Pl) (s : List UInt8) (w : World) (h : LS rWt 4 40 w A n c ws) (hh : LS rHd 3 24 w B m d hs) (hp : LS rPl 3 32 w P p q ps) :
  Calls Tryz.prog 4 #[.slice A n c, .slice B m d, .slice P p q, .string (strB s)] w fun e w' => e = .returned (.bool true) ∧ Below w.heap.size w w' := by
 have H := Lib.hid h
 have HH := Lib.hid hh
 have HP := Lib.hid hp
 have HLN := Lib.hid h.1
 have HPS := Lib.hid hp.1
 have HOKW := Lib.hid (fun (i : Nat) (x : Wt) (hi : ws[i]? = some x) => LS.wt_ok h hi)
 clear h hh hp
 cases f1 : fewB n m p with
 | false =>
  go_enter Tryz.func4, Tryz.ntmps4
  go_wp2_with (first
   | (go_at_call 9; refine (few_any A n c B m d P p q w).mono ?_; rintro e w1 ⟨rfl, hw⟩; rw [hw, f1]; clear hw w1)
   | (go_at_call 10; refine (awake_any w).mono ?_; rintro e w1 ⟨rfl, b1⟩; have HB1 := Lib.hid b1; clear b1))
  go_ret
  exact ⟨rfl, HB1.out⟩
 | true =>
  have HPL := Lib.hid (ones_few f1)
  have HPM : Hid (p ≤ 100000) := Lib.hid (by have := HPL.out.2; omega)
  have HPK : Hid (p ≤ 1000) := Lib.hid (by have := HPL.out.2; omega)
  have HMK : Hid (m ≤ 1000) := Lib.hid (by have := HPL.out.1; omega)
  obtain ⟨E, hE⟩ : ∃ E, E = checkE ws hs ps := ⟨_, rfl⟩
  have HE := Lib.hid hE
  have g1 : ((0 : Int) != 0) = false := rfl
  have g2 : ((0 : Int) == 0) = true := rfl
  have g4 : ((4 : Int) == 4) = true := rfl
  by_cases h0 : E = 0
  ·
   have hok := check_ok.1 (hE.symm.trans h0)
   rcases fdI_cases ws s with ⟨hz, hwn⟩ | ⟨i, y, hz, hy, hwy⟩
   ·
    have HO : Hid (oneV ws hs ps s = ([], 4)) := Lib.hid (by unfold oneV; rw [if_neg (by rw [← hE, h0]; exact fun h => h rfl), hwn])
    have HZ := Lib.hid hz
    clear hE hok hz hwn
    subst h0
    go_enter Tryz.func4, Tryz.ntmps4
    go_wp2_with (first
     | (go_at_call 9; refine (few_any A n c B m d P p q w).mono ?_; rintro e w1 ⟨rfl, hw⟩; rw [hw, f1]; clear hw w1)
     | (go_at_call 16; refine (one_any A n c ws B m d hs P p q ps s w H.out HH.out HP.out HPK.out).mono ?_; rintro e w1 ⟨A1, n1, c1, rfl, r1, r2⟩; rw [HO.out] at r1 ⊢; have hz := r1.1; cases hz; have HB1 := Lib.hid r2; have HC1 : Hid (Below w1.heap.size w1 w1) := Lib.hid (Below.refl _ _); clear r1 r2)
     | (go_at_call 13; refine (of_rwt A n c ws w1 (H.out.kept stay_wt HB1.out)).mono ?_; rintro e w2 ⟨A2, c2, rfl, r1, r2⟩; have HW2 := Lib.hid r1; have HB2 := Lib.hid (below_then HB1.out r2); have HC2 := Lib.hid (below_then HC1.out r2); clear r1 r2)
     | (go_at_call 14; refine (of_rhd B m d hs w2 (HH.out.kept stay_hd HB2.out)).mono ?_; rintro e w3 ⟨A3, c3, rfl, r1, r2⟩; have HH3 := Lib.hid r1; have HW3 := Lib.hid (HW2.out.kept stay_wt r2); have HB3 := Lib.hid (below_then HB2.out r2); have HC3 := Lib.hid (below_then HC2.out r2); clear r1 r2)
     | (go_at_call 15; (with_reducible show Calls _ _ #[.slice P p q] _ _); refine (of_rpl P p q ps w3 (HP.out.kept stay_pl HB3.out)).mono ?_; rintro e w4 ⟨A4, c4, rfl, r1, r2⟩; have HP4 := Lib.hid r1; have HW4 := Lib.hid (HW3.out.kept stay_wt r2); have HH4 := Lib.hid (HH3.out.kept stay_hd r2); have HB4 := Lib.hid (below_then HB3.out r2); have HC4 := Lib.hid (below_then HC3.out r2); clear r1 r2)
     | (go_at_call 12; refine (rcheck_any A2 n c2 ws A3 m c3 hs A4 p c4 ps w4 HW4.out HH4.out HP4.out HPM.out).mono ?_; rintro e w5 ⟨rfl, r2⟩; rw [← HE.out]; have HP5 := Lib.hid (HP4.out.kept stay_pl r2); have HW5 := Lib.hid (HW4.out.kept stay_wt r2); have HH5 := Lib.hid (HH4.out.kept stay_hd r2); have HB5 := Lib.hid (below_then HB4.out r2); have HC5 := Lib.hid (below_then HC4.out r2); clear r2)
     | (go_at_call 17; refine (rfind_any A2 n c2 ws s w5 HW5.out).mono ?_; rintro e w6 ⟨rfl, hw⟩; rw [hw, HZ.out]; clear hw w6)
     | (go_at_call 10; refine (awake_any w5).mono ?_; rintro e w6 ⟨rfl, r2⟩; have HB6 := Lib.hid (below_then HB5.out r2); clear r2)
     | fail)
    go_ret
    exact ⟨rfl, HB6.out⟩
   ·
    obtain ⟨FL, hFL⟩ : ∃ L, L = freeL ws hs ps y := ⟨_, rfl⟩
    obtain ⟨WL, hWL⟩ : ∃ L, L = withoutL y ps := ⟨_, rfl⟩
    obtain ⟨NF, hNF⟩ : ∃ N, N = FL.length := ⟨_, rfl⟩
    obtain ⟨NW, hNW⟩ : ∃ N, N = WL.length := ⟨_, rfl⟩
    obtain ⟨AL, hAL⟩ : ∃ L, L = addL y ps (FL.take (min NF NW)) := ⟨_, rfl⟩
    obtain ⟨NA, hNA⟩ : ∃ N, N = AL.length := ⟨_, rfl⟩
    obtain ⟨SL, hSL⟩ : ∃ L, L = sortedL ws AL := ⟨_, rfl⟩
    have HO : Hid (oneV ws hs ps s = (SL, 0)) := Lib.hid (by unfold oneV; rw [if_neg (by rw [← hE, h0]; exact fun h => h rfl), hwy, hSL, hAL, hNF, hNW, hFL, hWL])
    have hm := List.mem_of_getElem? hy
    have hwt := wants_wt hok.w _ hm
    have HWT := Lib.hid hwt
    have HOY := Lib.hid (HOKW.out i y hy)
    have HWS := Lib.hid hok.w
    have HNA : Hid (NA ≤ 1000) := Lib.hid (by
     rw [hNA, hAL]
     have h8 := add_len (P := ps) (ds := FL.take (min NF NW)) hwt
     have h9 := HPL.out.2
     have h7 := HPS.out
     omega)
    have HZ := Lib.hid hz
    have HY := Lib.hid hy
    have HFL := Lib.hid hFL
    have HWL := Lib.hid hWL
    have HNF := Lib.hid hNF
    have HNW := Lib.hid hNW
    have HAL := Lib.hid hAL
    have HNAL := Lib.hid hNA
    have HSL := Lib.hid hSL
    have hilt : i < n := by rw [← HLN.out]; exact (List.getElem?_eq_some_iff.1 hy).1
    have hiI : (i : Int) < (n : Int) := by omega
    have hi0 : decide ((i : Int) < 0) = false := decide_eq_false (by omega)
    clear hE hok hz hwy hy hFL hWL hNF hNW hAL hNA hSL hm hwt
    subst h0
    go_enter Tryz.func4, Tryz.ntmps4
    go_wp2_with (first
     | (go_at_call 9; refine (few_any A n c B m d P p q w).mono ?_; rintro e w1 ⟨rfl, hw⟩; rw [hw, f1]; clear hw w1)
     | (go_at_call 16; refine (one_any A n c ws B m d hs P p q ps s w H.out HH.out HP.out HPK.out).mono ?_; rintro e w1 ⟨A1, n1, c1, rfl, r1, r2⟩; rw [HO.out] at r1 ⊢; have HQ1 := Lib.hid r1; have HB1 := Lib.hid r2; have HC1 : Hid (Below w1.heap.size w1 w1) := Lib.hid (Below.refl _ _); clear r1 r2)
     | (go_at_call 13; refine (of_rwt A n c ws w1 (H.out.kept stay_wt HB1.out)).mono ?_; rintro e w2 ⟨A2, c2, rfl, r1, r2⟩; have HW2 := Lib.hid r1; have HB2 := Lib.hid (below_then HB1.out r2); have HC2 := Lib.hid (below_then HC1.out r2); clear r1 r2)
     | (go_at_call 14; refine (of_rhd B m d hs w2 (HH.out.kept stay_hd HB2.out)).mono ?_; rintro e w3 ⟨A3, c3, rfl, r1, r2⟩; have HH3 := Lib.hid r1; have HW3 := Lib.hid (HW2.out.kept stay_wt r2); have HB3 := Lib.hid (below_then HB2.out r2); have HC3 := Lib.hid (below_then HC2.out r2); clear r1 r2)
     | (go_at_call 15; (with_reducible show Calls _ _ #[.slice P p q] _ _); refine (of_rpl P p q ps w3 (HP.out.kept stay_pl HB3.out)).mono ?_; rintro e w4 ⟨A4, c4, rfl, r1, r2⟩; have HP4 := Lib.hid r1; have HW4 := Lib.hid (HW3.out.kept stay_wt r2); have HH4 := Lib.hid (HH3.out.kept stay_hd r2); have HB4 := Lib.hid (below_then HB3.out r2); have HC4 := Lib.hid (below_then HC3.out r2); clear r1 r2)
     | (go_at_call 12; refine (rcheck_any A2 n c2 ws A3 m c3 hs A4 p c4 ps w4 HW4.out HH4.out HP4.out HPM.out).mono ?_; rintro e w5 ⟨rfl, r2⟩; rw [← HE.out]; have HP5 := Lib.hid (HP4.out.kept stay_pl r2); have HW5 := Lib.hid (HW4.out.kept stay_wt r2); have HH5 := Lib.hid (HH4.out.kept stay_hd r2); have HB5 := Lib.hid (below_then HB4.out r2); have HC5 := Lib.hid (below_then HC4.out r2); clear r2)
     | (go_at_call 17; refine (rfind_any A2 n c2 ws s w5 HW5.out).mono ?_; rintro e w6 ⟨rfl, hw⟩; rw [hw, HZ.out]; clear hw w6)
     | fail)
    have HB5d := Lib.hid HB5.out.drew
    obtain ⟨gw, ow, eA, _, hat⟩ := HW5.out.wt_at (Below.refl _ w5).drew HY.out
    have HAT := Lib.hid hat
    subst eA
    refine Text.wp_region_text (fun w' => At w' gw (ow + i * 4) (wtL y)) [(0, 4), (1, 4), (2, 4), (3, 4), (4, 4), (5, 4), (8, 4), (9, 4), (10, 4), (12, 4), (6, 0), (11, 0), (7, 2), (13, 2), (14, 4), (15, 4)] (by kernel_rfl) (by kernel_rfl) (fun _ _ _ _ _ h => h) (HAT.out) ?_
    iterate 10 (refine Text.purek rfl rfl (fun K hK => ⟨_, fun w' => by go_simp <;> rfl, ?_⟩); go_simp; refine hK _ ?_; clear hK K)
    refine Text.heldk rfl rfl (fun K hK => ?_)
    refine ⟨_, fun w' hw' => exec_loadv 42 (.tmp 76) rfl 4 (by kernel_rfl) gw (ow + i * 4) (wtL y) (by go_simp) hw' rfl, ?_⟩
    go_simp
    refine hK _ ?_
    clear hK K
    refine Text.heldk rfl rfl (fun K hK => ?_)
    refine ⟨_, fun w' hw' => exec_loadv 42 (.tmp 81) rfl 4 (by kernel_rfl) gw (ow + i * 4) (wtL y) (by go_simp) hw' rfl, ?_⟩
    go_simp
    refine hK _ ?_
    clear hK K
    refine Text.eff rfl rfl (fun K hK => ?_)
    go_simp
    refine (rfree_any _ n c2 ws A3 m c3 hs A4 p c4 ps y _ (HW5.out.kept stay_wt (Below.refl _ _).drew) (HH5.out.kept stay_hd (Below.refl _ _).drew) (HP5.out.kept stay_pl (Below.refl _ _).drew) HWS.out HWT.out HMK.out HPM.out).mono ?_
    rintro e w6 ⟨A6, c6, rfl, r1, r2, _⟩
    rw [← HFL.out, ← HNF.out] at r1 ⊢
    have HF6 := Lib.hid r1
    have HB6 := Lib.hid (below_then HB5d.out r2)
    have HAT6 := Lib.hid (At.kept HAT.out r2)
    have HX6 : Hid (Below w5.heap.size w5 w6) := Lib.hid ((Below.refl _ w5).drew.trans r2)
    clear r1 r2
    refine hK _ _ HAT6.out ?_
    clear hK K
    refine Text.eff rfl rfl (fun K hK => ?_)
    go_simp
    refine (rwithout_any y A4 p c4 ps w6 HWT.out (HP5.out.kept stay_pl HX6.out)).mono ?_
    rintro e w7 ⟨A7, c7, rfl, r1, r2, _⟩
    rw [← HWL.out, ← HNW.out] at r1 ⊢
    have HU7 := Lib.hid r1
    have HF7 := Lib.hid (HF6.out.kept stay_int r2)
    have HB7 := Lib.hid (below_then HB6.out r2)
    have HAT7 := Lib.hid (At.kept HAT6.out r2)
    have HX7 : Hid (Below w5.heap.size w5 w7) := Lib.hid (below_then HX6.out r2)
    clear r1 r2
    refine hK _ _ HAT7.out ?_
    clear hK K
    iterate 2 (refine Text.purek rfl rfl (fun K hK => ⟨_, fun w' => by go_simp <;> rfl, ?_⟩); go_simp; refine hK _ ?_; clear hK K)
    refine Text.done ?_
    go_wp2_with fail
    have HMN : Hid (min (NF : Int) (NW : Int) = ((min NF NW : Nat) : Int)) := Lib.hid (by omega)
    have HNC : Hid (NF ≤ c6) := Lib.hid HF7.out.2.1
    have HB7d := Lib.hid HB7.out.drew
    have HATd := Lib.hid (At.kept HAT7.out (Below.refl _ _).drew)
    refine Text.wp_region_text (fun w' => At w' gw (ow + i * 4) (wtL y)) [(0, 4), (1, 4), (2, 4), (4, 4), (5, 4), (6, 4), (7, 4), (8, 4), (9, 4), (10, 4), (3, 0), (11, 0), (12, 2), (13, 4)] (by kernel_rfl) (by kernel_rfl) (fun _ _ _ _ _ h => h) (HATd.out) ?_
    iterate 10 (refine Text.purek rfl rfl (fun K hK => ⟨_, fun w' => by go_simp <;> rfl, ?_⟩); go_simp; refine hK _ ?_; clear hK K)
    refine Text.heldk rfl rfl (fun K hK => ?_)
    refine ⟨_, fun w' hw' => exec_loadv 42 (.tmp 87) rfl 4 (by kernel_rfl) gw (ow + i * 4) (wtL y) (by go_simp) hw' rfl, ?_⟩
    go_simp
    refine hK _ ?_
    clear hK K
    refine Text.heldk rfl rfl (fun K hK => ?_)
    refine ⟨_, fun w' hw' => exec_preM (.tmp 90) (.tmp 95) 39 3 1 rfl Tryz.underlying39 (szI _) _ NF c6 (min NF NW) rfl (congrArg (Value.int .i64) HMN.out) (by omega) HNC.out, ?_⟩
    go_simp
    refine hK _ ?_
    clear hK K
    refine Text.eff rfl rfl (fun K hK => ?_)
    go_simp
    refine (radd_any y A4 p c4 ps A6 (min NF NW) c6 (FL.take (min NF NW)) _ HWT.out HOY.out ((HP5.out.kept stay_pl HX7.out).kept stay_pl (Below.refl _ _).drew) ((HF7.out.kept stay_int (Below.refl _ _).drew).pre (k := min NF NW) (by omega)) (by rw [← HWL.out, ← HNW.out]; omega) HPM.out).mono ?_
    rintro e w8 ⟨A8, c8, rfl, r1, r2⟩
    rw [← HAL.out, ← HNAL.out] at r1 ⊢
    have HA8 := Lib.hid r1
    have HB8 := Lib.hid (below_then HB7d.out r2)
    have HX8 : Hid (Below w5.heap.size w5 w8) := Lib.hid (below_then HX7.out ((Below.refl _ w7).drew.trans r2))
    have HAT8 := Lib.hid (At.kept HATd.out r2)
    clear r1 r2
    refine hK _ _ HAT8.out ?_
    clear hK K
    (refine Text.purek rfl rfl (fun K hK => ⟨_, fun w' => by go_simp <;> rfl, ?_⟩); go_simp; refine hK _ ?_; clear hK K)
    refine Text.done ?_
    have HQ5 := Lib.hid (HQ1.out.kept stay_pl HC5.out)
    go_wp2_with (first
     | (go_at_call 10; refine (awake_any w8).mono ?_; rintro e w9 ⟨rfl, r2⟩; have HB9 := Lib.hid (below_then HB8.out r2); have HA9 := Lib.hid (HA8.out.kept stay_pl r2); have HW9 := Lib.hid ((HW5.out.kept stay_wt HX8.out).kept stay_wt r2); have HQ9 := Lib.hid ((HQ5.out.kept stay_pl HX8.out).kept stay_pl r2); clear r2)
     | (go_at_call 15; (with_reducible show Calls _ _ #[.slice A1 n1 c1] _ _); refine (of_rpl A1 n1 c1 SL w9 HQ9.out).mono ?_; rintro e wa ⟨Aa, ca, rfl, r1, r2⟩; have HQa := Lib.hid r1; have HAa := Lib.hid (HA9.out.kept stay_pl r2); have HWa := Lib.hid (HW9.out.kept stay_wt r2); have HBa := Lib.hid (below_then HB9.out r2); clear r1 r2)
     | (go_at_call 22; refine (rsorted_any _ n c2 ws A8 NA c8 AL wa HWa.out HAa.out HWS.out HNA.out).mono ?_; rintro e wb ⟨Ab, cb, rfl, r1, r2⟩; rw [← HSL.out] at r1 ⊢; have HSb := Lib.hid r1; have HQb := Lib.hid (HQa.out.kept stay_pl r2); have HBb := Lib.hid (below_then HBa.out r2); clear r1 r2)
     | (go_at_call 21; refine (rsame_any _ _ _ SL _ _ _ SL wb HQb.out HSb.out).mono ?_; rintro e wc ⟨rfl, r2⟩; rw [decide_eq_true (rfl : SL = SL)]; have HBc := Lib.hid (below_then HBb.out r2); clear r2))
    go_ret
    exact ⟨rfl, HBc.out⟩
  ·
   have HO : Hid (oneV ws hs ps s = ([], E)) := Lib.hid (by unfold oneV; rw [if_pos (by rw [← hE]; exact h0), ← hE])
   have f2 : (E != 0) = true := by simpa using h0
   have f3 : (E == E) = true := beq_self_eq_true E
   have HZ : Hid (True) := Lib.hid trivial
   clear hE h0
   go_enter Tryz.func4, Tryz.ntmps4
   go_wp2_with (first
    | (go_at_call 9; refine (few_any A n c B m d P p q w).mono ?_; rintro e w1 ⟨rfl, hw⟩; rw [hw, f1]; clear hw w1)
    | (go_at_call 16; refine (one_any A n c ws B m d hs P p q ps s w H.out HH.out HP.out HPK.out).mono ?_; rintro e w1 ⟨A1, n1, c1, rfl, r1, r2⟩; rw [HO.out] at r1 ⊢; have hz := r1.1; cases hz; have HB1 := Lib.hid r2; have HC1 : Hid (Below w1.heap.size w1 w1) := Lib.hid (Below.refl _ _); clear r1 r2)
    | (go_at_call 13; refine (of_rwt A n c ws w1 (H.out.kept stay_wt HB1.out)).mono ?_; rintro e w2 ⟨A2, c2, rfl, r1, r2⟩; have HW2 := Lib.hid r1; have HB2 := Lib.hid (below_then HB1.out r2); have HC2 := Lib.hid (below_then HC1.out r2); clear r1 r2)
    | (go_at_call 14; refine (of_rhd B m d hs w2 (HH.out.kept stay_hd HB2.out)).mono ?_; rintro e w3 ⟨A3, c3, rfl, r1, r2⟩; have HH3 := Lib.hid r1; have HW3 := Lib.hid (HW2.out.kept stay_wt r2); have HB3 := Lib.hid (below_then HB2.out r2); have HC3 := Lib.hid (below_then HC2.out r2); clear r1 r2)
    | (go_at_call 15; (with_reducible show Calls _ _ #[.slice P p q] _ _); refine (of_rpl P p q ps w3 (HP.out.kept stay_pl HB3.out)).mono ?_; rintro e w4 ⟨A4, c4, rfl, r1, r2⟩; have HP4 := Lib.hid r1; have HW4 := Lib.hid (HW3.out.kept stay_wt r2); have HH4 := Lib.hid (HH3.out.kept stay_hd r2); have HB4 := Lib.hid (below_then HB3.out r2); have HC4 := Lib.hid (below_then HC3.out r2); clear r1 r2)
    | (go_at_call 12; refine (rcheck_any A2 n c2 ws A3 m c3 hs A4 p c4 ps w4 HW4.out HH4.out HP4.out HPM.out).mono ?_; rintro e w5 ⟨rfl, r2⟩; rw [← HE.out]; have HP5 := Lib.hid (HP4.out.kept stay_pl r2); have HW5 := Lib.hid (HW4.out.kept stay_wt r2); have HH5 := Lib.hid (HH4.out.kept stay_hd r2); have HB5 := Lib.hid (below_then HB4.out r2); have HC5 := Lib.hid (below_then HC4.out r2); clear r2)
    | (go_at_call 17; refine (rfind_any A2 n c2 ws s w5 HW5.out).mono ?_; rintro e w6 ⟨rfl, hw⟩; rw [hw, HZ.out]; clear hw w6)
    | (go_at_call 10; refine (awake_any w5).mono ?_; rintro e w6 ⟨rfl, r2⟩; have HB6 := Lib.hid (below_then HB5.out r2); clear r2)
    | fail)
   go_ret
   exact ⟨rfl, HB6.out⟩
end Go.Proofs.YtklfficlegfhjaaGreat
