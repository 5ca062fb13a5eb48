/- PlacementKeeps: the walk. -/
import Derived.Test.YtklfficlegfhjaaKkm
import Derived.Test.YtklfficlegfhjaaLem
namespace Go.Proofs.Ytklfficlegfhjaa
open Go Go.RowKit Go.Shelf Gf Sha

theorem keeps_few {n m p : Nat} (h : fewB n m p = true) : p ≤ 40 := by
  unfold fewB at h
  simp at h
  omega
theorem one_len {ws : List Wt} {hs : List Hd} {ps : List Pl} {s : List UInt8} (h : Ok ws hs ps) (he : (oneV ws hs ps s).2 = 0) : (oneV ws hs ps s).1.length ≤ ps.length + 16 := by
  unfold oneV at he ⊢
  rw [if_neg (by rw [check_ok.2 h]; exact fun h => h rfl)] at he ⊢
  cases hw : wat ws s with
  | none => rw [hw] at he; cases he
  | some w =>
    have hm := List.mem_of_find?_eq_some hw
    simp only
    have hok := one_ok h hm (k := min (freeL ws hs ps w).length (withoutL w ps).length) (by omega)
    rw [← free_take] at hok
    rw [(sorted_perm hok).length_eq]
    exact add_len (wants_wt h.w _ hm)
theorem assign_len {ws : List Wt} {hs : List Hd} {ps : List Pl} {b : Int} (h : Ok ws hs ps) (he : (assignV ws hs ps b).2 = 0) : (assignV ws hs ps b).1.length ≤ ps.length + 128 := by
  unfold assignV at he ⊢
  rw [if_neg (by rw [check_ok.2 h]; exact fun h => h rfl)] at he ⊢
  by_cases hb : budB b = false
  · rw [if_pos hb] at he; cases he
  · rw [if_neg hb] at he ⊢
    have h1 := find_none h b.toNat
    cases hf : findA ws hs ps b.toNat with
    | mk x y =>
      try rw [hf] at he
      rw [hf] at h1
      try rw [hf]
      cases x with
      | false => cases he
      | true =>
        obtain ⟨cs, h2, h3⟩ := h1 rfl
        have h2' : y = some cs := h2
        subst h2'
        show (sortedL ws (plcs (prefL hs) ps (ws.zip cs))).length ≤ _
        rw [(sorted_perm h3.ok).length_eq]
        have h4 := plcs_len (H := prefL hs) (ws.zip cs) ps (fun x hx => wants_wt h.w _ (List.of_mem_zip hx).1)
        have h5 : (ws.zip cs).length ≤ ws.length := by rw [List.length_zip]; omega
        have h6 := wants_8 h.w
        omega
section
set_option maxRecDepth 100000
set_option maxHeartbeats 4000000
theorem contains_any (A : Option Addr) (n c : Nat) (a : List Pl) (B : Option Addr) (m d : Nat) (b : List Pl) (w : World) (h : LS rPl 3 32 w A n c a) (hb : LS rPl 3 32 w B m d b) (hz : movesI a b = 0) :
    Calls Try.prog 10 #[.slice A n c, .slice B m d] w fun e w' => e = .returned (.bool true) ∧ Below w.heap.size w w' := by
  have H := Lib.hid h
  have HB := Lib.hid hb
  have HZ := Lib.hid hz
  have f1 : ((0 : Int) == 0) = true := rfl
  clear h hb hz
  go_enter Try.func10, Try.ntmps10
  go_wp2_with (first
    | (go_at_call 21; (with_reducible show Calls _ _ #[.slice A n c] _ _); refine (of_rpl A n c a w H.out).mono ?_; rintro e w1 ⟨A1, c1, rfl, r1, r2⟩; have HP1 := Lib.hid r1; have HB1 := Lib.hid r2; clear r1 r2)
    | (go_at_call 21; (with_reducible show Calls _ _ #[.slice B m d] _ _); refine (of_rpl B m d b w1 (HB.out.kept stay_pl HB1.out)).mono ?_; rintro e w2 ⟨A2, c2, rfl, r1, r2⟩; have HP2 := Lib.hid (HP1.out.kept stay_pl r2); have HQ2 := Lib.hid r1; have HB2 := Lib.hid (below_then HB1.out r2); clear r1 r2)
    | (go_at_call 25; refine (rmoves_any A1 n c1 a A2 m c2 b w2 HP2.out HQ2.out).mono ?_; rintro e w3 ⟨rfl, r2⟩; rw [HZ.out]; have HB3 := Lib.hid (below_then HB2.out r2); clear r2))
  go_ret
  exact ⟨rfl, HB3.out⟩
theorem keeps_walk (A : Option Addr) (n c : Nat) (ws : List Wt) (B : Option Addr) (m d : Nat) (hs : List Hd) (P : Option Addr) (p q : Nat) (ps : List Pl) (s : List UInt8) (bu : Int) (w : World) (h : LS rWt 4 40 w A n c ws) (hh : LS rHd 3 24 w B m d hs) (hp : LS rPl 3 32 w P p q ps) :
    Calls Try.prog 3 #[.slice A n c, .slice B m d, .slice P p q, .string (strB s), .int .i64 bu] w fun e w' => e = .returned (.bool true) ∧ Below w.heap.size w w' := by
  have H := Lib.hid h
  have HH := Lib.hid hh
  have HP := Lib.hid hp
  clear h hh hp
  cases f1 : fewB n m p with
  | false =>
    go_enter Try.func3, Try.ntmps3
    go_wp2_with (first
      | (go_at_call 6; refine (few_any A n c B m d P p q w).mono ?_; rintro e w1 ⟨rfl, hw⟩; rw [hw, f1]; clear hw w1)
      | (go_at_call 8; refine (awake_any w).mono ?_; rintro e w1 ⟨rfl, b1⟩; have HB1 := Lib.hid b1; clear b1))
    go_ret
    exact ⟨rfl, HB1.out⟩
  | true =>
    have HPL := Lib.hid (keeps_few f1)
    have HPM : Hid (p ≤ 100000) := Lib.hid (by have := HPL.out; omega)
    have HPK : Hid (p ≤ 1000) := Lib.hid (by have := HPL.out; omega)
    obtain ⟨E, hE⟩ : ∃ E, E = checkE ws hs ps := ⟨_, rfl⟩
    have HE := Lib.hid hE
    by_cases h0 : E = 0
    · have hok := check_ok.1 (hE.symm.trans h0)
      obtain ⟨bn, hbn⟩ : ∃ b, b = limI bu := ⟨_, rfl⟩
      have HBN := Lib.hid hbn
      obtain ⟨O, hO⟩ : ∃ O, O = oneV ws hs ps s := ⟨_, rfl⟩
      have HO := Lib.hid hO
      obtain ⟨X, hX⟩ : ∃ X, X = assignV ws hs ps bn := ⟨_, rfl⟩
      have HX := Lib.hid hX
      obtain ⟨QL, E1⟩ := O
      obtain ⟨XL, F1⟩ := X
      have hke := one_keeps (s := s) hok
      have hln := one_len (s := s) hok
      have hks := assign_keeps (b := bn) hok
      have hlx := assign_len (b := bn) hok
      have her := assign_err (ws := ws) (hs := hs) (ps := ps) (b := bn)
      rw [← hO] at hke hln
      rw [← hX] at hks hlx her
      have HPS := Lib.hid HP.out.1
      clear hO hX hbn hok hE
      subst h0
      have g1 : ((0 : Int) != 0) = false := rfl
      have g2 : ((0 : Int) == 0) = true := rfl
      by_cases h1 : E1 = 0
      · subst h1
        obtain ⟨k1, k2, k3⟩ := hke rfl
        have HK1 := Lib.hid k1
        have HK2 := Lib.hid k2
        have HQL : Hid (QL.length ≤ 60) := Lib.hid (by have h8 := hln rfl; have h9 := HPS.out; have h7 := HPL.out; simp only at h8; omega)
        obtain ⟨S1, hS1⟩ : ∃ S, S = spreadI s QL := ⟨_, rfl⟩
        obtain ⟨S2, hS2⟩ : ∃ S, S = spreadI s ps := ⟨_, rfl⟩
        have f3 : decide (S1 < S2) = false := decide_eq_false (by rw [hS1, hS2]; simp only at k3; omega)
        have HS1 := Lib.hid hS1
        have HS2 := Lib.hid hS2
        clear hS1 hS2 k1 k2 k3 hke hln
        by_cases h2 : F1 = 0
        · subst h2
          obtain ⟨k4, k5⟩ := hks rfl
          have HK4 := Lib.hid k4
          have HK5 := Lib.hid k5
          have HXL : Hid (XL.length ≤ 200) := Lib.hid (by have h8 := hlx rfl; have h9 := HPS.out; have h7 := HPL.out; simp only at h8; omega)
          clear k4 k5 hks hlx her
          go_enter Try.func3, Try.ntmps3
          go_wp2_with (first
            | (go_at_call 6; refine (few_any A n c B m d P p q w).mono ?_; rintro e w1 ⟨rfl, hw⟩; rw [hw, f1]; clear hw w1)
            | (go_at_call 7; (with_reducible show Calls _ _ #[.slice A n c, .slice B m d, .slice P p q] _ _); refine (check_any A n c ws B m d hs P p q ps w H.out HH.out HP.out HPM.out).mono ?_; rintro e w1 ⟨rfl, r2⟩; rw [← HE.out]; have HB1 := Lib.hid r2; clear r2)
            | (go_at_call 9; refine (one_any A n c ws B m d hs P p q ps s w1 (H.out.kept stay_wt HB1.out) (HH.out.kept stay_hd HB1.out) (HP.out.kept stay_pl HB1.out) HPK.out).mono ?_; rintro e w2 ⟨A2, n2, c2, rfl, r1, r2⟩; rw [← HO.out] at r1 ⊢; have HQ2 := Lib.hid r1; have HN2 : Hid (n2 = QL.length) := Lib.hid r1.1.symm; have HB2 := Lib.hid (below_then HB1.out r2); clear r1 r2)
            | (go_at_call 7; (with_reducible show Calls _ _ #[.slice A n c, .slice B m d, .slice A2 n2 c2] _ _); refine (check_any A n c ws B m d hs A2 n2 c2 QL w2 (H.out.kept stay_wt HB2.out) (HH.out.kept stay_hd HB2.out) HQ2.out (by have := HN2.out; have := HQL.out; omega)).mono ?_; rintro e w3 ⟨rfl, r2⟩; rw [HK1.out]; have HQ3 := Lib.hid (HQ2.out.kept stay_pl r2); have HB3 := Lib.hid (below_then HB2.out r2); clear r2)
            | (go_at_call 10; (with_reducible show Calls _ _ #[.slice A2 n2 c2, .slice P p q] _ _); refine (contains_any A2 n2 c2 QL P p q ps w3 HQ3.out (HP.out.kept stay_pl HB3.out) HK2.out).mono ?_; rintro e w4 ⟨rfl, r2⟩; have HQ4 := Lib.hid (HQ3.out.kept stay_pl r2); have HB4 := Lib.hid (below_then HB3.out r2); clear r2)
            | (go_at_call 11; (with_reducible show Calls _ _ #[.string (strB s), .slice A2 n2 c2] _ _); refine (spread_any s A2 n2 c2 QL w4 HQ4.out).mono ?_; rintro e w5 ⟨rfl, r2⟩; rw [← HS1.out]; have HB5 := Lib.hid (below_then HB4.out r2); clear r2)
            | (go_at_call 11; (with_reducible show Calls _ _ #[.string (strB s), .slice P p q] _ _); refine (spread_any s P p q ps w5 (HP.out.kept stay_pl HB5.out)).mono ?_; rintro e w6 ⟨rfl, r2⟩; rw [← HS2.out]; have HB6 := Lib.hid (below_then HB5.out r2); clear r2)
            | (go_at_call 13; refine (limit_any bu w6).mono ?_; rintro e w7 ⟨rfl, hw⟩; rw [hw, ← HBN.out]; clear hw w7)
            | (go_at_call 12; refine (assign_any A n c ws B m d hs P p q ps bn w6 (H.out.kept stay_wt HB6.out) (HH.out.kept stay_hd HB6.out) (HP.out.kept stay_pl HB6.out) HPK.out).mono ?_; rintro e w8 ⟨A8, n8, c8, rfl, r1, r2⟩; rw [← HX.out] at r1 ⊢; have HX8 := Lib.hid r1; have HN8 : Hid (n8 = XL.length) := Lib.hid r1.1.symm; have HB8 := Lib.hid (below_then HB6.out r2); clear r1 r2)
            | (go_at_call 8; refine (awake_any w8).mono ?_; rintro e w9 ⟨rfl, r2⟩; have HX9 := Lib.hid (HX8.out.kept stay_pl r2); have HB9 := Lib.hid (below_then HB8.out r2); clear r2) | (go_at_call 7; (with_reducible show Calls _ _ #[.slice A n c, .slice B m d, .slice A8 n8 c8] _ _); refine (check_any A n c ws B m d hs A8 n8 c8 XL w9 (H.out.kept stay_wt HB9.out) (HH.out.kept stay_hd HB9.out) HX9.out (by have := HN8.out; have := HXL.out; omega)).mono ?_; rintro e wa ⟨rfl, r2⟩; rw [HK4.out]; have HXa := Lib.hid (HX9.out.kept stay_pl r2); have HBa := Lib.hid (below_then HB9.out r2); clear r2) | (go_at_call 10; (with_reducible show Calls _ _ #[.slice A8 n8 c8, .slice P p q] _ _); refine (contains_any A8 n8 c8 XL P p q ps wa HXa.out (HP.out.kept stay_pl HBa.out) HK5.out).mono ?_; rintro e wb ⟨rfl, r2⟩; have HBb := Lib.hid (below_then HBa.out r2); clear r2))
          go_ret
          exact ⟨rfl, HBb.out⟩
        · have f4 : (F1 != 0) = true := by simpa using h2
          have HXN : Hid (XL = []) := Lib.hid (her h2)
          clear hks hlx her h2
          go_enter Try.func3, Try.ntmps3
          go_wp2_with (first
            | (go_at_call 6; refine (few_any A n c B m d P p q w).mono ?_; rintro e w1 ⟨rfl, hw⟩; rw [hw, f1]; clear hw w1)
            | (go_at_call 7; (with_reducible show Calls _ _ #[.slice A n c, .slice B m d, .slice P p q] _ _); refine (check_any A n c ws B m d hs P p q ps w H.out HH.out HP.out HPM.out).mono ?_; rintro e w1 ⟨rfl, r2⟩; rw [← HE.out]; have HB1 := Lib.hid r2; clear r2)
            | (go_at_call 9; refine (one_any A n c ws B m d hs P p q ps s w1 (H.out.kept stay_wt HB1.out) (HH.out.kept stay_hd HB1.out) (HP.out.kept stay_pl HB1.out) HPK.out).mono ?_; rintro e w2 ⟨A2, n2, c2, rfl, r1, r2⟩; rw [← HO.out] at r1 ⊢; have HQ2 := Lib.hid r1; have HN2 : Hid (n2 = QL.length) := Lib.hid r1.1.symm; have HB2 := Lib.hid (below_then HB1.out r2); clear r1 r2)
            | (go_at_call 7; (with_reducible show Calls _ _ #[.slice A n c, .slice B m d, .slice A2 n2 c2] _ _); refine (check_any A n c ws B m d hs A2 n2 c2 QL w2 (H.out.kept stay_wt HB2.out) (HH.out.kept stay_hd HB2.out) HQ2.out (by have := HN2.out; have := HQL.out; omega)).mono ?_; rintro e w3 ⟨rfl, r2⟩; rw [HK1.out]; have HQ3 := Lib.hid (HQ2.out.kept stay_pl r2); have HB3 := Lib.hid (below_then HB2.out r2); clear r2)
            | (go_at_call 10; (with_reducible show Calls _ _ #[.slice A2 n2 c2, .slice P p q] _ _); refine (contains_any A2 n2 c2 QL P p q ps w3 HQ3.out (HP.out.kept stay_pl HB3.out) HK2.out).mono ?_; rintro e w4 ⟨rfl, r2⟩; have HQ4 := Lib.hid (HQ3.out.kept stay_pl r2); have HB4 := Lib.hid (below_then HB3.out r2); clear r2)
            | (go_at_call 11; (with_reducible show Calls _ _ #[.string (strB s), .slice A2 n2 c2] _ _); refine (spread_any s A2 n2 c2 QL w4 HQ4.out).mono ?_; rintro e w5 ⟨rfl, r2⟩; rw [← HS1.out]; have HB5 := Lib.hid (below_then HB4.out r2); clear r2)
            | (go_at_call 11; (with_reducible show Calls _ _ #[.string (strB s), .slice P p q] _ _); refine (spread_any s P p q ps w5 (HP.out.kept stay_pl HB5.out)).mono ?_; rintro e w6 ⟨rfl, r2⟩; rw [← HS2.out]; have HB6 := Lib.hid (below_then HB5.out r2); clear r2)
            | (go_at_call 13; refine (limit_any bu w6).mono ?_; rintro e w7 ⟨rfl, hw⟩; rw [hw, ← HBN.out]; clear hw w7)
            | (go_at_call 12; refine (assign_any A n c ws B m d hs P p q ps bn w6 (H.out.kept stay_wt HB6.out) (HH.out.kept stay_hd HB6.out) (HP.out.kept stay_pl HB6.out) HPK.out).mono ?_; rintro e w8 ⟨A8, n8, c8, rfl, r1, r2⟩; rw [← HX.out] at r1 ⊢; have hz := r1.1; rw [HXN.out] at hz; cases hz; have HB8 := Lib.hid (below_then HB6.out r2); clear r1 r2)
            | (go_at_call 8; refine (awake_any w8).mono ?_; rintro e w9 ⟨rfl, r2⟩; have HB9 := Lib.hid (below_then HB8.out r2); clear r2))
          go_ret
          exact ⟨rfl, HB9.out⟩
      · have f5 : (E1 == 0) = false := by simpa using h1
        clear hke hln h1
        by_cases h2 : F1 = 0
        · subst h2
          obtain ⟨k4, k5⟩ := hks rfl
          have HK4 := Lib.hid k4
          have HK5 := Lib.hid k5
          have HXL : Hid (XL.length ≤ 200) := Lib.hid (by have h8 := hlx rfl; have h9 := HPS.out; have h7 := HPL.out; simp only at h8; omega)
          clear k4 k5 hks hlx her
          go_enter Try.func3, Try.ntmps3
          go_wp2_with (first
            | (go_at_call 6; refine (few_any A n c B m d P p q w).mono ?_; rintro e w1 ⟨rfl, hw⟩; rw [hw, f1]; clear hw w1)
            | (go_at_call 7; (with_reducible show Calls _ _ #[.slice A n c, .slice B m d, .slice P p q] _ _); refine (check_any A n c ws B m d hs P p q ps w H.out HH.out HP.out HPM.out).mono ?_; rintro e w1 ⟨rfl, r2⟩; rw [← HE.out]; have HB1 := Lib.hid r2; clear r2)
            | (go_at_call 9; refine (one_any A n c ws B m d hs P p q ps s w1 (H.out.kept stay_wt HB1.out) (HH.out.kept stay_hd HB1.out) (HP.out.kept stay_pl HB1.out) HPK.out).mono ?_; rintro e w2 ⟨A2, n2, c2, rfl, r1, r2⟩; rw [← HO.out] at r1 ⊢; have HQ2 := Lib.hid r1; have HN2 : Hid (n2 = QL.length) := Lib.hid r1.1.symm; have HB2 := Lib.hid (below_then HB1.out r2); clear r1 r2)
            | (go_at_call 7; (with_reducible show Calls _ _ #[.slice A n c, .slice B m d, .slice A2 n2 c2] _ _); refine (check_any A n c ws B m d hs A2 n2 c2 QL w2 (H.out.kept stay_wt HB2.out) (HH.out.kept stay_hd HB2.out) HQ2.out (by have := HN2.out; have := HQL.out; omega)).mono ?_; rintro e w3 ⟨rfl, r2⟩; rw [HK1.out]; have HQ3 := Lib.hid (HQ2.out.kept stay_pl r2); have HB3 := Lib.hid (below_then HB2.out r2); clear r2)
            | (go_at_call 10; (with_reducible show Calls _ _ #[.slice A2 n2 c2, .slice P p q] _ _); refine (contains_any A2 n2 c2 QL P p q ps w3 HQ3.out (HP.out.kept stay_pl HB3.out) HK2.out).mono ?_; rintro e w4 ⟨rfl, r2⟩; have HQ4 := Lib.hid (HQ3.out.kept stay_pl r2); have HB4 := Lib.hid (below_then HB3.out r2); clear r2)
            | (go_at_call 11; (with_reducible show Calls _ _ #[.string (strB s), .slice A2 n2 c2] _ _); refine (spread_any s A2 n2 c2 QL w4 HQ4.out).mono ?_; rintro e w5 ⟨rfl, r2⟩; rw [← HS1.out]; have HB5 := Lib.hid (below_then HB4.out r2); clear r2)
            | (go_at_call 11; (with_reducible show Calls _ _ #[.string (strB s), .slice P p q] _ _); refine (spread_any s P p q ps w5 (HP.out.kept stay_pl HB5.out)).mono ?_; rintro e w6 ⟨rfl, r2⟩; rw [← HS2.out]; have HB6 := Lib.hid (below_then HB5.out r2); clear r2)
            | (go_at_call 13; refine (limit_any bu w2).mono ?_; rintro e w7 ⟨rfl, hw⟩; rw [hw, ← HBN.out]; clear hw w7)
            | (go_at_call 12; refine (assign_any A n c ws B m d hs P p q ps bn w2 (H.out.kept stay_wt HB2.out) (HH.out.kept stay_hd HB2.out) (HP.out.kept stay_pl HB2.out) HPK.out).mono ?_; rintro e w8 ⟨A8, n8, c8, rfl, r1, r2⟩; rw [← HX.out] at r1 ⊢; have HX8 := Lib.hid r1; have HN8 : Hid (n8 = XL.length) := Lib.hid r1.1.symm; have HB8 := Lib.hid (below_then HB2.out r2); clear r1 r2)
            | (go_at_call 8; refine (awake_any w8).mono ?_; rintro e w9 ⟨rfl, r2⟩; have HX9 := Lib.hid (HX8.out.kept stay_pl r2); have HB9 := Lib.hid (below_then HB8.out r2); clear r2) | (go_at_call 7; (with_reducible show Calls _ _ #[.slice A n c, .slice B m d, .slice A8 n8 c8] _ _); refine (check_any A n c ws B m d hs A8 n8 c8 XL w9 (H.out.kept stay_wt HB9.out) (HH.out.kept stay_hd HB9.out) HX9.out (by have := HN8.out; have := HXL.out; omega)).mono ?_; rintro e wa ⟨rfl, r2⟩; rw [HK4.out]; have HXa := Lib.hid (HX9.out.kept stay_pl r2); have HBa := Lib.hid (below_then HB9.out r2); clear r2) | (go_at_call 10; (with_reducible show Calls _ _ #[.slice A8 n8 c8, .slice P p q] _ _); refine (contains_any A8 n8 c8 XL P p q ps wa HXa.out (HP.out.kept stay_pl HBa.out) HK5.out).mono ?_; rintro e wb ⟨rfl, r2⟩; have HBb := Lib.hid (below_then HBa.out r2); clear r2))
          go_ret
          exact ⟨rfl, HBb.out⟩
        · have f4 : (F1 != 0) = true := by simpa using h2
          have HXN : Hid (XL = []) := Lib.hid (her h2)
          clear hks hlx her h2
          go_enter Try.func3, Try.ntmps3
          go_wp2_with (first
            | (go_at_call 6; refine (few_any A n c B m d P p q w).mono ?_; rintro e w1 ⟨rfl, hw⟩; rw [hw, f1]; clear hw w1)
            | (go_at_call 7; (with_reducible show Calls _ _ #[.slice A n c, .slice B m d, .slice P p q] _ _); refine (check_any A n c ws B m d hs P p q ps w H.out HH.out HP.out HPM.out).mono ?_; rintro e w1 ⟨rfl, r2⟩; rw [← HE.out]; have HB1 := Lib.hid r2; clear r2)
            | (go_at_call 9; refine (one_any A n c ws B m d hs P p q ps s w1 (H.out.kept stay_wt HB1.out) (HH.out.kept stay_hd HB1.out) (HP.out.kept stay_pl HB1.out) HPK.out).mono ?_; rintro e w2 ⟨A2, n2, c2, rfl, r1, r2⟩; rw [← HO.out] at r1 ⊢; have HQ2 := Lib.hid r1; have HN2 : Hid (n2 = QL.length) := Lib.hid r1.1.symm; have HB2 := Lib.hid (below_then HB1.out r2); clear r1 r2)
            | (go_at_call 7; (with_reducible show Calls _ _ #[.slice A n c, .slice B m d, .slice A2 n2 c2] _ _); refine (check_any A n c ws B m d hs A2 n2 c2 QL w2 (H.out.kept stay_wt HB2.out) (HH.out.kept stay_hd HB2.out) HQ2.out (by have := HN2.out; have := HQL.out; omega)).mono ?_; rintro e w3 ⟨rfl, r2⟩; rw [HK1.out]; have HQ3 := Lib.hid (HQ2.out.kept stay_pl r2); have HB3 := Lib.hid (below_then HB2.out r2); clear r2)
            | (go_at_call 10; (with_reducible show Calls _ _ #[.slice A2 n2 c2, .slice P p q] _ _); refine (contains_any A2 n2 c2 QL P p q ps w3 HQ3.out (HP.out.kept stay_pl HB3.out) HK2.out).mono ?_; rintro e w4 ⟨rfl, r2⟩; have HQ4 := Lib.hid (HQ3.out.kept stay_pl r2); have HB4 := Lib.hid (below_then HB3.out r2); clear r2)
            | (go_at_call 11; (with_reducible show Calls _ _ #[.string (strB s), .slice A2 n2 c2] _ _); refine (spread_any s A2 n2 c2 QL w4 HQ4.out).mono ?_; rintro e w5 ⟨rfl, r2⟩; rw [← HS1.out]; have HB5 := Lib.hid (below_then HB4.out r2); clear r2)
            | (go_at_call 11; (with_reducible show Calls _ _ #[.string (strB s), .slice P p q] _ _); refine (spread_any s P p q ps w5 (HP.out.kept stay_pl HB5.out)).mono ?_; rintro e w6 ⟨rfl, r2⟩; rw [← HS2.out]; have HB6 := Lib.hid (below_then HB5.out r2); clear r2)
            | (go_at_call 13; refine (limit_any bu w2).mono ?_; rintro e w7 ⟨rfl, hw⟩; rw [hw, ← HBN.out]; clear hw w7)
            | (go_at_call 12; refine (assign_any A n c ws B m d hs P p q ps bn w2 (H.out.kept stay_wt HB2.out) (HH.out.kept stay_hd HB2.out) (HP.out.kept stay_pl HB2.out) HPK.out).mono ?_; rintro e w8 ⟨A8, n8, c8, rfl, r1, r2⟩; rw [← HX.out] at r1 ⊢; have hz := r1.1; rw [HXN.out] at hz; cases hz; have HB8 := Lib.hid (below_then HB2.out r2); clear r1 r2)
            | (go_at_call 8; refine (awake_any w8).mono ?_; rintro e w9 ⟨rfl, r2⟩; have HB9 := Lib.hid (below_then HB8.out r2); clear r2))
          go_ret
          exact ⟨rfl, HB9.out⟩
    · have f2 : (E != 0) = true := by simpa using h0
      clear hE h0
      go_enter Try.func3, Try.ntmps3
      go_wp2_with (first
        | (go_at_call 6; refine (few_any A n c B m d P p q w).mono ?_; rintro e w1 ⟨rfl, hw⟩; rw [hw, f1]; clear hw w1)
        | (go_at_call 7; refine (check_any A n c ws B m d hs P p q ps w H.out HH.out HP.out HPM.out).mono ?_; rintro e w1 ⟨rfl, r2⟩; rw [← HE.out]; have HB1 := Lib.hid r2; clear r2)
        | (go_at_call 8; refine (awake_any w1).mono ?_; rintro e w2 ⟨rfl, r2⟩; have HB2 := Lib.hid (below_then HB1.out r2); clear r2))
      go_ret
      exact ⟨rfl, HB2.out⟩
end
end Go.Proofs.Ytklfficlegfhjaa
