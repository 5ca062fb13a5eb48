/- The law ChallengeForgets: its walk. -/
import Derived.Test.YtgjgofjabdjclaaDoorLHonm
import Derived.Test.YtgjgofjabdjclaaDoorFg0m
namespace Go.Proofs.YtgjgofjabdjclaaDoor
open Go Go.RowKit Gf Sha

theorem tok1_yes (x : UInt8) (d : List UInt8) (i n c f : Nat) (A : Option Addr) (w : World) (hd : BS w A n c d) (hT : Tabs w) (hI : idB (nameL x 9) (i : Int) = true) (hD : dataB n = true) (hR : rangeB (f : Int) 1 = true) :
    Calls Tryd.prog 13 #[(keysK x).val, .agg #[.string (strB (nameL x 9)), .int .i64 (i : Int)], .slice A n c, .int .i64 (f : Int), .int .i64 1] w (TokRet (tokL (keysK x) (nameL x 9) i d f 1) w) :=
  tokens_yes (keysK x) (nameL x 9) d i n c f 1 A w hd hT (keysK_ok x) hI hD hR
theorem nm9 : Value.int .u8 9 = B 9 := rfl
attribute [local go_sem] strB_app
theorem n54 : Value.int .u8 54 = B 0x36 := rfl
theorem n92 : Value.int .u8 92 = B 0x5c := rfl
theorem tag_parts (k d : List UInt8) : tagL k d = sha (xr 0x5c (keyp k) ++ sha (xr 0x36 (keyp k) ++ d)) := rfl
theorem xr_keyp_length (y : UInt8) (k : List UInt8) (h : k.length = 32) : (xr y (keyp k)).length = 64 := by rw [xr_length, keyp_length k (by omega)]
set_option maxRecDepth 100000 in
set_option maxHeartbeats 8000000 in
theorem forgets_walk (x : UInt8) (i f : Int) (A : Option Addr) (n c : Nat) (d : List UInt8) (A' : Option Addr) (n' c' : Nat) (ot : List UInt8) (w : World) (hT : Tabs w) (hd : BS w A n c d) (ho : BS w A' n' c' ot) :
    Calls Tryd.prog 3 #[B x, .int .i64 i, .int .i64 f, .slice A n c, .slice A' n' c'] w fun e w' => e = .returned (.bool true) ∧ Below w.heap.size w w' := by
  have HT := Lib.hid hT
  have HD := Lib.hid hd
  have HO := Lib.hid ho
  clear hT hd ho
  by_cases g1 : 1 ≤ n
  case neg =>
    have dg1 : decide ((n : Int) < 1) = true := decide_eq_true (by omega)
    clear g1
    go_enter Tryd.func3, Tryd.ntmps3
    go_wp2_with (first
      | (go_at_call 12; (with_reducible show Calls _ _ _ w _); refine (awake_any w HT.out).mono ?_; rintro e w1 ⟨rfl, b1⟩; have HB1 := Lib.hid b1; clear b1)
      | (go_at_call 12; refine (awake_any w1 (HT.out.kept HB1.out)).mono ?_; rintro e w2 ⟨rfl, b1⟩; have HB2 := Lib.hid (below_then HB1.out b1); clear b1))
    go_ret
    exact ⟨rfl, HB2.out⟩
  have dg1 : decide ((n : Int) < 1) = false := decide_eq_false (by omega)
  by_cases g2 : 1 ≤ n'
  case neg =>
    have dg2 : decide ((n' : Int) < 1) = true := decide_eq_true (by omega)
    clear g1 g2
    go_enter Tryd.func3, Tryd.ntmps3
    go_wp2_with (first
      | (go_at_call 12; (with_reducible show Calls _ _ _ w _); refine (awake_any w HT.out).mono ?_; rintro e w1 ⟨rfl, b1⟩; have HB1 := Lib.hid b1; clear b1)
      | (go_at_call 12; refine (awake_any w1 (HT.out.kept HB1.out)).mono ?_; rintro e w2 ⟨rfl, b1⟩; have HB2 := Lib.hid (below_then HB1.out b1); clear b1))
    go_ret
    exact ⟨rfl, HB2.out⟩
  have dg2 : decide ((n' : Int) < 1) = false := decide_eq_false (by omega)
  by_cases g3 : n ≤ 300
  case neg =>
    have dg3 : decide ((300 : Int) < (n : Int)) = true := decide_eq_true (by omega)
    clear g1 g2 g3
    go_enter Tryd.func3, Tryd.ntmps3
    go_wp2_with (first
      | (go_at_call 12; (with_reducible show Calls _ _ _ w _); refine (awake_any w HT.out).mono ?_; rintro e w1 ⟨rfl, b1⟩; have HB1 := Lib.hid b1; clear b1)
      | (go_at_call 12; refine (awake_any w1 (HT.out.kept HB1.out)).mono ?_; rintro e w2 ⟨rfl, b1⟩; have HB2 := Lib.hid (below_then HB1.out b1); clear b1))
    go_ret
    exact ⟨rfl, HB2.out⟩
  have dg3 : decide ((300 : Int) < (n : Int)) = false := decide_eq_false (by omega)
  by_cases g4 : n' ≤ 300
  case neg =>
    have dg4 : decide ((300 : Int) < (n' : Int)) = true := decide_eq_true (by omega)
    clear g1 g2 g3 g4
    go_enter Tryd.func3, Tryd.ntmps3
    go_wp2_with (first
      | (go_at_call 12; (with_reducible show Calls _ _ _ w _); refine (awake_any w HT.out).mono ?_; rintro e w1 ⟨rfl, b1⟩; have HB1 := Lib.hid b1; clear b1)
      | (go_at_call 12; refine (awake_any w1 (HT.out.kept HB1.out)).mono ?_; rintro e w2 ⟨rfl, b1⟩; have HB2 := Lib.hid (below_then HB1.out b1); clear b1))
    go_ret
    exact ⟨rfl, HB2.out⟩
  have dg4 : decide ((300 : Int) < (n' : Int)) = false := decide_eq_false (by omega)
  by_cases g5 : 0 ≤ i
  case neg =>
    have dg5 : decide (i < 0) = true := decide_eq_true (by omega)
    clear g1 g2 g3 g4 g5
    go_enter Tryd.func3, Tryd.ntmps3
    go_wp2_with (first
      | (go_at_call 12; (with_reducible show Calls _ _ _ w _); refine (awake_any w HT.out).mono ?_; rintro e w1 ⟨rfl, b1⟩; have HB1 := Lib.hid b1; clear b1)
      | (go_at_call 12; refine (awake_any w1 (HT.out.kept HB1.out)).mono ?_; rintro e w2 ⟨rfl, b1⟩; have HB2 := Lib.hid (below_then HB1.out b1); clear b1))
    go_ret
    exact ⟨rfl, HB2.out⟩
  have dg5 : decide (i < 0) = false := decide_eq_false (by omega)
  by_cases g6 : i < 16
  case neg =>
    have dg6 : decide ((16 : Int) ≤ i) = true := decide_eq_true (by omega)
    clear g1 g2 g3 g4 g5 g6
    go_enter Tryd.func3, Tryd.ntmps3
    go_wp2_with (first
      | (go_at_call 12; (with_reducible show Calls _ _ _ w _); refine (awake_any w HT.out).mono ?_; rintro e w1 ⟨rfl, b1⟩; have HB1 := Lib.hid b1; clear b1)
      | (go_at_call 12; refine (awake_any w1 (HT.out.kept HB1.out)).mono ?_; rintro e w2 ⟨rfl, b1⟩; have HB2 := Lib.hid (below_then HB1.out b1); clear b1))
    go_ret
    exact ⟨rfl, HB2.out⟩
  have dg6 : decide ((16 : Int) ≤ i) = false := decide_eq_false (by omega)
  by_cases g7 : 0 ≤ f
  case neg =>
    have dg7 : decide (f < 0) = true := decide_eq_true (by omega)
    clear g1 g2 g3 g4 g5 g6 g7
    go_enter Tryd.func3, Tryd.ntmps3
    go_wp2_with (first
      | (go_at_call 12; (with_reducible show Calls _ _ _ w _); refine (awake_any w HT.out).mono ?_; rintro e w1 ⟨rfl, b1⟩; have HB1 := Lib.hid b1; clear b1)
      | (go_at_call 12; refine (awake_any w1 (HT.out.kept HB1.out)).mono ?_; rintro e w2 ⟨rfl, b1⟩; have HB2 := Lib.hid (below_then HB1.out b1); clear b1))
    go_ret
    exact ⟨rfl, HB2.out⟩
  have dg7 : decide (f < 0) = false := decide_eq_false (by omega)
  by_cases g8 : f ≤ 549755813888
  case neg =>
    have dg8 : decide ((549755813888 : Int) < f) = true := decide_eq_true (by omega)
    clear g1 g2 g3 g4 g5 g6 g7 g8
    go_enter Tryd.func3, Tryd.ntmps3
    go_wp2_with (first
      | (go_at_call 12; (with_reducible show Calls _ _ _ w _); refine (awake_any w HT.out).mono ?_; rintro e w1 ⟨rfl, b1⟩; have HB1 := Lib.hid b1; clear b1)
      | (go_at_call 12; refine (awake_any w1 (HT.out.kept HB1.out)).mono ?_; rintro e w2 ⟨rfl, b1⟩; have HB2 := Lib.hid (below_then HB1.out b1); clear b1))
    go_ret
    exact ⟨rfl, HB2.out⟩
  have dg8 : decide ((549755813888 : Int) < f) = false := decide_eq_false (by omega)
  obtain ⟨i, rfl⟩ := Int.eq_ofNat_of_zero_le g5
  obtain ⟨f, rfl⟩ := Int.eq_ofNat_of_zero_le g7
  have HDB : Hid (dataB n = true) := Lib.hid (by simp only [dataB, Bool.and_eq_true, decide_eq_true_eq]; omega)
  have HDO : Hid (dataB n' = true) := Lib.hid (by simp only [dataB, Bool.and_eq_true, decide_eq_true_eq]; omega)
  have HRB : Hid (rangeB (f : Int) 1 = true) := Lib.hid (by simp only [rangeB, Bool.and_eq_true, decide_eq_true_eq]; omega)
  have HIB : Hid (idB (nameL x 9) (i : Int) = true) := Lib.hid (by simp only [idB, Bool.and_eq_true, decide_eq_true_eq]; exact ⟨rfl, by omega, by omega⟩)
  have HN : Hid (n ≤ 300 ∧ n' ≤ 300) := Lib.hid ⟨g3, g4⟩
  clear g1 g2 g3 g4 g5 g6 g7 g8
  go_enter Tryd.func3, Tryd.ntmps3
  go_wp2_with (first
    | (go_at_call 12; (with_reducible show Calls _ _ _ w _); refine (awake_any w HT.out).mono ?_; rintro e w1 ⟨rfl, b1⟩; have HB1 := Lib.hid b1; clear b1)
    | (go_at_call 14; refine (keys_any x w1).mono ?_; rintro e w2 ⟨rfl, b1⟩; have HB2 := Lib.hid (below_then HB1.out b1); clear b1)
    | (go_at_call 15; refine (name_c x 9 _ _ rfl nm9 w2).mono ?_; rintro e w3 ⟨rfl, b1⟩; have HB3 := Lib.hid (below_then HB2.out b1); clear b1)
    | (go_at_call 13; refine (tok1_yes x d i n c f A w3 (HD.out.kept HB3.out) (HT.out.kept HB3.out) HIB.out HDB.out HRB.out).mono ?_; rintro e w4 ⟨gl, nl, rfl, hnl, hgl, hl, b1⟩; rw [tokL_length] at hnl; subst hnl; have HB4 := Lib.hid (below_then HB3.out b1); have HL4 : Hid (BL w4 gl 37 (tokN (keysK x) (nameL x 9) i d f).cells) := Lib.hid hl; have c2 : w4.cell? ⟨gl, 2, none⟩ = some (.string (strB (nonceL (keysK x) (nameL x 9) i f))) := (tok_cells HL4.out).2.2.1; clear b1 hl hgl)
    | (go_at_call 16; refine (answer_yes (nonceL (keysK x) (nameL x 9) i f) A' n' c' ot w4 (HO.out.kept HB4.out) (HT.out.kept HB4.out) (nonceL_length _ _ _ _) HDO.out).mono ?_; rintro e w5 ⟨rfl, b1⟩; have HB5 := Lib.hid (below_then HB4.out b1); have HL5 := Lib.hid (HL4.out.kept b1); clear b1 c2))
  have HD5 := Lib.hid (HD.out.kept HB5.out)
  have HO5 := Lib.hid (HO.out.kept HB5.out)
  clear dg1 dg2 dg3 dg4 dg5 dg6 dg7 dg8 HB1 HB2 HB3 HB4 HL4
  by_cases hT : tagL (nonceL (keysK x) (nameL x 9) i f) d = tagL (nonceL (keysK x) (nameL x 9) i f) ot
  · by_cases hE : d = ot
    · have HTT := Lib.hid hT
      have e1 : ((strB d).toList == (strB ot).toList) = true := by rw [strB_eq]; exact decide_eq_true hE
      clear hT hE
      refine Text.wp_region_text (fun w' => Below w5.heap.size w5 w') [(0, 4), (1, 4), (2, 4), (3, 4), (4, 4), (6, 4), (8, 4), (10, 4), (5, 0), (9, 0), (11, 0), (12, 4), (7, 2), (13, 4), (14, 4)] (by kernel_rfl) (by kernel_rfl) (fun _ _ _ _ _ h => h) ((Below.refl _ _).drew) ?_
      iterate 8 (refine Text.purek rfl rfl (fun K hK => ⟨_, fun w' => by go_simp <;> rfl, ?_⟩); go_simp; refine hK _ ?_; clear hK K)
      refine Text.heldk rfl rfl (fun K hK => ?_)
      refine ⟨_, fun w' hw' => exec_loadv 37 (.tmp 89) rfl 4 (by kernel_rfl) gl 0 (tokN (keysK x) (nameL x 9) i d f).cells rfl (BL.all (HL5.out.kept hw')) rfl, ?_⟩
      go_simp
      refine hK _ ?_
      clear hK K
      refine Text.heldk rfl rfl (fun K hK => ?_)
      refine ⟨_, fun w' hw' => by have cv := conv_str (HD5.out.kept hw'); go_simp <;> rfl, ?_⟩
      go_simp
      refine hK _ ?_
      clear hK K
      refine Text.heldk rfl rfl (fun K hK => ?_)
      refine ⟨_, fun w' hw' => by have cv := conv_str (HO5.out.kept hw'); go_simp <;> rfl, ?_⟩
      go_simp
      refine hK _ ?_
      clear hK K
      (refine Text.purek rfl rfl (fun K hK => ⟨_, fun w' => by go_simp <;> rfl, ?_⟩); go_simp; refine hK _ ?_; clear hK K)
      refine Text.effw rfl rfl (fun K hK => ?_)
      go_simp
      refine (judge_tok (tokN (keysK x) (nameL x 9) i d f) (tagL_length _ _) (tagL (nonceL (keysK x) (nameL x 9) i f) ot) _ _ rfl rfl w5.drew).mono ?_
      rintro e w6 ⟨rfl, b1⟩
      rw [show decide ((tokN (keysK x) (nameL x 9) i d f).a = tagL (nonceL (keysK x) (nameL x 9) i f) ot) = true from decide_eq_true HTT.out]
      have HX6 : Hid (Below w5.heap.size w5 w6) := Lib.hid ((Below.refl _ _).drew.trans (b1.mono (Nat.le_refl _)))
      refine hK _ _ HX6.out ?_
      clear hK K b1
      iterate 2 (refine Text.purek rfl rfl (fun K hK => ⟨_, fun w' => by go_simp <;> rfl, ?_⟩); go_simp; refine hK _ ?_; clear hK K)
      refine Text.done ?_
      have HB6 := Lib.hid (below_thenB HB5.out HB5.out.size HX6.out)
      go_wp2_with fail
      go_ret
      exact ⟨rfl, HB6.out⟩
    · have HTT := Lib.hid hT
      have HE := Lib.hid hE
      have e1 : ((strB d).toList == (strB ot).toList) = false := by rw [strB_eq]; exact decide_eq_false hE
      clear hT hE
      refine Text.wp_region_text (fun w' => Below w5.heap.size w5 w') [(0, 4), (1, 4), (2, 4), (3, 4), (4, 4), (6, 4), (8, 4), (10, 4), (5, 0), (9, 0), (11, 0), (12, 4), (7, 2), (13, 4), (14, 4)] (by kernel_rfl) (by kernel_rfl) (fun _ _ _ _ _ h => h) ((Below.refl _ _).drew) ?_
      iterate 8 (refine Text.purek rfl rfl (fun K hK => ⟨_, fun w' => by go_simp <;> rfl, ?_⟩); go_simp; refine hK _ ?_; clear hK K)
      refine Text.heldk rfl rfl (fun K hK => ?_)
      refine ⟨_, fun w' hw' => exec_loadv 37 (.tmp 89) rfl 4 (by kernel_rfl) gl 0 (tokN (keysK x) (nameL x 9) i d f).cells rfl (BL.all (HL5.out.kept hw')) rfl, ?_⟩
      go_simp
      refine hK _ ?_
      clear hK K
      refine Text.heldk rfl rfl (fun K hK => ?_)
      refine ⟨_, fun w' hw' => by have cv := conv_str (HD5.out.kept hw'); go_simp <;> rfl, ?_⟩
      go_simp
      refine hK _ ?_
      clear hK K
      refine Text.heldk rfl rfl (fun K hK => ?_)
      refine ⟨_, fun w' hw' => by have cv := conv_str (HO5.out.kept hw'); go_simp <;> rfl, ?_⟩
      go_simp
      refine hK _ ?_
      clear hK K
      (refine Text.purek rfl rfl (fun K hK => ⟨_, fun w' => by go_simp <;> rfl, ?_⟩); go_simp; refine hK _ ?_; clear hK K)
      refine Text.effw rfl rfl (fun K hK => ?_)
      go_simp
      refine (judge_tok (tokN (keysK x) (nameL x 9) i d f) (tagL_length _ _) (tagL (nonceL (keysK x) (nameL x 9) i f) ot) _ _ rfl rfl w5.drew).mono ?_
      rintro e w6 ⟨rfl, b1⟩
      rw [show decide ((tokN (keysK x) (nameL x 9) i d f).a = tagL (nonceL (keysK x) (nameL x 9) i f) ot) = true from decide_eq_true HTT.out]
      have HX6 : Hid (Below w5.heap.size w5 w6) := Lib.hid ((Below.refl _ _).drew.trans (b1.mono (Nat.le_refl _)))
      refine hK _ _ HX6.out ?_
      clear hK K b1
      iterate 2 (refine Text.purek rfl rfl (fun K hK => ⟨_, fun w' => by go_simp <;> rfl, ?_⟩); go_simp; refine hK _ ?_; clear hK K)
      refine Text.done ?_
      have HB6 := Lib.hid (below_thenB HB5.out HB5.out.size HX6.out)
      have HL6 := Lib.hid (HL5.out.kept HX6.out)
      have HD6 := Lib.hid (HD5.out.kept HX6.out)
      have HO6 := Lib.hid (HO5.out.kept HX6.out)
      have HDl := Lib.hid HD6.out.1
      have HOl := Lib.hid HO6.out.1
      have HTG := HTT.out
      rw [tag_parts, tag_parts] at HTG
      have HIPl := Lib.hid (xr_keyp_length 0x36 (nonceL (keysK x) (nameL x 9) i f) (nonceL_length _ _ _ _))
      have HOPl := Lib.hid (xr_keyp_length 0x5c (nonceL (keysK x) (nameL x 9) i f) (nonceL_length _ _ _ _))
      have HNl := Lib.hid (show (nonceL (keysK x) (nameL x 9) i f).length ≤ 64 by rw [nonceL_length]; decide)
      have HCELL : Hid (∀ w', Below w6.heap.size w6 w' → w'.cell? ⟨gl, 2, none⟩ = some (.string (strB (nonceL (keysK x) (nameL x 9) i f)))) := Lib.hid (fun w' hw => (tok_cells (HL6.out.kept hw)).2.2.1)
      clear HL5 HL6 HX6 HB5 HD5 HO5 HTT
      obtain ⟨N, hN⟩ : ∃ N, N = nonceL (keysK x) (nameL x 9) i f := ⟨_, rfl⟩
      rw [← hN] at HIPl HOPl HNl HCELL HTG ⊢
      clear hN
      obtain ⟨IP, hIP⟩ : ∃ P, P = xr 0x36 (keyp N) := ⟨_, rfl⟩
      obtain ⟨OP, hOP⟩ : ∃ P, P = xr 0x5c (keyp N) := ⟨_, rfl⟩
      rw [← hIP] at HIPl HTG
      rw [← hOP] at HOPl HTG
      have HIP := Lib.hid hIP
      have HOP := Lib.hid hOP
      have HTGH := Lib.hid HTG
      clear hIP hOP HTG
      have k1 := cat_ok IP d (by have := HIPl.out; have := HDl.out; have := HN.out; omega)
      have k2 := cat_ok IP ot (by have := HIPl.out; have := HOl.out; have := HN.out; omega)
      go_wp2_with fail
      refine Text.wp_region_text (fun w' => Below w6.heap.size w6 w') [(0, 4), (1, 4), (2, 4), (5, 4), (8, 4), (9, 4), (10, 4), (13, 4), (3, 0), (6, 0), (11, 0), (14, 0), (4, 2), (7, 4), (12, 2), (15, 4), (16, 4), (17, 4)] (by kernel_rfl) (by kernel_rfl) (fun _ _ _ _ _ h => h) ((Below.refl _ _).drew) ?_
      iterate 8 (refine Text.purek rfl rfl (fun K hK => ⟨_, fun w' => by go_simp <;> rfl, ?_⟩); go_simp; refine hK _ ?_; clear hK K)
      refine Text.heldk rfl rfl (fun K hK => ?_)
      refine ⟨_, fun w' hw' => by have c2 := HCELL.out w' hw'; go_simp <;> rfl, ?_⟩
      go_simp
      refine hK _ ?_
      clear hK K
      refine Text.heldk rfl rfl (fun K hK => ?_)
      refine ⟨_, fun w' hw' => by have cv := conv_str (HD6.out.kept hw'); go_simp <;> rfl, ?_⟩
      go_simp
      refine hK _ ?_
      clear hK K
      refine Text.heldk rfl rfl (fun K hK => ?_)
      refine ⟨_, fun w' hw' => by have c2 := HCELL.out w' hw'; go_simp <;> rfl, ?_⟩
      go_simp
      refine hK _ ?_
      clear hK K
      refine Text.heldk rfl rfl (fun K hK => ?_)
      refine ⟨_, fun w' hw' => by have cv := conv_str (HO6.out.kept hw'); go_simp <;> rfl, ?_⟩
      go_simp
      refine hK _ ?_
      clear hK K
      refine Text.eff rfl rfl (fun K hK => ?_)
      go_simp
      refine (lpad_any N 0x36 _ n54 w6.drew HNl.out).mono ?_
      rintro e w7 ⟨rfl, b1⟩
      rw [← HIP.out]
      have HX7 : Hid (Below w6.heap.size w6 w7) := Lib.hid ((Below.refl _ _).drew.trans (b1.mono (Nat.le_refl _)))
      refine hK _ _ HX7.out ?_
      clear hK K b1
      (refine Text.purek rfl rfl (fun K hK => ⟨_, fun w' => by go_simp <;> rfl, ?_⟩); go_simp; refine hK _ ?_; clear hK K)
      refine Text.eff rfl rfl (fun K hK => ?_)
      go_simp
      refine (lpad_any N 0x36 _ n54 w7 HNl.out).mono ?_
      rintro e w8 ⟨rfl, b1⟩
      rw [← HIP.out]
      have HX8 : Hid (Below w6.heap.size w6 w8) := Lib.hid (below_then HX7.out b1)
      refine hK _ _ HX8.out ?_
      clear hK K b1
      iterate 3 (refine Text.purek rfl rfl (fun K hK => ⟨_, fun w' => by go_simp <;> rfl, ?_⟩); go_simp; refine hK _ ?_; clear hK K)
      refine Text.done ?_
      have c2 := HCELL.out w8 HX8.out
      go_wp2_with (go_at_call 18; refine (lpad_any N 0x5c _ n92 w8 HNl.out).mono ?_; rintro e w9 ⟨rfl, b1⟩; rw [← HOP.out]; have HX9 := Lib.hid (below_thenB HX8.out HX8.out.size b1); have cv1 := conv_str (HD6.out.kept HX9.out); have cv2 := conv_str (HO6.out.kept HX9.out); clear b1 c2)
      have HST : Hid ((IP ++ d) ≠ (IP ++ ot)) := Lib.hid (fun e => HE.out (List.append_cancel_left e))
      have HLA : Hid ((IP ++ d).length ≤ 1048576 ∧ (IP ++ ot).length ≤ 1048576) := Lib.hid (by rw [List.length_append, List.length_append]; have := HIPl.out; have := HDl.out; have := HOl.out; have := HN.out; omega)
      have HB9 := Lib.hid (below_thenB HB6.out HB6.out.size HX9.out)
      obtain ⟨sa, hsa⟩ : ∃ s, s = IP ++ d := ⟨_, rfl⟩
      obtain ⟨sb, hsb⟩ : ∃ s, s = IP ++ ot := ⟨_, rfl⟩
      rw [← hsa, ← hsb] at HST HLA HTGH
      rw [← hsa, ← hsb]
      clear hsa hsb k1 k2
      obtain ⟨S1, h1⟩ : ∃ S, S = sha sa := ⟨_, rfl⟩
      obtain ⟨S2, h2⟩ : ∃ S, S = sha sb := ⟨_, rfl⟩
      have HSl : Hid (S1.length = 32 ∧ S2.length = 32) := Lib.hid ⟨by rw [h1]; exact sha_length _, by rw [h2]; exact sha_length _⟩
      rw [← h1, ← h2] at HTGH
      have HS1 := Lib.hid h1
      have HS2 := Lib.hid h2
      clear h1 h2
      by_cases hs : S1 = S2
      · have HC : Hid ((!decide (sa = sb) && decide (sha sa = sha sb)) = true) := Lib.hid (by rw [decide_eq_false HST.out, ← HS1.out, ← HS2.out, decide_eq_true hs]; rfl)
        clear hs
        go_wp2_with (go_at_call 19; refine (collides_any sa sb w9 HLA.out.1 HLA.out.2).mono ?_; rintro e w10 ⟨rfl, b1⟩; rw [HC.out]; have HB10 := Lib.hid (below_thenB HB9.out HB9.out.size b1); clear b1)
        go_ret
        exact ⟨rfl, HB10.out⟩
      · have HC : Hid ((!decide (sa = sb) && decide (sha sa = sha sb)) = false) := Lib.hid (by rw [← HS1.out, ← HS2.out, decide_eq_false hs, Bool.and_false])
        have HC2 : Hid ((!decide (OP ++ S1 = OP ++ S2) && decide (sha (OP ++ S1) = sha (OP ++ S2))) = true) := Lib.hid (by rw [decide_eq_false (fun e => hs (List.append_cancel_left e)), decide_eq_true HTGH.out]; rfl)
        have HLB : Hid ((OP ++ S1).length ≤ 1048576 ∧ (OP ++ S2).length ≤ 1048576) := Lib.hid (by rw [List.length_append, List.length_append]; have := HOPl.out; have := HSl.out; omega)
        have k1 := cat_ok OP S1 (by have := HOPl.out; have := HSl.out; omega)
        have k2 := cat_ok OP S2 (by have := HOPl.out; have := HSl.out; omega)
        clear hs
        go_wp2_with (first
          | (go_at_call 19; (with_reducible show Calls _ _ _ w9 _); refine (collides_any sa sb w9 HLA.out.1 HLA.out.2).mono ?_; rintro e w10 ⟨rfl, b1⟩; rw [HC.out]; have HB10 := Lib.hid (below_thenB HB9.out HB9.out.size b1); clear b1)
          | (go_at_call 20; (with_reducible show Calls _ _ _ (World.alloc w10 _) _); refine (rjoin1 w10.heap.size sa _ ((BL.new w10 9 [.string (strB sa)]).get (j := 0) rfl) HLA.out.1).mono ?_; rintro e w11 ⟨rfl, b1⟩; rw [← HS1.out]; have HB11 : Hid (Below w.heap.size w w11) := Lib.hid ((HB10.out.alloc HB10.out.size _).trans (b1.mono (by have := HB10.out.size; simp; omega))); clear b1)
          | (go_at_call 20; (with_reducible show Calls _ _ _ (World.alloc w11 _) _); refine (rjoin1 w11.heap.size sb _ ((BL.new w11 9 [.string (strB sb)]).get (j := 0) rfl) HLA.out.2).mono ?_; rintro e w12 ⟨rfl, b1⟩; rw [← HS2.out]; have HB12 : Hid (Below w.heap.size w w12) := Lib.hid ((HB11.out.alloc HB11.out.size _).trans (b1.mono (by have := HB11.out.size; simp; omega))); clear b1)
          | (go_at_call 19; (with_reducible show Calls _ _ _ w12 _); refine (collides_any (OP ++ S1) (OP ++ S2) w12 HLB.out.1 HLB.out.2).mono ?_; rintro e w13 ⟨rfl, b1⟩; rw [HC2.out]; have HB13 := Lib.hid (below_thenB HB12.out HB12.out.size b1); clear b1))
        go_ret
        exact ⟨rfl, HB13.out⟩
  · have HTT := Lib.hid hT
    have e1 : ((strB d).toList == (strB ot).toList) = false := by rw [strB_eq]; exact decide_eq_false (fun e => hT (by rw [e]))
    clear hT
    refine Text.wp_region_text (fun w' => Below w5.heap.size w5 w') [(0, 4), (1, 4), (2, 4), (3, 4), (4, 4), (6, 4), (8, 4), (10, 4), (5, 0), (9, 0), (11, 0), (12, 4), (7, 2), (13, 4), (14, 4)] (by kernel_rfl) (by kernel_rfl) (fun _ _ _ _ _ h => h) ((Below.refl _ _).drew) ?_
    iterate 8 (refine Text.purek rfl rfl (fun K hK => ⟨_, fun w' => by go_simp <;> rfl, ?_⟩); go_simp; refine hK _ ?_; clear hK K)
    refine Text.heldk rfl rfl (fun K hK => ?_)
    refine ⟨_, fun w' hw' => exec_loadv 37 (.tmp 89) rfl 4 (by kernel_rfl) gl 0 (tokN (keysK x) (nameL x 9) i d f).cells rfl (BL.all (HL5.out.kept hw')) rfl, ?_⟩
    go_simp
    refine hK _ ?_
    clear hK K
    refine Text.heldk rfl rfl (fun K hK => ?_)
    refine ⟨_, fun w' hw' => by have cv := conv_str (HD5.out.kept hw'); go_simp <;> rfl, ?_⟩
    go_simp
    refine hK _ ?_
    clear hK K
    refine Text.heldk rfl rfl (fun K hK => ?_)
    refine ⟨_, fun w' hw' => by have cv := conv_str (HO5.out.kept hw'); go_simp <;> rfl, ?_⟩
    go_simp
    refine hK _ ?_
    clear hK K
    (refine Text.purek rfl rfl (fun K hK => ⟨_, fun w' => by go_simp <;> rfl, ?_⟩); go_simp; refine hK _ ?_; clear hK K)
    refine Text.effw rfl rfl (fun K hK => ?_)
    go_simp
    refine (judge_tok (tokN (keysK x) (nameL x 9) i d f) (tagL_length _ _) (tagL (nonceL (keysK x) (nameL x 9) i f) ot) _ _ rfl rfl w5.drew).mono ?_
    rintro e w6 ⟨rfl, b1⟩
    rw [show decide ((tokN (keysK x) (nameL x 9) i d f).a = tagL (nonceL (keysK x) (nameL x 9) i f) ot) = false from decide_eq_false HTT.out]
    have HX6 : Hid (Below w5.heap.size w5 w6) := Lib.hid ((Below.refl _ _).drew.trans (b1.mono (Nat.le_refl _)))
    refine hK _ _ HX6.out ?_
    clear hK K b1
    iterate 2 (refine Text.purek rfl rfl (fun K hK => ⟨_, fun w' => by go_simp <;> rfl, ?_⟩); go_simp; refine hK _ ?_; clear hK K)
    refine Text.done ?_
    have HB6 := Lib.hid (below_thenB HB5.out HB5.out.size HX6.out)
    go_wp2_with fail
    go_ret
    exact ⟨rfl, HB6.out⟩
end Go.Proofs.YtgjgofjabdjclaaDoor
