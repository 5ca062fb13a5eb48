/- The law ChallengeHonest: its walk. -/
import Derived.Test.YtgjgofjabdjclaaDoorA18
import Derived.Test.YtgjgofjabdjclaaDoorCh2m
import Derived.LoopTactic
import Derived.Deep.QuietTactic
import Derived.BigQuiet
namespace Go.Proofs.YtgjgofjabdjclaaDoor
open Go Go.RowKit Gf Sha

theorem nonce_ok' (Kx : Ky) (s : List UInt8) (j n : Nat) (v : Value) (hv : v = .int .i64 (n : Int)) (w : World) (hT : Tabs w) (h : nonB Kx s (j : Int) (n : Int) = true) :
    Calls Tryd.prog 29 #[Kx.val, .agg #[.string (strB s), .int .i64 (j : Int)], v] w fun e w' => e = .returned (.tuple #[.string (strB (nonceL Kx s j n)), .int .i64 0]) ∧ Below w.heap.size w w' := by
  subst hv
  exact nonce_ok Kx s j n w hT h
theorem judge_tok (t : Tk) (ht : t.a.length = 32) (a : List UInt8) (v u : Value) (hv : v = .agg t.cells.toArray) (hu : u = .string (strB a)) (w : World) :
    Calls Tryd.prog 17 #[v, u] w fun e w' => e = .returned (.bool (decide (t.a = a))) ∧ Below w.heap.size w w' := by
  subst hv hu
  refine (judge_any t a w).mono ?_
  rintro e w' ⟨rfl, b⟩
  rw [decide_eq_true ht, Bool.true_and]
  exact ⟨rfl, b⟩
theorem tokN_one (K : Ky) (s : List UInt8) (i : Nat) (d : List UInt8) (n : Nat) : ∀ v ∈ (tokN K s i d n).cells, v.oneCell' = true := by
  intro v hv
  simp only [Tk.cells, List.mem_cons, List.not_mem_nil, or_false] at hv
  rcases hv with rfl | rfl | rfl | rfl <;> rfl
theorem tokL_get (K : Ky) (s : List UInt8) (i : Nat) (d : List UInt8) (f c k : Nat) (h : k < (tokL K s i d f c).length) : (tokL K s i d f c)[k] = tokN K s i d (f + k) := by simp [tokL]
theorem tokL_length (K : Ky) (s : List UInt8) (i : Nat) (d : List UInt8) (f c : Nat) : (tokL K s i d f c).length = c := by simp [tokL]
def pidX (s : List UInt8) (i : Nat) : List Value := [.string (strB s), .int .i64 (i : Int)]
theorem pidX_one (s : List UInt8) (i : Nat) : ∀ v ∈ pidX s i, v.oneCell' = true := by
  intro v hv
  simp only [pidX, List.mem_cons, List.not_mem_nil, or_false] at hv
  rcases hv with rfl | rfl <;> rfl
theorem tok_cells {w : World} {g : Nat} {t : TypeId} {K : Ky} {s d : List UInt8} {i n : Nat} (h : BL w g t (tokN K s i d n).cells) :
    w.cell? ⟨g, 0, none⟩ = some (.string (strB s)) ∧ w.cell? ⟨g, 1, none⟩ = some (.int .i64 (i : Int)) ∧ w.cell? ⟨g, 2, none⟩ = some (.string (strB (nonceL K s i n))) ∧ w.cell? ⟨g, 3, none⟩ = some (.string (strB (tagL (nonceL K s i n) d))) :=
  ⟨h.get (j := 0) rfl, h.get (j := 1) rfl, h.get (j := 2) rfl, h.get (j := 3) rfl⟩
theorem pid_cells {w : World} {g : Nat} {t : TypeId} {s : List UInt8} {i : Nat} (h : BL w g t (pidX s i)) :
    w.cell? ⟨g, 0, none⟩ = some (.string (strB s)) ∧ w.cell? ⟨g, 1, none⟩ = some (.int .i64 (i : Int)) :=
  ⟨h.get (j := 0) rfl, h.get (j := 1) rfl⟩

set_option maxRecDepth 100000 in
set_option maxHeartbeats 8000000 in
theorem honest_walk (x : UInt8) (i : Int) (A : Option Addr) (n c : Nat) (d : List UInt8) (f k : Int) (ot : List UInt8) (w : World) (hT : Tabs w) (hd : BS w A n c d) :
    Calls Tryd.prog 8 #[B x, .int .i64 i, .slice A n c, .int .i64 f, .int .i64 k, .string (strB ot)] w fun e w' => e = .returned (.bool true) ∧ Below w.heap.size w w' := by
  have HT := Lib.hid hT
  have HD := Lib.hid hd
  clear hT hd
  by_cases g1 : 1 ≤ n
  case neg =>
    have dg1 : decide ((n : Int) < 1) = true := decide_eq_true (by omega)
    clear g1
    go_enter Tryd.func8, Tryd.ntmps8
    go_wp2_with (first
      | (go_at_call 12; (with_reducible show Calls _ _ _ w _); refine (awake_any w HT.out).mono ?_; rintro e w1 ⟨rfl, b1⟩; have HB1 := Lib.hid b1; clear b1)
      | (go_at_call 12; refine (awake_any w1 (HT.out.kept HB1.out)).mono ?_; rintro e w2 ⟨rfl, b1⟩; have HB2 := Lib.hid (below_then HB1.out b1); clear b1))
    go_ret
    exact ⟨rfl, HB2.out⟩
  have dg1 : decide ((n : Int) < 1) = false := decide_eq_false (by omega)
  by_cases g2 : n ≤ 300
  case neg =>
    have dg2 : decide ((300 : Int) < (n : Int)) = true := decide_eq_true (by omega)
    clear g1 g2
    go_enter Tryd.func8, Tryd.ntmps8
    go_wp2_with (first
      | (go_at_call 12; (with_reducible show Calls _ _ _ w _); refine (awake_any w HT.out).mono ?_; rintro e w1 ⟨rfl, b1⟩; have HB1 := Lib.hid b1; clear b1)
      | (go_at_call 12; refine (awake_any w1 (HT.out.kept HB1.out)).mono ?_; rintro e w2 ⟨rfl, b1⟩; have HB2 := Lib.hid (below_then HB1.out b1); clear b1))
    go_ret
    exact ⟨rfl, HB2.out⟩
  have dg2 : decide ((300 : Int) < (n : Int)) = false := decide_eq_false (by omega)
  by_cases g3 : 0 ≤ i
  case neg =>
    have dg3 : decide (i < 0) = true := decide_eq_true (by omega)
    clear g1 g2 g3
    go_enter Tryd.func8, Tryd.ntmps8
    go_wp2_with (first
      | (go_at_call 12; (with_reducible show Calls _ _ _ w _); refine (awake_any w HT.out).mono ?_; rintro e w1 ⟨rfl, b1⟩; have HB1 := Lib.hid b1; clear b1)
      | (go_at_call 12; refine (awake_any w1 (HT.out.kept HB1.out)).mono ?_; rintro e w2 ⟨rfl, b1⟩; have HB2 := Lib.hid (below_then HB1.out b1); clear b1))
    go_ret
    exact ⟨rfl, HB2.out⟩
  have dg3 : decide (i < 0) = false := decide_eq_false (by omega)
  by_cases g4 : i < 16
  case neg =>
    have dg4 : decide ((16 : Int) ≤ i) = true := decide_eq_true (by omega)
    clear g1 g2 g3 g4
    go_enter Tryd.func8, Tryd.ntmps8
    go_wp2_with (first
      | (go_at_call 12; (with_reducible show Calls _ _ _ w _); refine (awake_any w HT.out).mono ?_; rintro e w1 ⟨rfl, b1⟩; have HB1 := Lib.hid b1; clear b1)
      | (go_at_call 12; refine (awake_any w1 (HT.out.kept HB1.out)).mono ?_; rintro e w2 ⟨rfl, b1⟩; have HB2 := Lib.hid (below_then HB1.out b1); clear b1))
    go_ret
    exact ⟨rfl, HB2.out⟩
  have dg4 : decide ((16 : Int) ≤ i) = false := decide_eq_false (by omega)
  by_cases g5 : 0 ≤ f
  case neg =>
    have dg5 : decide (f < 0) = true := decide_eq_true (by omega)
    clear g1 g2 g3 g4 g5
    go_enter Tryd.func8, Tryd.ntmps8
    go_wp2_with (first
      | (go_at_call 12; (with_reducible show Calls _ _ _ w _); refine (awake_any w HT.out).mono ?_; rintro e w1 ⟨rfl, b1⟩; have HB1 := Lib.hid b1; clear b1)
      | (go_at_call 12; refine (awake_any w1 (HT.out.kept HB1.out)).mono ?_; rintro e w2 ⟨rfl, b1⟩; have HB2 := Lib.hid (below_then HB1.out b1); clear b1))
    go_ret
    exact ⟨rfl, HB2.out⟩
  have dg5 : decide (f < 0) = false := decide_eq_false (by omega)
  by_cases g6 : f ≤ 549755813888
  case neg =>
    have dg6 : decide ((549755813888 : Int) < f) = true := decide_eq_true (by omega)
    clear g1 g2 g3 g4 g5 g6
    go_enter Tryd.func8, Tryd.ntmps8
    go_wp2_with (first
      | (go_at_call 12; (with_reducible show Calls _ _ _ w _); refine (awake_any w HT.out).mono ?_; rintro e w1 ⟨rfl, b1⟩; have HB1 := Lib.hid b1; clear b1)
      | (go_at_call 12; refine (awake_any w1 (HT.out.kept HB1.out)).mono ?_; rintro e w2 ⟨rfl, b1⟩; have HB2 := Lib.hid (below_then HB1.out b1); clear b1))
    go_ret
    exact ⟨rfl, HB2.out⟩
  have dg6 : decide ((549755813888 : Int) < f) = false := decide_eq_false (by omega)
  by_cases g7 : 0 ≤ k
  case neg =>
    have dg7 : decide (k < 0) = true := decide_eq_true (by omega)
    clear g1 g2 g3 g4 g5 g6 g7
    go_enter Tryd.func8, Tryd.ntmps8
    go_wp2_with (first
      | (go_at_call 12; (with_reducible show Calls _ _ _ w _); refine (awake_any w HT.out).mono ?_; rintro e w1 ⟨rfl, b1⟩; have HB1 := Lib.hid b1; clear b1)
      | (go_at_call 12; refine (awake_any w1 (HT.out.kept HB1.out)).mono ?_; rintro e w2 ⟨rfl, b1⟩; have HB2 := Lib.hid (below_then HB1.out b1); clear b1))
    go_ret
    exact ⟨rfl, HB2.out⟩
  have dg7 : decide (k < 0) = false := decide_eq_false (by omega)
  by_cases g8 : k ≤ 6
  case neg =>
    have dg8 : decide ((6 : Int) < k) = true := decide_eq_true (by omega)
    clear g1 g2 g3 g4 g5 g6 g7 g8
    go_enter Tryd.func8, Tryd.ntmps8
    go_wp2_with (first
      | (go_at_call 12; (with_reducible show Calls _ _ _ w _); refine (awake_any w HT.out).mono ?_; rintro e w1 ⟨rfl, b1⟩; have HB1 := Lib.hid b1; clear b1)
      | (go_at_call 12; refine (awake_any w1 (HT.out.kept HB1.out)).mono ?_; rintro e w2 ⟨rfl, b1⟩; have HB2 := Lib.hid (below_then HB1.out b1); clear b1))
    go_ret
    exact ⟨rfl, HB2.out⟩
  have dg8 : decide ((6 : Int) < k) = false := decide_eq_false (by omega)
  by_cases g9 : ot.length ≤ 64
  case neg =>
    have dg9 : decide ((64 : Int) < ((strB ot).size : Int)) = true := decide_eq_true (by rw [strB_size]; omega)
    clear g1 g2 g3 g4 g5 g6 g7 g8 g9
    go_enter Tryd.func8, Tryd.ntmps8
    go_wp2_with (first
      | (go_at_call 12; (with_reducible show Calls _ _ _ w _); refine (awake_any w HT.out).mono ?_; rintro e w1 ⟨rfl, b1⟩; have HB1 := Lib.hid b1; clear b1)
      | (go_at_call 12; refine (awake_any w1 (HT.out.kept HB1.out)).mono ?_; rintro e w2 ⟨rfl, b1⟩; have HB2 := Lib.hid (below_then HB1.out b1); clear b1))
    go_ret
    exact ⟨rfl, HB2.out⟩
  have dg9 : decide ((64 : Int) < ((strB ot).size : Int)) = false := decide_eq_false (by rw [strB_size]; omega)
  obtain ⟨i, rfl⟩ := Int.eq_ofNat_of_zero_le g3
  obtain ⟨f, rfl⟩ := Int.eq_ofNat_of_zero_le g5
  obtain ⟨k, rfl⟩ := Int.eq_ofNat_of_zero_le g7
  have HDB : Hid (dataB n = true) := Lib.hid (by simp only [dataB, Bool.and_eq_true, decide_eq_true_eq]; omega)
  have HRB : Hid (rangeB (f : Int) (k : Int) = true) := Lib.hid (by simp only [rangeB, Bool.and_eq_true, decide_eq_true_eq]; omega)
  have HIB : Hid (idB (nameL x 0) (i : Int) = true) := Lib.hid (by simp only [idB, Bool.and_eq_true, decide_eq_true_eq]; exact ⟨rfl, by omega, by omega⟩)
  have HNB : Hid (∀ m : Nat, (m : Int) ≤ 1099511627776 → nonB (keysK x) (nameL x 0) (i : Int) (m : Int) = true) := Lib.hid (fun m hm => by simp only [nonB, Bool.and_eq_true, decide_eq_true_eq]; exact ⟨keysK_ok x, HIB.out, by omega, hm⟩)
  clear g1 g2 g3 g4 g5 g7 g9
  go_enter Tryd.func8, Tryd.ntmps8
  go_wp2_with (first
    | (go_at_call 12; (with_reducible show Calls _ _ _ w _); refine (awake_any w HT.out).mono ?_; rintro e w1 ⟨rfl, b1⟩; have HB1 := Lib.hid b1; clear b1)
    | (go_at_call 15; refine (name_c x 0 _ _ rfl rfl w1).mono ?_; rintro e w2 ⟨rfl, b1⟩; have HB2 := Lib.hid (below_then HB1.out b1); clear b1)
    | ((with_reducible show wpList _ _ _ (⟨some 13, _, _, _, _, _⟩ :: _) _ _); refine wpList_alloc _ rfl 33 rfl pidZ pidZero ?_; intro w3 a1 a2 a3; have HG3 := Lib.hid a1; have HX3 := Lib.hid a2; clear a1 a2 a3)
    | ((with_reducible show wpList _ _ _ (⟨none, _, _, _, _, _⟩ :: _) _ _); refine wpList_storev _ rfl 33 (.tmp 13) (.tmp 67) rfl 2 (by kernel_rfl) w2.heap.size 0 _ pidZ (pidX (nameL x 0) i) rfl rfl HG3.out rfl (pidX_one _ _) (by decide) ?_; intro w4 a1 a2 a3; have HG4 : Hid (BL w4 w2.heap.size 33 (pidX (nameL x 0) i)) := Lib.hid a1; have HX4 : Hid (Below w2.heap.size w2 w4) := Lib.hid (((Kp.of_below (S := fun _ => False) HX3.out).after a2 (fun i hi e => by omega)).below (Nat.le_refl _) (fun _ h => h.elim)); clear a1 a2 a3))
  have HB4 := Lib.hid (below_thenB HB2.out HB2.out.size HX4.out)
  clear HX3 HX4 HG3 dg1 dg2 dg3 dg4 dg5 dg6 dg7 dg8 dg9
  refine Text.wp_region_text (fun w' => Below w4.heap.size w4 w') [(0, 4), (3, 4), (4, 4), (5, 4), (2, 0), (1, 2), (6, 2), (7, 4), (8, 4), (9, 4), (10, 4), (11, 4)] (by kernel_rfl) (by kernel_rfl) (fun _ _ _ _ _ h => h) ((Below.refl _ _).drew) ?_
  iterate 4 (refine Text.purek rfl rfl (fun K hK => ⟨_, fun w' => by go_simp <;> rfl, ?_⟩); go_simp; refine hK _ ?_; clear hK K)
  refine Text.heldk rfl rfl (fun K hK => ?_)
  refine ⟨_, fun w' hw' => exec_loadv 33 (.tmp 13) rfl 2 (by kernel_rfl) w2.heap.size 0 (pidX (nameL x 0) i) rfl (BL.all (HG4.out.kept hw')) rfl, ?_⟩
  go_simp
  refine hK _ ?_
  clear hK K
  refine Text.eff rfl rfl (fun K hK => ?_)
  go_simp
  refine (keys_any x w4.drew).mono ?_
  rintro e w5 ⟨rfl, b1⟩
  have HX5 : Hid (Below w4.heap.size w4 w5) := Lib.hid ((Below.refl _ _).drew.trans (b1.mono (Nat.le_refl _)))
  refine hK _ _ HX5.out ?_
  clear hK K b1
  refine Text.eff rfl rfl (fun K hK => ?_)
  go_simp
  have HB5 := Lib.hid (below_thenB HB4.out HB4.out.size HX5.out)
  refine (tokens_yes (keysK x) (nameL x 0) d i n c f k A w5 (HD.out.kept HB5.out) (HT.out.kept HB5.out) (keysK_ok x) HIB.out HDB.out HRB.out).mono ?_
  rintro e w6 ⟨gl, nl, rfl, hnl, _, hl, b1⟩
  rw [tokL_length] at hnl
  subst hnl
  have HX6 : Hid (Below w4.heap.size w4 w6) := Lib.hid (below_then HX5.out b1)
  have HL6 := Lib.hid hl
  refine hK _ _ HX6.out ?_
  clear hK K b1 hl
  iterate 5 (refine Text.purek rfl rfl (fun K hK => ⟨_, fun w' => by go_simp <;> rfl, ?_⟩); go_simp; refine hK _ ?_; clear hK K)
  refine Text.done ?_
  have HB6 := Lib.hid (below_thenB HB4.out HB4.out.size HX6.out)
  have HG6 := Lib.hid (HG4.out.kept HX6.out)
  clear HX6 HX5 HG4 HB5 HB4
  have hk0 : 0 ≤ (k : Int) := by omega
  go_wp2_with fail
  go_loopw [88] (fun iv wr => ∃ j : Nat, j ≤ k ∧ iv = .int .i64 (j : Int) ∧ Hid (Below w6.heap.size w6 wr)) (fun iv _ => k - (intOf iv).toNat)
  case atStart => exact ⟨0, by omega, rfl, Lib.hid (Below.refl _ _)⟩
  case round =>
    obtain ⟨j, hj, rfl, hx⟩ := hrel
    obtain ⟨wx, hwx⟩ : ∃ x, x = wr := ⟨_, rfl⟩
    rw [← hwx] at hx ⊢
    clear hwx
    have HBx := Lib.hid (below_thenB HB6.out HB6.out.size hx.out)
    have HGx := Lib.hid (HG6.out.kept hx.out)
    by_cases hlt : j < k
    · have hat : At wx gl (0 + j * 4) (tokN (keysK x) (nameL x 0) i d (f + j)).cells := by
        have h1 := At.elem (f := Tk.cells) (s := 4) (fun _ => rfl) (BL.all (HL6.out.kept hx.out)) (k := j) (by rw [tokL_length]; exact hlt)
        rwa [tokL_get] at h1
      have HA := Lib.hid hat
      clear hat
      have hfj : (f : Int) + (j : Int) ≤ 549755813894 := by omega
      go_wp2_with (first
        | ((with_reducible show wpList _ _ _ (⟨some 92, _, _, _, _, _⟩ :: _) _ _); refine wpList_loadv _ rfl 37 (.tmp 91) rfl 4 (by kernel_rfl) gl (0 + j * 4) (tokN (keysK x) (nameL x 0) i d (f + j)).cells (by go_simp) HA.out rfl ?_)
        | ((with_reducible show wpList _ _ _ (⟨some 17, _, _, _, _, _⟩ :: _) _ _); refine wpList_alloc _ rfl 37 rfl tokZ tokZero ?_; intro w7 a1 a2 a3; have HV7 := Lib.hid a1; have HX7 := Lib.hid a2; clear a1 a2 a3)
        | ((with_reducible show wpList _ _ _ (⟨none, _, _, _, _, _⟩ :: _) _ _); refine wpList_storev _ rfl 37 (.tmp 17) (.tmp 92) rfl 4 (by kernel_rfl) wx.heap.size 0 _ tokZ (tokN (keysK x) (nameL x 0) i d (f + j)).cells rfl rfl HV7.out rfl (tokN_one _ _ _ _ _) (by decide) ?_; intro w8 a1 a2 a3; have HV8 : Hid (BL w8 wx.heap.size 37 (tokN (keysK x) (nameL x 0) i d (f + j)).cells) := Lib.hid a1; have HX8 : Hid (Below wx.heap.size wx w8) := Lib.hid (((Kp.of_below (S := fun _ => False) HX7.out).after a2 (fun i hi e => by omega)).below (Nat.le_refl _) (fun _ h => h.elim)); clear a1 a2 a3))
      have HG8 := Lib.hid (HGx.out.kept HX8.out)
      have HB8 := Lib.hid (below_thenB HBx.out HBx.out.size HX8.out)
      clear HA HV7 HX7
      refine Text.wp_region_text (fun w' => Below w8.heap.size w8 w') [(0, 4), (3, 4), (4, 4), (5, 4), (2, 0), (1, 2), (6, 2), (7, 4), (8, 4), (9, 4), (10, 4), (11, 4)] (by kernel_rfl) (by kernel_rfl) (fun _ _ _ _ _ h => h) ((Below.refl _ _).drew) ?_
      iterate 4 (refine Text.purek rfl rfl (fun K hK => ⟨_, fun w' => by go_simp <;> rfl, ?_⟩); go_simp; refine hK _ ?_; clear hK K)
      refine Text.heldk rfl rfl (fun K hK => ?_)
      refine ⟨_, fun w' hw' => exec_loadv 33 (.tmp 13) rfl 2 (by kernel_rfl) w2.heap.size 0 (pidX (nameL x 0) i) rfl (BL.all (HG8.out.kept hw')) rfl, ?_⟩
      go_simp
      refine hK _ ?_
      clear hK K
      refine Text.eff rfl rfl (fun K hK => ?_)
      go_simp
      refine (keys_any x w8.drew).mono ?_
      rintro e w9 ⟨rfl, b1⟩
      have HX9 : Hid (Below w8.heap.size w8 w9) := Lib.hid ((Below.refl _ _).drew.trans (b1.mono (Nat.le_refl _)))
      refine hK _ _ HX9.out ?_
      clear hK K b1
      refine Text.eff rfl rfl (fun K hK => ?_)
      go_simp
      have HB9 := Lib.hid (below_thenB HB8.out HB8.out.size HX9.out)
      refine (nonce_ok' (keysK x) (nameL x 0) i (f + j) _ (by rw [show IntKind.i64.wrap ((f : Int) + (j : Int)) = (f : Int) + j from by rw [IntKind.wrap_i64]; omega, Int.natCast_add]) w9 (HT.out.kept HB9.out) (HNB.out (f + j) (by omega))).mono ?_
      rintro e w10 ⟨rfl, b1⟩
      have HX10 : Hid (Below w8.heap.size w8 w10) := Lib.hid (below_then HX9.out b1)
      refine hK _ _ HX10.out ?_
      clear hK K b1
      iterate 5 (refine Text.purek rfl rfl (fun K hK => ⟨_, fun w' => by go_simp <;> rfl, ?_⟩); go_simp; refine hK _ ?_; clear hK K)
      refine Text.done ?_
      have HB10 := Lib.hid (below_thenB HB8.out HB8.out.size HX10.out)
      have HV10 := Lib.hid (HV8.out.kept HX10.out)
      have HG10 := Lib.hid (HG8.out.kept HX10.out)
      have HXx10 := Lib.hid (below_thenB HX8.out HX8.out.size HX10.out)
      clear HX9 HX10 HB9 HB8 HG8 HV8 HX8
      have c2 : w10.cell? ⟨wx.heap.size, 2, none⟩ = some (.string (strB (nonceL (keysK x) (nameL x 0) i (f + j)))) := HV10.out.get (j := 2) rfl
      by_cases hO : (tokN (keysK x) (nameL x 0) i d (f + j)).a = ot
      · have HO := Lib.hid hO
        have hq : ((strB ot).toList == (strB (tagL (nonceL (keysK x) (nameL x 0) i (f + j)) d)).toList) = true := by rw [strB_eq]; exact decide_eq_true hO.symm
        clear hO
        go_wp2_with (first
          | (go_at_call 16; refine (answer_yes (nonceL (keysK x) (nameL x 0) i (f + j)) A n c d w10 (HD.out.kept HB10.out) (HT.out.kept HB10.out) (nonceL_length _ _ _ _) HDB.out).mono ?_; rintro e w11 ⟨rfl, b1⟩; have HB11 := Lib.hid (below_thenB HB10.out HB10.out.size b1); have HV11 := Lib.hid (HV10.out.kept b1); have HG11 := Lib.hid (HG10.out.kept b1); have HXx11 := Lib.hid (below_thenB HXx10.out HXx10.out.size b1); clear b1 c2; obtain ⟨c0, c1, c2, c3⟩ := tok_cells HV11.out; obtain ⟨q0, q1⟩ := pid_cells HG11.out)
          | (go_at_call 17; (with_reducible show Calls _ _ _ w11 _); refine (judge_tok (tokN (keysK x) (nameL x 0) i d (f + j)) (tagL_length _ _) (tagL (nonceL (keysK x) (nameL x 0) i (f + j)) d) _ _ rfl rfl w11).mono ?_; rintro e w12 ⟨rfl, b1⟩; rw [decide_eq_true (show (tokN (keysK x) (nameL x 0) i d (f + j)).a = tagL (nonceL (keysK x) (nameL x 0) i (f + j)) d from rfl)]; have HB12 := Lib.hid (below_thenB HB11.out HB11.out.size b1); have HV12 := Lib.hid (HV11.out.kept b1); have HG12 := Lib.hid (HG11.out.kept b1); have HXx12 := Lib.hid (below_thenB HXx11.out HXx11.out.size b1); clear b1 c0 c1 c2 c3 q0 q1; obtain ⟨c0, c1, c2, c3⟩ := tok_cells HV12.out; obtain ⟨q0, q1⟩ := pid_cells HG12.out)
          | (go_at_call 17; (with_reducible show Calls _ _ _ w12 _); refine (judge_tok (tokN (keysK x) (nameL x 0) i d (f + j)) (tagL_length _ _) ot _ _ rfl rfl w12).mono ?_; rintro e w13 ⟨rfl, b1⟩; rw [show decide ((tokN (keysK x) (nameL x 0) i d (f + j)).a = ot) = true from decide_eq_true HO.out]; have HXx13 := Lib.hid (below_thenB HXx12.out HXx12.out.size b1); clear b1 c0 c1 c2 c3 q0 q1))
        go_roundw
        case rel => exact ⟨j + 1, by omega, by go_num, Lib.hid (below_thenB hx.out hx.out.size HXx13.out)⟩
        case measure => simp [intOf]; omega
      · have HO := Lib.hid hO
        have hq : ((strB ot).toList == (strB (tagL (nonceL (keysK x) (nameL x 0) i (f + j)) d)).toList) = false := by rw [strB_eq]; exact decide_eq_false (fun e => hO e.symm)
        clear hO
        go_wp2_with (first
          | (go_at_call 16; refine (answer_yes (nonceL (keysK x) (nameL x 0) i (f + j)) A n c d w10 (HD.out.kept HB10.out) (HT.out.kept HB10.out) (nonceL_length _ _ _ _) HDB.out).mono ?_; rintro e w11 ⟨rfl, b1⟩; have HB11 := Lib.hid (below_thenB HB10.out HB10.out.size b1); have HV11 := Lib.hid (HV10.out.kept b1); have HG11 := Lib.hid (HG10.out.kept b1); have HXx11 := Lib.hid (below_thenB HXx10.out HXx10.out.size b1); clear b1 c2; obtain ⟨c0, c1, c2, c3⟩ := tok_cells HV11.out; obtain ⟨q0, q1⟩ := pid_cells HG11.out)
          | (go_at_call 17; (with_reducible show Calls _ _ _ w11 _); refine (judge_tok (tokN (keysK x) (nameL x 0) i d (f + j)) (tagL_length _ _) (tagL (nonceL (keysK x) (nameL x 0) i (f + j)) d) _ _ rfl rfl w11).mono ?_; rintro e w12 ⟨rfl, b1⟩; rw [decide_eq_true (show (tokN (keysK x) (nameL x 0) i d (f + j)).a = tagL (nonceL (keysK x) (nameL x 0) i (f + j)) d from rfl)]; have HB12 := Lib.hid (below_thenB HB11.out HB11.out.size b1); have HV12 := Lib.hid (HV11.out.kept b1); have HG12 := Lib.hid (HG11.out.kept b1); have HXx12 := Lib.hid (below_thenB HXx11.out HXx11.out.size b1); clear b1 c0 c1 c2 c3 q0 q1; obtain ⟨c0, c1, c2, c3⟩ := tok_cells HV12.out; obtain ⟨q0, q1⟩ := pid_cells HG12.out)
          | (go_at_call 17; (with_reducible show Calls _ _ _ w12 _); refine (judge_tok (tokN (keysK x) (nameL x 0) i d (f + j)) (tagL_length _ _) ot _ _ rfl rfl w12).mono ?_; rintro e w13 ⟨rfl, b1⟩; rw [show decide ((tokN (keysK x) (nameL x 0) i d (f + j)).a = ot) = false from decide_eq_false HO.out]; have HXx13 := Lib.hid (below_thenB HXx12.out HXx12.out.size b1); clear b1 c0 c1 c2 c3 q0 q1))
        go_roundw
        case rel => exact ⟨j + 1, by omega, by go_num, Lib.hid (below_thenB hx.out hx.out.size HXx13.out)⟩
        case measure => simp [intOf]; omega
    · obtain rfl : j = k := by omega
      go_wp2_with (go_at_call 17; refine (judge_any ⟨[], 0, [], []⟩ [] wx).mono ?_; rintro e w11 ⟨rfl, b1⟩; have HB11 := Lib.hid (below_thenB HBx.out HBx.out.size b1); clear b1; rw [show (decide (([] : List UInt8).length = 32) && decide (([] : List UInt8) = [])) = false from rfl])
      go_ret
      exact ⟨rfl, HB11.out⟩
end Go.Proofs.YtgjgofjabdjclaaDoor
