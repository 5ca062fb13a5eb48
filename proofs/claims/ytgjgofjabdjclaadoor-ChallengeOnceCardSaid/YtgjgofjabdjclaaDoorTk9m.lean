/- The law's small and same; Nonce, Answer and Tokens, of the program and of the reference, for all arguments. -/
import Derived.Test.YtgjgofjabdjclaaDoorRtkm
namespace Go.Proofs.YtgjgofjabdjclaaDoor
open Go Go.RowKit Gf Sha

set_option maxRecDepth 100000 in
set_option maxHeartbeats 1000000 in
theorem small_any (Kx : Ky) (s : List UInt8) (i : Int) (A : Option Addr) (n c : Nat) (w : World) :
    Calls Tryd.prog 28 #[Kx.val, .agg #[.string (strB s), .int .i64 i], .slice A n c] w fun e w' => ∃ b, e = .returned (.bool b) ∧ Below w.heap.size w w' := by
  obtain ⟨X1, x1⟩ : ∃ X, IntKind.i64.wrap (((strB Kx.nm).size : Int) + ((strB Kx.st).size : Int)) = X := ⟨_, rfl⟩
  obtain ⟨X2, x2⟩ : ∃ X, IntKind.i64.wrap (X1 + ((strB Kx.ck).size : Int)) = X := ⟨_, rfl⟩
  obtain ⟨X3, x3⟩ : ∃ X, IntKind.i64.wrap (X2 + ((strB Kx.ix).size : Int)) = X := ⟨_, rfl⟩
  obtain ⟨X4, x4⟩ : ∃ X, IntKind.i64.wrap (X3 + ((strB Kx.tk).size : Int)) = X := ⟨_, rfl⟩
  by_cases h4 : X4 ≤ 400
  · have d4 : decide (X4 ≤ 400) = true := decide_eq_true h4
    clear h4
    by_cases h5 : ((strB s).size : Int) ≤ 64
    · have d5 : decide (((strB s).size : Int) ≤ 64) = true := decide_eq_true h5
      clear h5
      go_enter Tryd.func28, Tryd.ntmps28
      go_wp2_with (first
        | ((with_reducible show wpList _ _ _ (⟨some 3, _, _, _, _, _⟩ :: _) _ _); refine wpList_box _ rfl 29 (.tmp 0) rfl Kx.cells rfl ?_; intro w1 a1 a2 a3; have HG1 := Lib.hid a1; have HB1 := Lib.hid a2; clear a1 a2 a3)
        | ((with_reducible show wpList _ _ _ (⟨some 4, _, _, _, _, _⟩ :: _) _ _); refine wpList_box _ rfl 33 (.tmp 1) rfl [.string (strB s), .int .i64 i] rfl ?_; intro w2 a1 a2 a3; have HG2 := HG1.out.kept a2; have HB2 := Lib.hid (below_then HB1.out (a2.mono (Nat.le_refl _))); have q0 := BL.get HG2 (j := 0) rfl; have q1 := BL.get HG2 (j := 1) rfl; have q2 := BL.get HG2 (j := 2) rfl; have q3 := BL.get HG2 (j := 3) rfl; have q4 := BL.get HG2 (j := 4) rfl; have p0 := BL.get a1 (j := 0) rfl; clear a1 a2 a3 HG2))
      go_ret
      exact ⟨_, rfl, HB2.out⟩
    · have d5 : decide (((strB s).size : Int) ≤ 64) = false := decide_eq_false h5
      clear h5
      go_enter Tryd.func28, Tryd.ntmps28
      go_wp2_with (first
        | ((with_reducible show wpList _ _ _ (⟨some 3, _, _, _, _, _⟩ :: _) _ _); refine wpList_box _ rfl 29 (.tmp 0) rfl Kx.cells rfl ?_; intro w1 a1 a2 a3; have HG1 := Lib.hid a1; have HB1 := Lib.hid a2; clear a1 a2 a3)
        | ((with_reducible show wpList _ _ _ (⟨some 4, _, _, _, _, _⟩ :: _) _ _); refine wpList_box _ rfl 33 (.tmp 1) rfl [.string (strB s), .int .i64 i] rfl ?_; intro w2 a1 a2 a3; have HG2 := HG1.out.kept a2; have HB2 := Lib.hid (below_then HB1.out (a2.mono (Nat.le_refl _))); have q0 := BL.get HG2 (j := 0) rfl; have q1 := BL.get HG2 (j := 1) rfl; have q2 := BL.get HG2 (j := 2) rfl; have q3 := BL.get HG2 (j := 3) rfl; have q4 := BL.get HG2 (j := 4) rfl; have p0 := BL.get a1 (j := 0) rfl; clear a1 a2 a3 HG2))
      go_ret
      exact ⟨_, rfl, HB2.out⟩
  · have d4 : decide (X4 ≤ 400) = false := decide_eq_false h4
    clear h4
    go_enter Tryd.func28, Tryd.ntmps28
    go_wp2_with (first
      | ((with_reducible show wpList _ _ _ (⟨some 3, _, _, _, _, _⟩ :: _) _ _); refine wpList_box _ rfl 29 (.tmp 0) rfl Kx.cells rfl ?_; intro w1 a1 a2 a3; have HG1 := Lib.hid a1; have HB1 := Lib.hid a2; clear a1 a2 a3)
      | ((with_reducible show wpList _ _ _ (⟨some 4, _, _, _, _, _⟩ :: _) _ _); refine wpList_box _ rfl 33 (.tmp 1) rfl [.string (strB s), .int .i64 i] rfl ?_; intro w2 a1 a2 a3; have HG2 := HG1.out.kept a2; have HB2 := Lib.hid (below_then HB1.out (a2.mono (Nat.le_refl _))); have q0 := BL.get HG2 (j := 0) rfl; have q1 := BL.get HG2 (j := 1) rfl; have q2 := BL.get HG2 (j := 2) rfl; have q3 := BL.get HG2 (j := 3) rfl; have q4 := BL.get HG2 (j := 4) rfl; have p0 := BL.get a1 (j := 0) rfl; clear a1 a2 a3 HG2))
    go_ret
    exact ⟨_, rfl, HB2.out⟩

set_option maxRecDepth 100000 in
set_option maxHeartbeats 1000000 in
theorem same_any (v1 v2 : Value) (n : Nat) (L : List Tk) (w : World) (hn : L.length = n) (hn2 : n ≤ 1000) (h1 : RW w 37 4 v1 n (L.flatMap Tk.cells)) (h2 : RW w 37 4 v2 n (L.flatMap Tk.cells)) :
    Calls Tryd.prog 33 #[v1, v2] w fun e w' => e = .returned (.bool true) ∧ Below w.heap.size w w' := by
  obtain ⟨A1, c1, rfl, _⟩ := h1.form
  obtain ⟨A2, c2, rfl, _⟩ := h2.form
  have H1 := Lib.hid h1
  have H2 := Lib.hid h2
  have hn0 : 0 ≤ (n : Int) := by omega
  clear h1 h2
  go_enter Tryd.func33, Tryd.ntmps33
  go_wp2_with fail
  go_loopw [13] (fun iv wr => ∃ k : Nat, k ≤ n ∧ iv = .int .i64 (k : Int) ∧ Hid (Below w.heap.size w wr)) (fun iv _ => n - (intOf iv).toNat)
  case atStart => exact ⟨0, by omega, rfl, Lib.hid (Below.refl _ _)⟩
  case round =>
    obtain ⟨k, hk, rfl, hb⟩ := hrel
    obtain ⟨wx, hwx⟩ : ∃ x, x = wr := ⟨_, rfl⟩
    rw [← hwx] at hb ⊢
    clear hwx
    by_cases hlt : k < n
    · obtain ⟨g1, o1, c1', e, _, hat1⟩ := (H1.out.kept hb.out).at_ (by omega)
      cases e
      obtain ⟨g2, o2, c2', e, _, hat2⟩ := (H2.out.kept hb.out).at_ (by omega)
      cases e
      obtain ⟨x, hx⟩ : ∃ x, L[k]'(by omega) = x := ⟨_, rfl⟩
      have HA1 : Hid (At wx g1 (o1 + k * 4) x.cells) := Lib.hid (by have := At.elem (f := Tk.cells) (s := 4) (fun _ => rfl) hat1 (k := k) (by omega); rwa [hx] at this)
      have HA2 : Hid (At wx g2 (o2 + k * 4) x.cells) := Lib.hid (by have := At.elem (f := Tk.cells) (s := 4) (fun _ => rfl) hat2 (k := k) (by omega); rwa [hx] at this)
      have hki : (k : Int) < (n : Int) := by omega
      clear hat1 hat2 hx
      go_wp2_with fail
      refine Text.wp_region_text (fun w' => Below wx.heap.size wx w') [(0, 4), (1, 4), (2, 4), (4, 4), (5, 4), (6, 4), (3, 0), (7, 0), (8, 4)] (by kernel_rfl) (by kernel_rfl) (fun _ _ _ _ _ h => h) ((Below.refl _ _).drew) ?_
      iterate 6 (refine Text.purek rfl rfl (fun K hK => ⟨_, fun w' => by go_simp <;> rfl, ?_⟩); go_simp; refine hK _ ?_; clear hK K)
      refine Text.heldk rfl rfl (fun K hK => ?_)
      refine ⟨_, fun w' hw' => exec_loadv 37 (.tmp 18) rfl 4 (by kernel_rfl) g1 (o1 + k * 4) x.cells (by go_simp) (HA1.out.kept hw') rfl, ?_⟩
      go_simp
      refine hK _ ?_
      clear hK K
      refine Text.heldk rfl rfl (fun K hK => ?_)
      refine ⟨_, fun w' hw' => exec_loadv 37 (.tmp 22) rfl 4 (by kernel_rfl) g2 (o2 + k * 4) x.cells (by go_simp) (HA2.out.kept hw') rfl, ?_⟩
      go_simp
      refine hK _ ?_
      clear hK K
      (refine Text.purek rfl rfl (fun K hK => ⟨_, fun w' => by go_simp <;> rfl, ?_⟩); go_simp; refine hK _ ?_; clear hK K)
      refine Text.done ?_
      go_wp2_with fail
      go_roundw
      case rel => exact ⟨k + 1, by omega, by go_num, Lib.hid hb.out.drew⟩
      case measure => simp [intOf]; omega
    · obtain rfl : k = n := by omega
      have hki : ¬ (k : Int) < (k : Int) := by omega
      go_wp2_with fail
      go_ret
      exact ⟨rfl, hb.out⟩

/-- What Nonce gives. -/
def nonV (K : Ky) (s : List UInt8) (i n : Int) : List UInt8 := if nonB K s i n then nonceL K s i.toNat n.toNat else []
def errV (b : Bool) : Int := if b then 0 else 1
theorem nonB_nat {K : Ky} {s : List UInt8} {i n : Int} (h : nonB K s i n = true) : 0 ≤ i ∧ 0 ≤ n := by
  simp only [nonB, idB, Bool.and_eq_true, decide_eq_true_eq] at h
  exact ⟨h.2.1.2.1, h.2.2.1⟩
theorem nonce_all (Kx : Ky) (s : List UInt8) (i n : Int) (w : World) (hT : Tabs w) :
    Calls Tryd.prog 29 #[Kx.val, .agg #[.string (strB s), .int .i64 i], .int .i64 n] w fun e w' => e = .returned (.tuple #[.string (strB (nonV Kx s i n)), .int .i64 (errV (nonB Kx s i n))]) ∧ Below w.heap.size w w' := by
  by_cases h : nonB Kx s i n = true
  · obtain ⟨h1, h2⟩ := nonB_nat h
    obtain ⟨i, rfl⟩ := Int.eq_ofNat_of_zero_le h1
    obtain ⟨n, rfl⟩ := Int.eq_ofNat_of_zero_le h2
    rw [nonV, errV, if_pos h, if_pos h]
    exact nonce_ok Kx s i n w hT h
  · rw [nonV, errV, if_neg h, if_neg h]
    exact nonce_not Kx s i n w (by simpa using h)
theorem rnonce_all (Kx : Ky) (s : List UInt8) (i n : Int) (w : World) :
    Calls Tryd.prog 30 #[Kx.val, .agg #[.string (strB s), .int .i64 i], .int .i64 n] w fun e w' => e = .returned (.tuple #[.string (strB (nonV Kx s i n)), .int .i64 (errV (nonB Kx s i n))]) ∧ Below w.heap.size w w' := by
  by_cases h : nonB Kx s i n = true
  · obtain ⟨h1, h2⟩ := nonB_nat h
    obtain ⟨i, rfl⟩ := Int.eq_ofNat_of_zero_le h1
    obtain ⟨n, rfl⟩ := Int.eq_ofNat_of_zero_le h2
    rw [nonV, errV, if_pos h, if_pos h]
    exact rnonce_ok Kx s i n w h
  · rw [nonV, errV, if_neg h, if_neg h]
    exact rnonce_not Kx s i n w (by simpa using h)
def ansB (k : List UInt8) (n : Nat) : Bool := decide (k.length = 32) && dataB n
def ansV (k l : List UInt8) (n : Nat) : List UInt8 := if ansB k n then tagL k l else []
theorem answer_all (k : List UInt8) (A : Option Addr) (n c : Nat) (l : List UInt8) (w : World) (hl : BS w A n c l) (hT : Tabs w) :
    Calls Tryd.prog 16 #[.string (strB k), .slice A n c] w fun e w' => e = .returned (.tuple #[.string (strB (ansV k l n)), .int .i64 (errV (ansB k n))]) ∧ Below w.heap.size w w' := by
  by_cases h : ansB k n = true
  · have h2 := h
    simp only [ansB, Bool.and_eq_true, decide_eq_true_eq] at h2
    rw [ansV, errV, if_pos h, if_pos h]
    exact answer_yes k A n c l w hl hT h2.1 h2.2
  · rw [ansV, errV, if_neg h, if_neg h]
    exact answer_no k A n c w (by simpa [ansB] using h)
theorem ranswer_all (k : List UInt8) (A : Option Addr) (n c : Nat) (l : List UInt8) (w : World) (hl : BS w A n c l) :
    Calls Tryd.prog 31 #[.string (strB k), .slice A n c] w fun e w' => e = .returned (.tuple #[.string (strB (ansV k l n)), .int .i64 (errV (ansB k n))]) ∧ Below w.heap.size w w' := by
  by_cases h : ansB k n = true
  · have h2 := h
    simp only [ansB, Bool.and_eq_true, decide_eq_true_eq] at h2
    rw [ansV, errV, if_pos h, if_pos h]
    exact ranswer_yes k A n c l w hl h2.1 h2.2
  · rw [ansV, errV, if_neg h, if_neg h]
    exact ranswer_no k A n c w (by simpa [ansB] using h)
def tksB (K : Ky) (s : List UInt8) (i : Int) (n : Nat) (f c : Int) : Bool := okK K && (idB s i && (dataB n && rangeB f c))
def tksV (K : Ky) (s d : List UInt8) (i : Int) (n : Nat) (f c : Int) : List Tk := if tksB K s i n f c then tokL K s i.toNat d f.toNat c.toNat else []
/-- What Tokens leaves, of the program or of the reference. -/
def TksRet (L : List Tk) (er : Int) (w : World) (e : Ending) (w' : World) : Prop := ∃ v n, e = .returned (.tuple #[v, .int .i64 er]) ∧ L.length = n ∧ n ≤ 1000 ∧ RW w' 37 4 v n (L.flatMap Tk.cells) ∧ Below w.heap.size w w'
theorem tksB_nat {K : Ky} {s : List UInt8} {i : Int} {n : Nat} {f c : Int} (h : tksB K s i n f c = true) : 0 ≤ i ∧ 0 ≤ f ∧ 0 ≤ c ∧ c ≤ 256 ∧ okK K = true ∧ idB s i = true ∧ dataB n = true ∧ rangeB f c = true := by
  simp only [tksB, Bool.and_eq_true] at h
  have h1 := h.2.1
  have h2 := h.2.2.2
  simp only [idB, Bool.and_eq_true, decide_eq_true_eq] at h1
  simp only [rangeB, Bool.and_eq_true, decide_eq_true_eq] at h2
  exact ⟨h1.2.1, h2.1, h2.2.2.1, h2.2.2.2.1, h.1, h.2.1, h.2.2.1, h.2.2.2⟩
theorem tokens_all (Kx : Ky) (s d : List UInt8) (i : Int) (n cp : Nat) (f c : Int) (A : Option Addr) (w : World) (hd : BS w A n cp d) (hT : Tabs w) :
    Calls Tryd.prog 13 #[Kx.val, .agg #[.string (strB s), .int .i64 i], .slice A n cp, .int .i64 f, .int .i64 c] w (TksRet (tksV Kx s d i n f c) (errV (tksB Kx s i n f c)) w) := by
  by_cases h : tksB Kx s i n f c = true
  · obtain ⟨h1, h2, h3, h4, h5, h6, h7, h8⟩ := tksB_nat h
    obtain ⟨i, rfl⟩ := Int.eq_ofNat_of_zero_le h1
    obtain ⟨f, rfl⟩ := Int.eq_ofNat_of_zero_le h2
    obtain ⟨c, rfl⟩ := Int.eq_ofNat_of_zero_le h3
    rw [tksV, errV, if_pos h, if_pos h]
    refine (tokens_yes Kx s d i n cp f c A w hd hT h5 h6 h7 h8).mono ?_
    rintro e w' ⟨g, m, rfl, hm, _, hb, hw⟩
    have hm2 : m = c := by rw [← hm]; simp [tokL]
    exact ⟨_, m, rfl, hm, by omega, RW.of_blk hb (by have h9 := flat_length (f := Tk.cells) (s := 4) (fun _ => rfl) (tokL Kx s i d f c); rw [hm] at h9; exact h9) (by unfold maxLen; omega), hw⟩
  · rw [tksV, errV, if_neg h, if_neg h]
    refine (tokens_not Kx s i A n cp f c w (by simpa [tksB] using h)).mono ?_
    rintro e w' ⟨rfl, hw⟩
    exact ⟨_, 0, rfl, rfl, by omega, RW.nil _ _ _, hw⟩
theorem rtokens_all (Kx : Ky) (s d : List UInt8) (i : Int) (n cp : Nat) (f c : Int) (A : Option Addr) (w : World) (hd : BS w A n cp d) :
    Calls Tryd.prog 32 #[Kx.val, .agg #[.string (strB s), .int .i64 i], .slice A n cp, .int .i64 f, .int .i64 c] w (TksRet (tksV Kx s d i n f c) (errV (tksB Kx s i n f c)) w) := by
  by_cases h : tksB Kx s i n f c = true
  · obtain ⟨h1, h2, h3, h4, h5, h6, h7, h8⟩ := tksB_nat h
    obtain ⟨i, rfl⟩ := Int.eq_ofNat_of_zero_le h1
    obtain ⟨f, rfl⟩ := Int.eq_ofNat_of_zero_le h2
    obtain ⟨c, rfl⟩ := Int.eq_ofNat_of_zero_le h3
    rw [tksV, errV, if_pos h, if_pos h]
    refine (rtokens_yes Kx s d i n cp f c A w hd h5 h6 h7 h8).mono ?_
    rintro e w' ⟨v, m, rfl, hm, hb, hw⟩
    have hm2 : m = c := by rw [← hm]; simp [tokL]
    exact ⟨_, m, rfl, hm, by omega, hb, hw⟩
  · rw [tksV, errV, if_neg h, if_neg h]
    refine (rtokens_not Kx s i A n cp f c w (by simpa [tksB] using h)).mono ?_
    rintro e w' ⟨rfl, hw⟩
    exact ⟨_, 0, rfl, rfl, by omega, RW.nil _ _ _, hw⟩
end Go.Proofs.YtgjgofjabdjclaaDoor
