/- Contracts of ref11.ValidKeys and of ref44's ValidPiece, data, numbers. -/
import Derived.Test.YtgjgofjabdjclaaDoorCh2m
namespace Go.Proofs.YtgjgofjabdjclaaDoor
open Go Go.RowKit Gf Sha

theorem okK_out {K : Ky} {l : List UInt8} (hl : l ∈ K.list) (h : ¬ l.length = 32) : okK K = false := by
  rw [Bool.eq_false_iff]
  intro e
  exact h (okK_nm e l hl)
set_option maxRecDepth 100000 in
set_option maxHeartbeats 1000000 in
theorem rkeys_any (K : Ky) (w : World) :
    Calls Tryd.prog 56 #[K.val] w fun e w' => e = .returned (.bool (okK K)) ∧ Below w.heap.size w w' := by
  by_cases h0 : K.nm.length = 32
  case neg =>
    have HE : Hid (okK K = false) := Lib.hid (okK_out (l := K.nm) (by simp [Ky.list]) h0)
    have e0 : (((strB K.nm).size : Int) == 32) = false := by rw [strB_size, beq_eq_false_iff_ne]; omega
    clear h0
    go_enter Tryd.func56, Tryd.ntmps56
    go_wp2_with ((with_reducible show wpList _ _ _ (⟨some 1, _, _, _, _, _⟩ :: _) _ _); refine wpList_box _ rfl 29 (.tmp 0) rfl K.cells rfl ?_; intro w1 a1 a2 a3; have q0 := BL.get a1 (j := 0) rfl; have q1 := BL.get a1 (j := 1) rfl; have q2 := BL.get a1 (j := 2) rfl; have q3 := BL.get a1 (j := 3) rfl; have q4 := BL.get a1 (j := 4) rfl; have HB1 := Lib.hid a2; clear a1 a2 a3)
    go_ret
    exact ⟨ret_bool HE.out.symm, HB1.out⟩
  have e0 : (((strB K.nm).size : Int) == 32) = true := by rw [strB_size, beq_iff_eq]; omega
  by_cases h1 : K.st.length = 32
  case neg =>
    have HE : Hid (okK K = false) := Lib.hid (okK_out (l := K.st) (by simp [Ky.list]) h1)
    have e1 : (((strB K.st).size : Int) == 32) = false := by rw [strB_size, beq_eq_false_iff_ne]; omega
    clear h0 h1
    go_enter Tryd.func56, Tryd.ntmps56
    go_wp2_with ((with_reducible show wpList _ _ _ (⟨some 1, _, _, _, _, _⟩ :: _) _ _); refine wpList_box _ rfl 29 (.tmp 0) rfl K.cells rfl ?_; intro w1 a1 a2 a3; have q0 := BL.get a1 (j := 0) rfl; have q1 := BL.get a1 (j := 1) rfl; have q2 := BL.get a1 (j := 2) rfl; have q3 := BL.get a1 (j := 3) rfl; have q4 := BL.get a1 (j := 4) rfl; have HB1 := Lib.hid a2; clear a1 a2 a3)
    go_ret
    exact ⟨ret_bool HE.out.symm, HB1.out⟩
  have e1 : (((strB K.st).size : Int) == 32) = true := by rw [strB_size, beq_iff_eq]; omega
  by_cases h2 : K.ck.length = 32
  case neg =>
    have HE : Hid (okK K = false) := Lib.hid (okK_out (l := K.ck) (by simp [Ky.list]) h2)
    have e2 : (((strB K.ck).size : Int) == 32) = false := by rw [strB_size, beq_eq_false_iff_ne]; omega
    clear h0 h1 h2
    go_enter Tryd.func56, Tryd.ntmps56
    go_wp2_with ((with_reducible show wpList _ _ _ (⟨some 1, _, _, _, _, _⟩ :: _) _ _); refine wpList_box _ rfl 29 (.tmp 0) rfl K.cells rfl ?_; intro w1 a1 a2 a3; have q0 := BL.get a1 (j := 0) rfl; have q1 := BL.get a1 (j := 1) rfl; have q2 := BL.get a1 (j := 2) rfl; have q3 := BL.get a1 (j := 3) rfl; have q4 := BL.get a1 (j := 4) rfl; have HB1 := Lib.hid a2; clear a1 a2 a3)
    go_ret
    exact ⟨ret_bool HE.out.symm, HB1.out⟩
  have e2 : (((strB K.ck).size : Int) == 32) = true := by rw [strB_size, beq_iff_eq]; omega
  by_cases h3 : K.ix.length = 32
  case neg =>
    have HE : Hid (okK K = false) := Lib.hid (okK_out (l := K.ix) (by simp [Ky.list]) h3)
    have e3 : (((strB K.ix).size : Int) == 32) = false := by rw [strB_size, beq_eq_false_iff_ne]; omega
    clear h0 h1 h2 h3
    go_enter Tryd.func56, Tryd.ntmps56
    go_wp2_with ((with_reducible show wpList _ _ _ (⟨some 1, _, _, _, _, _⟩ :: _) _ _); refine wpList_box _ rfl 29 (.tmp 0) rfl K.cells rfl ?_; intro w1 a1 a2 a3; have q0 := BL.get a1 (j := 0) rfl; have q1 := BL.get a1 (j := 1) rfl; have q2 := BL.get a1 (j := 2) rfl; have q3 := BL.get a1 (j := 3) rfl; have q4 := BL.get a1 (j := 4) rfl; have HB1 := Lib.hid a2; clear a1 a2 a3)
    go_ret
    exact ⟨ret_bool HE.out.symm, HB1.out⟩
  have e3 : (((strB K.ix).size : Int) == 32) = true := by rw [strB_size, beq_iff_eq]; omega
  by_cases h4 : K.tk.length = 32
  case neg =>
    have HE : Hid (okK K = false) := Lib.hid (okK_out (l := K.tk) (by simp [Ky.list]) h4)
    have e4 : (((strB K.tk).size : Int) == 32) = false := by rw [strB_size, beq_eq_false_iff_ne]; omega
    clear h0 h1 h2 h3 h4
    go_enter Tryd.func56, Tryd.ntmps56
    go_wp2_with ((with_reducible show wpList _ _ _ (⟨some 1, _, _, _, _, _⟩ :: _) _ _); refine wpList_box _ rfl 29 (.tmp 0) rfl K.cells rfl ?_; intro w1 a1 a2 a3; have q0 := BL.get a1 (j := 0) rfl; have q1 := BL.get a1 (j := 1) rfl; have q2 := BL.get a1 (j := 2) rfl; have q3 := BL.get a1 (j := 3) rfl; have q4 := BL.get a1 (j := 4) rfl; have HB1 := Lib.hid a2; clear a1 a2 a3)
    go_ret
    exact ⟨ret_bool HE.out.symm, HB1.out⟩
  have e4 : (((strB K.tk).size : Int) == 32) = true := by rw [strB_size, beq_iff_eq]; omega
  have HE : Hid (okK K = true) := Lib.hid (by
    unfold okK
    rw [List.all_eq_true]
    intro l hl
    simp only [Ky.list, List.mem_cons, List.not_mem_nil, or_false] at hl
    rcases hl with rfl | rfl | rfl | rfl | rfl <;> simp [h0, h1, h2, h3, h4])
  clear h0 h1 h2 h3 h4
  go_enter Tryd.func56, Tryd.ntmps56
  go_wp2_with ((with_reducible show wpList _ _ _ (⟨some 1, _, _, _, _, _⟩ :: _) _ _); refine wpList_box _ rfl 29 (.tmp 0) rfl K.cells rfl ?_; intro w1 a1 a2 a3; have q0 := BL.get a1 (j := 0) rfl; have q1 := BL.get a1 (j := 1) rfl; have q2 := BL.get a1 (j := 2) rfl; have q3 := BL.get a1 (j := 3) rfl; have q4 := BL.get a1 (j := 4) rfl; have HB1 := Lib.hid a2; clear a1 a2 a3)
  go_ret
  exact ⟨ret_bool HE.out.symm, HB1.out⟩

set_option maxRecDepth 100000 in
set_option maxHeartbeats 1000000 in
theorem rpiece_any (s : List UInt8) (i : Int) (w : World) :
    Calls Tryd.prog 57 #[.agg #[.string (strB s), .int .i64 i]] w fun e w' => e = .returned (.bool (idB s i)) ∧ Below w.heap.size w w' := by
  by_cases h : s.length = 32
  · have e0 : (((strB s).size : Int) == 32) = true := by rw [strB_size, beq_iff_eq]; omega
    by_cases h1 : 0 ≤ i
    · have e1 : decide (0 ≤ i) = true := decide_eq_true h1
      have HE : Hid (idB s i = decide (i < 16)) := Lib.hid (by rw [idB, decide_eq_true h, decide_eq_true h1]; rfl)
      clear h h1
      go_enter Tryd.func57, Tryd.ntmps57
      go_wp2_with ((with_reducible show wpList _ _ _ (⟨some 1, _, _, _, _, _⟩ :: _) _ _); refine wpList_box _ rfl 33 (.tmp 0) rfl [.string (strB s), .int .i64 i] rfl ?_; intro w1 a1 a2 a3; have q0 := BL.get a1 (j := 0) rfl; have q1 := BL.get a1 (j := 1) rfl; have HB1 := Lib.hid a2; clear a1 a2 a3)
      go_ret
      exact ⟨ret_bool HE.out.symm, HB1.out⟩
    · have e1 : decide (0 ≤ i) = false := decide_eq_false h1
      have HE : Hid (idB s i = false) := Lib.hid (by rw [idB, decide_eq_false h1]; simp)
      clear h h1
      go_enter Tryd.func57, Tryd.ntmps57
      go_wp2_with ((with_reducible show wpList _ _ _ (⟨some 1, _, _, _, _, _⟩ :: _) _ _); refine wpList_box _ rfl 33 (.tmp 0) rfl [.string (strB s), .int .i64 i] rfl ?_; intro w1 a1 a2 a3; have q0 := BL.get a1 (j := 0) rfl; have q1 := BL.get a1 (j := 1) rfl; have HB1 := Lib.hid a2; clear a1 a2 a3)
      go_ret
      exact ⟨ret_bool HE.out.symm, HB1.out⟩
  · have e0 : (((strB s).size : Int) == 32) = false := by rw [strB_size, beq_eq_false_iff_ne]; omega
    have HE : Hid (idB s i = false) := Lib.hid (by rw [idB, decide_eq_false h]; rfl)
    clear h
    go_enter Tryd.func57, Tryd.ntmps57
    go_wp2_with ((with_reducible show wpList _ _ _ (⟨some 1, _, _, _, _, _⟩ :: _) _ _); refine wpList_box _ rfl 33 (.tmp 0) rfl [.string (strB s), .int .i64 i] rfl ?_; intro w1 a1 a2 a3; have q0 := BL.get a1 (j := 0) rfl; have q1 := BL.get a1 (j := 1) rfl; have HB1 := Lib.hid a2; clear a1 a2 a3)
    go_ret
    exact ⟨ret_bool HE.out.symm, HB1.out⟩

set_option maxRecDepth 100000 in
theorem rdata_any (A : Option Addr) (n c : Nat) (w : World) :
    Calls Tryd.prog 59 #[.slice A n c] w fun e w' => e = .returned (.bool (dataB n)) ∧ w = w' := by
  by_cases h : 1 ≤ n
  · have HE : Hid (dataB n = decide (n ≤ 65536)) := Lib.hid (by rw [dataB, decide_eq_true h, Bool.true_and])
    have e0 : decide ((1 : Int) ≤ (n : Int)) = true := decide_eq_true (by omega)
    clear h
    go_enter Tryd.func59, Tryd.ntmps59
    go_wp2_with fail
    go_ret
    exact ⟨ret_bool (by rw [HE.out, decide_eq_decide]; omega), rfl⟩
  · have HE : Hid (dataB n = false) := Lib.hid (by rw [dataB, decide_eq_false h, Bool.false_and])
    have e0 : decide ((1 : Int) ≤ (n : Int)) = false := decide_eq_false (by omega)
    clear h
    go_enter Tryd.func59, Tryd.ntmps59
    go_wp2_with fail
    go_ret
    exact ⟨ret_bool HE.out.symm, rfl⟩

set_option maxRecDepth 100000 in
set_option maxHeartbeats 1000000 in
theorem rnums_any (f c : Int) (w : World) :
    Calls Tryd.prog 60 #[.int .i64 f, .int .i64 c] w fun e w' => e = .returned (.bool (rangeB f c)) ∧ w = w' := by
  have HR : Hid (rangeB f c = (decide (0 ≤ f) && (decide (f ≤ 1099511627776) && (decide (0 ≤ c) && (decide (c ≤ 256) && decide (f + c ≤ 1099511627776)))))) := Lib.hid rfl
  by_cases h0 : 0 ≤ f
  case neg =>
    have e0 : decide (0 ≤ f) = false := decide_eq_false h0
    have HE : Hid (rangeB f c = false) := Lib.hid (by rw [HR.out, e0]; simp)
    clear h0
    go_enter Tryd.func60, Tryd.ntmps60
    go_wp2_with fail
    go_ret
    exact ⟨ret_bool HE.out.symm, rfl⟩
  have e0 : decide (0 ≤ f) = true := decide_eq_true h0
  by_cases h1 : f ≤ 1099511627776
  case neg =>
    have e1 : decide (f ≤ 1099511627776) = false := decide_eq_false h1
    have HE : Hid (rangeB f c = false) := Lib.hid (by rw [HR.out, e1]; simp)
    clear h0 h1
    go_enter Tryd.func60, Tryd.ntmps60
    go_wp2_with fail
    go_ret
    exact ⟨ret_bool HE.out.symm, rfl⟩
  have e1 : decide (f ≤ 1099511627776) = true := decide_eq_true h1
  by_cases h2 : 0 ≤ c
  case neg =>
    have e2 : decide (0 ≤ c) = false := decide_eq_false h2
    have HE : Hid (rangeB f c = false) := Lib.hid (by rw [HR.out, e2]; simp)
    clear h0 h1 h2
    go_enter Tryd.func60, Tryd.ntmps60
    go_wp2_with fail
    go_ret
    exact ⟨ret_bool HE.out.symm, rfl⟩
  have e2 : decide (0 ≤ c) = true := decide_eq_true h2
  by_cases h3 : c ≤ 256
  case neg =>
    have e3 : decide (c ≤ 256) = false := decide_eq_false h3
    have HE : Hid (rangeB f c = false) := Lib.hid (by rw [HR.out, e3]; simp)
    clear h0 h1 h2 h3
    go_enter Tryd.func60, Tryd.ntmps60
    go_wp2_with fail
    go_ret
    exact ⟨ret_bool HE.out.symm, rfl⟩
  have e3 : decide (c ≤ 256) = true := decide_eq_true h3
  have HE : Hid (rangeB f c = decide (f + c ≤ 1099511627776)) := Lib.hid (by rw [HR.out, e0, e1, e2, e3]; rfl)
  have m1 : IntKind.i64.wrap (f + c) = f + c := by rw [IntWalk.i64_in _ (by omega)]
  clear h0 h1 h2 h3
  go_enter Tryd.func60, Tryd.ntmps60
  go_wp2_with fail
  go_ret
  exact ⟨ret_bool HE.out.symm, rfl⟩
end Go.Proofs.YtgjgofjabdjclaaDoor
