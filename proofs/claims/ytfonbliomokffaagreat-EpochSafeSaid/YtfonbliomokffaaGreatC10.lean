/- Several texts in one: Eg. -/
import Derived.Test.YtfonbliomokffaaGreatC9
/- Valid proposals, by the program and by the reference. -/
namespace Go.Proofs.YtfonbliomokffaaGreat
open Go Go.RowKit Gf Sha

def ascAt (m : List (List UInt8)) (k : Nat) : Bool := decide ((gR m k).length = 32) && (decide (k = 0) || Op.bytesLess (gR m (k - 1)) (gR m k))
/-- Strictly ascending sums. -/
def ascB (m : List (List UInt8)) : Bool := (List.range m.length).all (ascAt m)
theorem asc_false {m : List (List UInt8)} {k : Nat} (hk : k < m.length) (h : ascAt m k = false) : ascB m = false := List.all_eq_false.2 ⟨k, List.mem_range.2 hk, by simp [h]⟩
theorem asc_true {m : List (List UInt8)} (h : ∀ k, k < m.length → ascAt m k = true) : ascB m = true := List.all_eq_true.2 fun k hk => h k (List.mem_range.1 hk)
def wAt (m : List Int) (k : Nat) : Bool := decide (0 ≤ gI m k) && (decide (gI m k < 12) && (decide (k = 0) || decide (gI m (k - 1) < gI m k)))
/-- Strictly ascending devices. -/
def wsB (m : List Int) : Bool := (List.range m.length).all (wAt m)
theorem ws_false {m : List Int} {k : Nat} (hk : k < m.length) (h : wAt m k = false) : wsB m = false := List.all_eq_false.2 ⟨k, List.mem_range.2 hk, by simp [h]⟩
theorem ws_true {m : List Int} (h : ∀ k, k < m.length → wAt m k = true) : wsB m = true := List.all_eq_true.2 fun k hk => h k (List.mem_range.1 hk)
/-- What is asked ahead of the lists' elements. -/
def headB (p : Pp) : Bool := decide (1 ≤ p.seq) && (decide (0 ≤ p.vault) && (decide (p.vault ≤ 11) && (p.ws.contains p.dev && (decide (p.ws.length ≤ 3) && (decide (1 ≤ p.ss.length) && decide (p.ss.length ≤ 1024))))))
def validB (p : Pp) : Bool := headB p && (wsB p.ws && ascB p.ss)
theorem valid_head {p : Pp} (h : headB p = false) : validB p = false := by rw [validB, h]; rfl
set_option maxHeartbeats 1000000 in
theorem member_any (A : Option Addr) (n c : Nat) (m : List Int) (x : Int) (w : World) (h : LS rInt 1 8 w A n c m) :
    Calls Tryz.prog 26 #[.slice A n c, .int .i64 x] w fun e w' => e = .returned (.bool (m.contains x)) ∧ w' = w := by
  have hn := h.len_le
  have H := Lib.hid h
  have HL := Lib.hid h.1
  clear h
  go_enter Tryz.func26, Tryz.ntmps26
  go_wp2_with fail
  go_loopw [9] (fun iv wr => wr = w ∧ ∃ k : Nat, k ≤ n ∧ iv = .int .i64 (k : Int) ∧ Hid ((m.take k).contains x = false)) (fun iv _ => n - (intOf iv).toNat)
  case atStart => exact ⟨rfl, 0, by omega, rfl, Lib.hid rfl⟩
  case round =>
    obtain ⟨rfl, k, hk, rfl, hall⟩ := hrel
    by_cases hlt : k < n
    · obtain ⟨y, g, o, hy, rfl, q1⟩ := H.out.int_at (Below.refl _ _) hlt
      have HY := Lib.hid hy
      clear hy
      cases e1 : (y == x) with
      | true =>
        have HR : Hid (m.contains x = true) := Lib.hid (by
          rw [beq_iff_eq] at e1
          subst e1
          exact List.contains_iff_mem.2 (List.mem_iff_getElem?.2 ⟨k, HY.out⟩))
        go_wp2_with fail
        go_ret
        exact ⟨ret_bool HR.out.symm, rfl⟩
      | false =>
        have HR : Hid ((m.take (k + 1)).contains x = false) := Lib.hid (by
          rw [take_next HY.out, List.contains_append, hall.out]
          rw [beq_eq_false_iff_ne] at e1
          simpa using fun e => e1 e.symm)
        go_wp2_with fail
        go_roundw
        case rel => exact ⟨trivial, k + 1, by omega, by go_num, HR⟩
        case measure => simp [intOf]; omega
    · obtain rfl : k = n := by omega
      have HR : Hid (m.contains x = false) := Lib.hid (by have h9 := hall.out; rwa [take_end HL.out] at h9)
      go_wp2_with fail
      go_ret
      exact ⟨ret_bool HR.out.symm, rfl⟩
set_option maxRecDepth 100000 in
set_option maxHeartbeats 8000000 in
theorem valid_any (cs : List Value) (p : Pp) (w : World) (h : rPp w cs p) :
    Calls Tryz.prog 57 #[.agg cs.toArray] w fun e w' => e = .returned (.bool (validB p)) ∧ Below w.heap.size w w' := by
  obtain ⟨A1, n1, c1, A2, n2, c2, rfl, hl1, hl2, _⟩ := h
  have hn1 := hl1.len_le
  have hn2 := hl2.len_le
  have H1 := Lib.hid hl1
  have H2 := Lib.hid hl2
  have HL1 := Lib.hid hl1.1
  have HL2 := Lib.hid hl2.1
  clear hl1 hl2
  by_cases h1 : 1 ≤ p.seq
  rotate_left
  · have E : Hid (decide (1 ≤ p.seq) = false) := Lib.hid (decide_eq_false h1)
    have f1 : decide (p.seq < 1) = true := decide_eq_true (by omega)
    clear h1
    have HF : Hid (validB p = false) := Lib.hid (valid_head (by unfold headB; rw [E.out]; simp))
    go_enter Tryz.func57, Tryz.ntmps57
    go_wp2_with (first
      | ((with_reducible show wpList _ _ _ (⟨some 1, _, _, _, _, _⟩ :: _) _ _); refine wpList_box _ rfl 42 (.tmp 0) rfl (ppC p A1 n1 c1 A2 n2 c2) rfl ?_; intro w1 y1 y2 y3; have HB1 := Lib.hid y2; have q0 := y1.get (j := 0) rfl; have q1 := y1.get (j := 1) rfl; have q2 := y1.get (j := 2) rfl; have q3 := y1.get (j := 3) rfl; have q4 := y1.get (j := 4) rfl; have HP1 := Lib.hid y1; clear y1 y2 y3)
      | (go_at_call 42; refine (contains_any A1 n1 c1 p.ws p.dev w1 (H1.out.kept stay_int HB1.out)).mono ?_; rintro e w2 ⟨rfl, hw⟩; rw [hw, f4]; clear hw w2)
      | fail)
    go_ret
    exact ⟨ret_bool HF.out.symm, HB1.out⟩
  have f1 : decide (p.seq < 1) = false := decide_eq_false (by omega)
  by_cases h2 : 0 ≤ p.vault
  rotate_left
  · have E : Hid (decide (0 ≤ p.vault) = false) := Lib.hid (decide_eq_false h2)
    have f2 : decide (p.vault < 0) = true := decide_eq_true (by omega)
    clear h1 h2
    have HF : Hid (validB p = false) := Lib.hid (valid_head (by unfold headB; rw [E.out]; simp))
    go_enter Tryz.func57, Tryz.ntmps57
    go_wp2_with (first
      | ((with_reducible show wpList _ _ _ (⟨some 1, _, _, _, _, _⟩ :: _) _ _); refine wpList_box _ rfl 42 (.tmp 0) rfl (ppC p A1 n1 c1 A2 n2 c2) rfl ?_; intro w1 y1 y2 y3; have HB1 := Lib.hid y2; have q0 := y1.get (j := 0) rfl; have q1 := y1.get (j := 1) rfl; have q2 := y1.get (j := 2) rfl; have q3 := y1.get (j := 3) rfl; have q4 := y1.get (j := 4) rfl; have HP1 := Lib.hid y1; clear y1 y2 y3)
      | (go_at_call 42; refine (contains_any A1 n1 c1 p.ws p.dev w1 (H1.out.kept stay_int HB1.out)).mono ?_; rintro e w2 ⟨rfl, hw⟩; rw [hw, f4]; clear hw w2)
      | fail)
    go_ret
    exact ⟨ret_bool HF.out.symm, HB1.out⟩
  have f2 : decide (p.vault < 0) = false := decide_eq_false (by omega)
  by_cases h3 : p.vault ≤ 11
  rotate_left
  · have E : Hid (decide (p.vault ≤ 11) = false) := Lib.hid (decide_eq_false h3)
    have f3 : decide (11 < p.vault) = true := decide_eq_true (by omega)
    clear h1 h2 h3
    have HF : Hid (validB p = false) := Lib.hid (valid_head (by unfold headB; rw [E.out]; simp))
    go_enter Tryz.func57, Tryz.ntmps57
    go_wp2_with (first
      | ((with_reducible show wpList _ _ _ (⟨some 1, _, _, _, _, _⟩ :: _) _ _); refine wpList_box _ rfl 42 (.tmp 0) rfl (ppC p A1 n1 c1 A2 n2 c2) rfl ?_; intro w1 y1 y2 y3; have HB1 := Lib.hid y2; have q0 := y1.get (j := 0) rfl; have q1 := y1.get (j := 1) rfl; have q2 := y1.get (j := 2) rfl; have q3 := y1.get (j := 3) rfl; have q4 := y1.get (j := 4) rfl; have HP1 := Lib.hid y1; clear y1 y2 y3)
      | (go_at_call 42; refine (contains_any A1 n1 c1 p.ws p.dev w1 (H1.out.kept stay_int HB1.out)).mono ?_; rintro e w2 ⟨rfl, hw⟩; rw [hw, f4]; clear hw w2)
      | fail)
    go_ret
    exact ⟨ret_bool HF.out.symm, HB1.out⟩
  have f3 : decide (11 < p.vault) = false := decide_eq_false (by omega)
  cases f4 : p.ws.contains p.dev with
  | false =>
    have E := Lib.hid f4
    clear h1 h2 h3
    have HF : Hid (validB p = false) := Lib.hid (valid_head (by unfold headB; rw [E.out]; simp))
    go_enter Tryz.func57, Tryz.ntmps57
    go_wp2_with (first
      | ((with_reducible show wpList _ _ _ (⟨some 1, _, _, _, _, _⟩ :: _) _ _); refine wpList_box _ rfl 42 (.tmp 0) rfl (ppC p A1 n1 c1 A2 n2 c2) rfl ?_; intro w1 y1 y2 y3; have HB1 := Lib.hid y2; have q0 := y1.get (j := 0) rfl; have q1 := y1.get (j := 1) rfl; have q2 := y1.get (j := 2) rfl; have q3 := y1.get (j := 3) rfl; have q4 := y1.get (j := 4) rfl; have HP1 := Lib.hid y1; clear y1 y2 y3)
      | (go_at_call 42; refine (contains_any A1 n1 c1 p.ws p.dev w1 (H1.out.kept stay_int HB1.out)).mono ?_; rintro e w2 ⟨rfl, hw⟩; rw [hw, f4]; clear hw w2)
      | fail)
    go_ret
    exact ⟨ret_bool HF.out.symm, HB1.out⟩
  | true =>
  by_cases h5 : n1 ≤ 3
  rotate_left
  · have E : Hid (decide (p.ws.length ≤ 3) = false) := Lib.hid (decide_eq_false (by rw [HL1.out]; exact h5))
    have f5 : decide (3 < n1) = true := decide_eq_true (by omega)
    clear h1 h2 h3
    have HF : Hid (validB p = false) := Lib.hid (valid_head (by unfold headB; rw [E.out]; simp))
    go_enter Tryz.func57, Tryz.ntmps57
    go_wp2_with (first
      | ((with_reducible show wpList _ _ _ (⟨some 1, _, _, _, _, _⟩ :: _) _ _); refine wpList_box _ rfl 42 (.tmp 0) rfl (ppC p A1 n1 c1 A2 n2 c2) rfl ?_; intro w1 y1 y2 y3; have HB1 := Lib.hid y2; have q0 := y1.get (j := 0) rfl; have q1 := y1.get (j := 1) rfl; have q2 := y1.get (j := 2) rfl; have q3 := y1.get (j := 3) rfl; have q4 := y1.get (j := 4) rfl; have HP1 := Lib.hid y1; clear y1 y2 y3)
      | (go_at_call 42; refine (contains_any A1 n1 c1 p.ws p.dev w1 (H1.out.kept stay_int HB1.out)).mono ?_; rintro e w2 ⟨rfl, hw⟩; rw [hw, f4]; clear hw w2)
      | fail)
    go_ret
    exact ⟨ret_bool HF.out.symm, HB1.out⟩
  have f5 : decide (3 < n1) = false := decide_eq_false (by omega)
  by_cases h6 : 1 ≤ n2
  rotate_left
  · have E : Hid (decide (1 ≤ p.ss.length) = false) := Lib.hid (decide_eq_false (by rw [HL2.out]; exact h6))
    have f6 : decide (n2 < 1) = true := decide_eq_true (by omega)
    have f6' : decide (n2 = 0) = true := decide_eq_true (by omega)
    clear h1 h2 h3
    have HF : Hid (validB p = false) := Lib.hid (valid_head (by unfold headB; rw [E.out]; simp))
    go_enter Tryz.func57, Tryz.ntmps57
    go_wp2_with (first
      | ((with_reducible show wpList _ _ _ (⟨some 1, _, _, _, _, _⟩ :: _) _ _); refine wpList_box _ rfl 42 (.tmp 0) rfl (ppC p A1 n1 c1 A2 n2 c2) rfl ?_; intro w1 y1 y2 y3; have HB1 := Lib.hid y2; have q0 := y1.get (j := 0) rfl; have q1 := y1.get (j := 1) rfl; have q2 := y1.get (j := 2) rfl; have q3 := y1.get (j := 3) rfl; have q4 := y1.get (j := 4) rfl; have HP1 := Lib.hid y1; clear y1 y2 y3)
      | (go_at_call 42; refine (contains_any A1 n1 c1 p.ws p.dev w1 (H1.out.kept stay_int HB1.out)).mono ?_; rintro e w2 ⟨rfl, hw⟩; rw [hw, f4]; clear hw w2)
      | fail)
    go_ret
    exact ⟨ret_bool HF.out.symm, HB1.out⟩
  have f6 : decide (n2 < 1) = false := decide_eq_false (by omega)
  have f6' : decide (n2 = 0) = false := decide_eq_false (by omega)
  by_cases h7 : n2 ≤ 1024
  rotate_left
  · have E : Hid (decide (p.ss.length ≤ 1024) = false) := Lib.hid (decide_eq_false (by rw [HL2.out]; exact h7))
    have f7 : decide (1024 < n2) = true := decide_eq_true (by omega)
    clear h1 h2 h3
    have HF : Hid (validB p = false) := Lib.hid (valid_head (by unfold headB; rw [E.out]; simp))
    go_enter Tryz.func57, Tryz.ntmps57
    go_wp2_with (first
      | ((with_reducible show wpList _ _ _ (⟨some 1, _, _, _, _, _⟩ :: _) _ _); refine wpList_box _ rfl 42 (.tmp 0) rfl (ppC p A1 n1 c1 A2 n2 c2) rfl ?_; intro w1 y1 y2 y3; have HB1 := Lib.hid y2; have q0 := y1.get (j := 0) rfl; have q1 := y1.get (j := 1) rfl; have q2 := y1.get (j := 2) rfl; have q3 := y1.get (j := 3) rfl; have q4 := y1.get (j := 4) rfl; have HP1 := Lib.hid y1; clear y1 y2 y3)
      | (go_at_call 42; refine (contains_any A1 n1 c1 p.ws p.dev w1 (H1.out.kept stay_int HB1.out)).mono ?_; rintro e w2 ⟨rfl, hw⟩; rw [hw, f4]; clear hw w2)
      | fail)
    go_ret
    exact ⟨ret_bool HF.out.symm, HB1.out⟩
  have f7 : decide (1024 < n2) = false := decide_eq_false (by omega)
  have HH : Hid (headB p = true) := Lib.hid (by
    unfold headB
    rw [decide_eq_true h1, decide_eq_true h2, decide_eq_true h3, f4, HL1.out, HL2.out, decide_eq_true h5, decide_eq_true h6, decide_eq_true h7]; rfl)
  clear h1 h2 h3
  go_enter Tryz.func57, Tryz.ntmps57
  go_wp2_with (first
    | ((with_reducible show wpList _ _ _ (⟨some 1, _, _, _, _, _⟩ :: _) _ _); refine wpList_box _ rfl 42 (.tmp 0) rfl (ppC p A1 n1 c1 A2 n2 c2) rfl ?_; intro w1 y1 y2 y3; have HB1 := Lib.hid y2; have q0 := y1.get (j := 0) rfl; have q1 := y1.get (j := 1) rfl; have q2 := y1.get (j := 2) rfl; have q3 := y1.get (j := 3) rfl; have q4 := y1.get (j := 4) rfl; have HP1 := Lib.hid y1; clear y1 y2 y3)
    | (go_at_call 42; refine (contains_any A1 n1 c1 p.ws p.dev w1 (H1.out.kept stay_int HB1.out)).mono ?_; rintro e w2 ⟨rfl, hw⟩; rw [hw, f4]; clear hw w2)
    | fail)
  go_loopw [47] (fun iv wr => w1 = wr ∧ ∃ k : Nat, k ≤ n1 ∧ iv = .int .i64 (k : Int) ∧ Hid (∀ j, j < k → wAt p.ws j = true)) (fun iv _ => n1 - (intOf iv).toNat)
  case atStart => exact ⟨rfl, 0, by omega, rfl, Lib.hid (fun j hj => absurd hj (by omega))⟩
  case round =>
    obtain ⟨rfl, k, hk, rfl, hall⟩ := hrel
    by_cases hlt : k < n1
    · obtain ⟨x, g, o, hx, rfl, q5⟩ := H1.out.int_at HB1.out hlt
      have HX := Lib.hid (gI_some hx)
      have HKL : Hid (k < p.ws.length) := Lib.hid (by rw [HL1.out]; exact hlt)
      clear hx
      by_cases g1 : 0 ≤ x
      rotate_left
      · have e1 : decide (x < 0) = true := decide_eq_true (by omega)
        have HR : Hid (validB p = false) := Lib.hid (by rw [validB, ws_false HKL.out (by rw [wAt, HX.out, decide_eq_false g1]; rfl)]; simp)
        clear g1
        go_wp2_with fail
        go_ret
        exact ⟨ret_bool HR.out.symm, HB1.out⟩
      have e1 : decide (x < 0) = false := decide_eq_false (by omega)
      by_cases g2 : x < 12
      rotate_left
      · have e2 : decide (12 ≤ x) = true := decide_eq_true (by omega)
        have HR : Hid (validB p = false) := Lib.hid (by rw [validB, ws_false HKL.out (by rw [wAt, HX.out, decide_eq_false g2]; simp)]; simp)
        clear g1 g2
        go_wp2_with fail
        go_ret
        exact ⟨ret_bool HR.out.symm, HB1.out⟩
      have e2 : decide (12 ≤ x) = false := decide_eq_false (by omega)
      rcases Nat.eq_zero_or_pos k with rfl | hp
      · have HR : Hid (wAt p.ws 0 = true) := Lib.hid (by rw [wAt, HX.out, decide_eq_true g1, decide_eq_true g2]; rfl)
        clear g1 g2
        simp only [Nat.add_zero] at q5
        go_wp2_with fail
        go_roundw
        case rel => exact ⟨trivial, 1, by omega, rfl, Lib.hid (fun j hj => by
          obtain rfl : j = 0 := by omega
          exact HR.out)⟩
        case measure => simp [intOf]; omega
      · obtain ⟨j, hj⟩ : ∃ j, j = k - 1 := ⟨_, rfl⟩
        obtain ⟨y, g', o', hy, e', q6⟩ := H1.out.int_at HB1.out (show j < n1 by omega)
        cases e'
        have HY : Hid (gI p.ws (k - 1) = y) := Lib.hid (by rw [← hj]; exact gI_some hy)
        have hj1 : (k : Int) - 1 = (j : Int) := by omega
        have hkn : decide (0 < k) = true := decide_eq_true (by omega)
        have hk0 : ¬ k = 0 := by omega
        by_cases g3 : y < x
        · have e3 : decide (x ≤ y) = false := decide_eq_false (by omega)
          have HR : Hid (wAt p.ws k = true) := Lib.hid (by rw [wAt, HX.out, HY.out, decide_eq_true g1, decide_eq_true g2, decide_eq_true g3]; simp)
          clear g1 g2 g3 hy hj hk0
          go_wp2_with fail
          go_roundw
          case rel => exact ⟨trivial, k + 1, by omega, by go_num, Lib.hid (fun i hi => by
            rcases Nat.lt_succ_iff_lt_or_eq.1 hi with h | rfl
            · exact hall.out i h
            · exact HR.out)⟩
          case measure => simp [intOf]; omega
        · have e3 : decide (x ≤ y) = true := decide_eq_true (by omega)
          have HR : Hid (validB p = false) := Lib.hid (by rw [validB, ws_false HKL.out (by rw [wAt, HX.out, HY.out, decide_eq_false g3]; simp [hk0])]; simp)
          clear g1 g2 g3 hy hj hk0
          go_wp2_with fail
          go_ret
          exact ⟨ret_bool HR.out.symm, HB1.out⟩
    · obtain rfl : k = n1 := by omega
      have HW : Hid (wsB p.ws = true) := Lib.hid (ws_true (by rw [HL1.out]; exact hall.out))
      go_wp2_with fail
      go_loopw [76] (fun iv wr => w1 = wr ∧ ∃ k : Nat, k ≤ n2 ∧ iv = .int .i64 (k : Int) ∧ Hid (∀ j, j < k → ascAt p.ss j = true)) (fun iv _ => n2 - (intOf iv).toNat)
      case atStart => exact ⟨rfl, 0, by omega, rfl, Lib.hid (fun j hj => absurd hj (by omega))⟩
      case round =>
        obtain ⟨rfl, i, hi, rfl, hal2⟩ := hrel
        by_cases hlt : i < n2
        · obtain ⟨x, g, o, hx, rfl, q5⟩ := H2.out.str_at HB1.out hlt
          have HX := Lib.hid (gR_some hx)
          have HKL : Hid (i < p.ss.length) := Lib.hid (by rw [HL2.out]; exact hlt)
          clear hx
          by_cases hs : x.length = 32
          rotate_left
          · have es : (((strB x).size : Int) != 32) = true := by rw [strB_size, bne_iff_ne]; omega
            have HR : Hid (validB p = false) := Lib.hid (by rw [validB, asc_false HKL.out (by rw [ascAt, HX.out, decide_eq_false hs]; rfl)]; simp)
            clear hs
            go_wp2_with fail
            go_ret
            exact ⟨ret_bool HR.out.symm, HB1.out⟩
          have es : (((strB x).size : Int) != 32) = false := by rw [strB_size, hs]; rfl
          rcases Nat.eq_zero_or_pos i with rfl | hp
          · have HR : Hid (ascAt p.ss 0 = true) := Lib.hid (by rw [ascAt, HX.out, decide_eq_true hs]; rfl)
            clear hs
            simp only [Nat.add_zero] at q5
            go_wp2_with fail
            go_roundw
            case rel => exact ⟨trivial, 1, by omega, rfl, Lib.hid (fun j hj => by
              obtain rfl : j = 0 := by omega
              exact HR.out)⟩
            case measure => simp [intOf]; omega
          · obtain ⟨j, hj⟩ : ∃ j, j = i - 1 := ⟨_, rfl⟩
            obtain ⟨y, g', o', hy, e', q6⟩ := H2.out.str_at HB1.out (show j < n2 by omega)
            cases e'
            have HY : Hid (gR p.ss (i - 1) = y) := Lib.hid (by rw [← hj]; exact gR_some hy)
            have hj1 : (i : Int) - 1 = (j : Int) := by omega
            have hkn : decide (0 < i) = true := decide_eq_true (by omega)
            have hk0 : ¬ i = 0 := by omega
            cases hb : Op.bytesLess y x with
            | true =>
              have el : Op.bytesLess (strB y).toList (strB x).toList = true := by rw [strB_list, strB_list]; exact hb
              have HR : Hid (ascAt p.ss i = true) := Lib.hid (by rw [ascAt, HX.out, HY.out, decide_eq_true hs, hb]; simp)
              clear hs hy hb hj hk0
              go_wp2_with fail
              rw [geq_text el]
              go_simp
              go_wp2_with fail
              go_roundw
              case rel => exact ⟨trivial, i + 1, by omega, by go_num, Lib.hid (fun j hj => by
                rcases Nat.lt_succ_iff_lt_or_eq.1 hj with h | rfl
                · exact hal2.out j h
                · exact HR.out)⟩
              case measure => simp [intOf]; omega
            | false =>
              have el : Op.bytesLess (strB y).toList (strB x).toList = false := by rw [strB_list, strB_list]; exact hb
              have HR : Hid (validB p = false) := Lib.hid (by rw [validB, asc_false HKL.out (by rw [ascAt, HX.out, HY.out, hb]; simp [hk0])]; simp)
              clear hs hy hb hj hk0
              go_wp2_with fail
              rw [geq_text el]
              go_simp
              go_wp2_with fail
              go_ret
              exact ⟨ret_bool HR.out.symm, HB1.out⟩
        · obtain rfl : i = n2 := by omega
          have HR : Hid (validB p = true) := Lib.hid (by rw [validB, HH.out, HW.out, asc_true (by rw [HL2.out]; exact hal2.out)]; rfl)
          go_wp2_with fail
          go_ret
          exact ⟨ret_bool HR.out.symm, HB1.out⟩
set_option maxRecDepth 100000 in
set_option maxHeartbeats 8000000 in
theorem rvalid_any (cs : List Value) (p : Pp) (w : World) (h : rPp w cs p) :
    Calls Tryz.prog 30 #[.agg cs.toArray] w fun e w' => e = .returned (.bool (validB p)) ∧ Below w.heap.size w w' := by
  obtain ⟨A1, n1, c1, A2, n2, c2, rfl, hl1, hl2, _⟩ := h
  have hn1 := hl1.len_le
  have hn2 := hl2.len_le
  have H1 := Lib.hid hl1
  have H2 := Lib.hid hl2
  have HL1 := Lib.hid hl1.1
  have HL2 := Lib.hid hl2.1
  clear hl1 hl2
  by_cases h1 : 1 ≤ p.seq
  rotate_left
  · have E : Hid (decide (1 ≤ p.seq) = false) := Lib.hid (decide_eq_false h1)
    have f1 : decide (p.seq < 1) = true := decide_eq_true (by omega)
    clear h1
    have HF : Hid (validB p = false) := Lib.hid (valid_head (by unfold headB; rw [E.out]; simp))
    go_enter Tryz.func30, Tryz.ntmps30
    go_wp2_with (first
      | ((with_reducible show wpList _ _ _ (⟨some 1, _, _, _, _, _⟩ :: _) _ _); refine wpList_box _ rfl 40 (.tmp 0) rfl (ppC p A1 n1 c1 A2 n2 c2) rfl ?_; intro w1 y1 y2 y3; have HB1 := Lib.hid y2; have q0 := y1.get (j := 0) rfl; have q1 := y1.get (j := 1) rfl; have q2 := y1.get (j := 2) rfl; have q3 := y1.get (j := 3) rfl; have q4 := y1.get (j := 4) rfl; have HP1 := Lib.hid y1; clear y1 y2 y3)
      | (go_at_call 26; refine (member_any A1 n1 c1 p.ws p.dev w1 (H1.out.kept stay_int HB1.out)).mono ?_; rintro e w2 ⟨rfl, hw⟩; rw [hw, f4]; clear hw w2)
      | fail)
    go_ret
    exact ⟨ret_bool HF.out.symm, HB1.out⟩
  have f1 : decide (p.seq < 1) = false := decide_eq_false (by omega)
  by_cases h2 : 0 ≤ p.vault
  rotate_left
  · have E : Hid (decide (0 ≤ p.vault) = false) := Lib.hid (decide_eq_false h2)
    have f2 : decide (p.vault < 0) = true := decide_eq_true (by omega)
    clear h1 h2
    have HF : Hid (validB p = false) := Lib.hid (valid_head (by unfold headB; rw [E.out]; simp))
    go_enter Tryz.func30, Tryz.ntmps30
    go_wp2_with (first
      | ((with_reducible show wpList _ _ _ (⟨some 1, _, _, _, _, _⟩ :: _) _ _); refine wpList_box _ rfl 40 (.tmp 0) rfl (ppC p A1 n1 c1 A2 n2 c2) rfl ?_; intro w1 y1 y2 y3; have HB1 := Lib.hid y2; have q0 := y1.get (j := 0) rfl; have q1 := y1.get (j := 1) rfl; have q2 := y1.get (j := 2) rfl; have q3 := y1.get (j := 3) rfl; have q4 := y1.get (j := 4) rfl; have HP1 := Lib.hid y1; clear y1 y2 y3)
      | (go_at_call 26; refine (member_any A1 n1 c1 p.ws p.dev w1 (H1.out.kept stay_int HB1.out)).mono ?_; rintro e w2 ⟨rfl, hw⟩; rw [hw, f4]; clear hw w2)
      | fail)
    go_ret
    exact ⟨ret_bool HF.out.symm, HB1.out⟩
  have f2 : decide (p.vault < 0) = false := decide_eq_false (by omega)
  by_cases h3 : p.vault ≤ 11
  rotate_left
  · have E : Hid (decide (p.vault ≤ 11) = false) := Lib.hid (decide_eq_false h3)
    have f3 : decide (11 < p.vault) = true := decide_eq_true (by omega)
    clear h1 h2 h3
    have HF : Hid (validB p = false) := Lib.hid (valid_head (by unfold headB; rw [E.out]; simp))
    go_enter Tryz.func30, Tryz.ntmps30
    go_wp2_with (first
      | ((with_reducible show wpList _ _ _ (⟨some 1, _, _, _, _, _⟩ :: _) _ _); refine wpList_box _ rfl 40 (.tmp 0) rfl (ppC p A1 n1 c1 A2 n2 c2) rfl ?_; intro w1 y1 y2 y3; have HB1 := Lib.hid y2; have q0 := y1.get (j := 0) rfl; have q1 := y1.get (j := 1) rfl; have q2 := y1.get (j := 2) rfl; have q3 := y1.get (j := 3) rfl; have q4 := y1.get (j := 4) rfl; have HP1 := Lib.hid y1; clear y1 y2 y3)
      | (go_at_call 26; refine (member_any A1 n1 c1 p.ws p.dev w1 (H1.out.kept stay_int HB1.out)).mono ?_; rintro e w2 ⟨rfl, hw⟩; rw [hw, f4]; clear hw w2)
      | fail)
    go_ret
    exact ⟨ret_bool HF.out.symm, HB1.out⟩
  have f3 : decide (11 < p.vault) = false := decide_eq_false (by omega)
  by_cases h0 : 1 ≤ n1
  rotate_left
  · have E : Hid (p.ws.contains p.dev = false) := Lib.hid (by
      have h9 := HL1.out
      rw [show p.ws = [] from List.eq_nil_of_length_eq_zero (by omega)]; rfl)
    have f0 : decide (n1 < 1) = true := decide_eq_true (by omega)
    have f0' : decide (n1 = 0) = true := decide_eq_true (by omega)
    clear h1 h2 h3
    have HF : Hid (validB p = false) := Lib.hid (valid_head (by unfold headB; rw [E.out]; simp))
    go_enter Tryz.func30, Tryz.ntmps30
    go_wp2_with (first
      | ((with_reducible show wpList _ _ _ (⟨some 1, _, _, _, _, _⟩ :: _) _ _); refine wpList_box _ rfl 40 (.tmp 0) rfl (ppC p A1 n1 c1 A2 n2 c2) rfl ?_; intro w1 y1 y2 y3; have HB1 := Lib.hid y2; have q0 := y1.get (j := 0) rfl; have q1 := y1.get (j := 1) rfl; have q2 := y1.get (j := 2) rfl; have q3 := y1.get (j := 3) rfl; have q4 := y1.get (j := 4) rfl; have HP1 := Lib.hid y1; clear y1 y2 y3)
      | (go_at_call 26; refine (member_any A1 n1 c1 p.ws p.dev w1 (H1.out.kept stay_int HB1.out)).mono ?_; rintro e w2 ⟨rfl, hw⟩; rw [hw, f4]; clear hw w2)
      | fail)
    go_ret
    exact ⟨ret_bool HF.out.symm, HB1.out⟩
  have f0 : decide (n1 < 1) = false := decide_eq_false (by omega)
  have f0' : decide (n1 = 0) = false := decide_eq_false (by omega)
  by_cases h5 : n1 ≤ 3
  rotate_left
  · have E : Hid (decide (p.ws.length ≤ 3) = false) := Lib.hid (decide_eq_false (by rw [HL1.out]; exact h5))
    have f5 : decide (3 < n1) = true := decide_eq_true (by omega)
    clear h1 h2 h3
    have HF : Hid (validB p = false) := Lib.hid (valid_head (by unfold headB; rw [E.out]; simp))
    go_enter Tryz.func30, Tryz.ntmps30
    go_wp2_with (first
      | ((with_reducible show wpList _ _ _ (⟨some 1, _, _, _, _, _⟩ :: _) _ _); refine wpList_box _ rfl 40 (.tmp 0) rfl (ppC p A1 n1 c1 A2 n2 c2) rfl ?_; intro w1 y1 y2 y3; have HB1 := Lib.hid y2; have q0 := y1.get (j := 0) rfl; have q1 := y1.get (j := 1) rfl; have q2 := y1.get (j := 2) rfl; have q3 := y1.get (j := 3) rfl; have q4 := y1.get (j := 4) rfl; have HP1 := Lib.hid y1; clear y1 y2 y3)
      | (go_at_call 26; refine (member_any A1 n1 c1 p.ws p.dev w1 (H1.out.kept stay_int HB1.out)).mono ?_; rintro e w2 ⟨rfl, hw⟩; rw [hw, f4]; clear hw w2)
      | fail)
    go_ret
    exact ⟨ret_bool HF.out.symm, HB1.out⟩
  have f5 : decide (3 < n1) = false := decide_eq_false (by omega)
  cases f4 : p.ws.contains p.dev with
  | false =>
    have E := Lib.hid f4
    clear h1 h2 h3
    have HF : Hid (validB p = false) := Lib.hid (valid_head (by unfold headB; rw [E.out]; simp))
    go_enter Tryz.func30, Tryz.ntmps30
    go_wp2_with (first
      | ((with_reducible show wpList _ _ _ (⟨some 1, _, _, _, _, _⟩ :: _) _ _); refine wpList_box _ rfl 40 (.tmp 0) rfl (ppC p A1 n1 c1 A2 n2 c2) rfl ?_; intro w1 y1 y2 y3; have HB1 := Lib.hid y2; have q0 := y1.get (j := 0) rfl; have q1 := y1.get (j := 1) rfl; have q2 := y1.get (j := 2) rfl; have q3 := y1.get (j := 3) rfl; have q4 := y1.get (j := 4) rfl; have HP1 := Lib.hid y1; clear y1 y2 y3)
      | (go_at_call 26; refine (member_any A1 n1 c1 p.ws p.dev w1 (H1.out.kept stay_int HB1.out)).mono ?_; rintro e w2 ⟨rfl, hw⟩; rw [hw, f4]; clear hw w2)
      | fail)
    go_ret
    exact ⟨ret_bool HF.out.symm, HB1.out⟩
  | true =>
  by_cases h6 : 1 ≤ n2
  rotate_left
  · have E : Hid (decide (1 ≤ p.ss.length) = false) := Lib.hid (decide_eq_false (by rw [HL2.out]; exact h6))
    have f6 : decide (n2 < 1) = true := decide_eq_true (by omega)
    have f6' : decide (n2 = 0) = true := decide_eq_true (by omega)
    clear h1 h2 h3
    have HF : Hid (validB p = false) := Lib.hid (valid_head (by unfold headB; rw [E.out]; simp))
    go_enter Tryz.func30, Tryz.ntmps30
    go_wp2_with (first
      | ((with_reducible show wpList _ _ _ (⟨some 1, _, _, _, _, _⟩ :: _) _ _); refine wpList_box _ rfl 40 (.tmp 0) rfl (ppC p A1 n1 c1 A2 n2 c2) rfl ?_; intro w1 y1 y2 y3; have HB1 := Lib.hid y2; have q0 := y1.get (j := 0) rfl; have q1 := y1.get (j := 1) rfl; have q2 := y1.get (j := 2) rfl; have q3 := y1.get (j := 3) rfl; have q4 := y1.get (j := 4) rfl; have HP1 := Lib.hid y1; clear y1 y2 y3)
      | (go_at_call 26; refine (member_any A1 n1 c1 p.ws p.dev w1 (H1.out.kept stay_int HB1.out)).mono ?_; rintro e w2 ⟨rfl, hw⟩; rw [hw, f4]; clear hw w2)
      | fail)
    go_ret
    exact ⟨ret_bool HF.out.symm, HB1.out⟩
  have f6 : decide (n2 < 1) = false := decide_eq_false (by omega)
  have f6' : decide (n2 = 0) = false := decide_eq_false (by omega)
  by_cases h7 : n2 ≤ 1024
  rotate_left
  · have E : Hid (decide (p.ss.length ≤ 1024) = false) := Lib.hid (decide_eq_false (by rw [HL2.out]; exact h7))
    have f7 : decide (1024 < n2) = true := decide_eq_true (by omega)
    clear h1 h2 h3
    have HF : Hid (validB p = false) := Lib.hid (valid_head (by unfold headB; rw [E.out]; simp))
    go_enter Tryz.func30, Tryz.ntmps30
    go_wp2_with (first
      | ((with_reducible show wpList _ _ _ (⟨some 1, _, _, _, _, _⟩ :: _) _ _); refine wpList_box _ rfl 40 (.tmp 0) rfl (ppC p A1 n1 c1 A2 n2 c2) rfl ?_; intro w1 y1 y2 y3; have HB1 := Lib.hid y2; have q0 := y1.get (j := 0) rfl; have q1 := y1.get (j := 1) rfl; have q2 := y1.get (j := 2) rfl; have q3 := y1.get (j := 3) rfl; have q4 := y1.get (j := 4) rfl; have HP1 := Lib.hid y1; clear y1 y2 y3)
      | (go_at_call 26; refine (member_any A1 n1 c1 p.ws p.dev w1 (H1.out.kept stay_int HB1.out)).mono ?_; rintro e w2 ⟨rfl, hw⟩; rw [hw, f4]; clear hw w2)
      | fail)
    go_ret
    exact ⟨ret_bool HF.out.symm, HB1.out⟩
  have f7 : decide (1024 < n2) = false := decide_eq_false (by omega)
  have HH : Hid (headB p = true) := Lib.hid (by
    unfold headB
    rw [decide_eq_true h1, decide_eq_true h2, decide_eq_true h3, f4, HL1.out, HL2.out, decide_eq_true h5, decide_eq_true h6, decide_eq_true h7]; rfl)
  clear h1 h2 h3
  go_enter Tryz.func30, Tryz.ntmps30
  go_wp2_with (first
    | ((with_reducible show wpList _ _ _ (⟨some 1, _, _, _, _, _⟩ :: _) _ _); refine wpList_box _ rfl 40 (.tmp 0) rfl (ppC p A1 n1 c1 A2 n2 c2) rfl ?_; intro w1 y1 y2 y3; have HB1 := Lib.hid y2; have q0 := y1.get (j := 0) rfl; have q1 := y1.get (j := 1) rfl; have q2 := y1.get (j := 2) rfl; have q3 := y1.get (j := 3) rfl; have q4 := y1.get (j := 4) rfl; have HP1 := Lib.hid y1; clear y1 y2 y3)
    | (go_at_call 26; refine (member_any A1 n1 c1 p.ws p.dev w1 (H1.out.kept stay_int HB1.out)).mono ?_; rintro e w2 ⟨rfl, hw⟩; rw [hw, f4]; clear hw w2)
    | fail)
  go_loopw [55] (fun iv wr => w1 = wr ∧ ∃ k : Nat, k ≤ n1 ∧ iv = .int .i64 (k : Int) ∧ Hid (∀ j, j < k → wAt p.ws j = true)) (fun iv _ => n1 - (intOf iv).toNat)
  case atStart => exact ⟨rfl, 0, by omega, rfl, Lib.hid (fun j hj => absurd hj (by omega))⟩
  case round =>
    obtain ⟨rfl, k, hk, rfl, hall⟩ := hrel
    by_cases hlt : k < n1
    · obtain ⟨x, g, o, hx, rfl, q5⟩ := H1.out.int_at HB1.out hlt
      have HX := Lib.hid (gI_some hx)
      have HKL : Hid (k < p.ws.length) := Lib.hid (by rw [HL1.out]; exact hlt)
      clear hx
      by_cases g1 : 0 ≤ x
      rotate_left
      · have e1 : decide (x < 0) = true := decide_eq_true (by omega)
        have HR : Hid (validB p = false) := Lib.hid (by rw [validB, ws_false HKL.out (by rw [wAt, HX.out, decide_eq_false g1]; rfl)]; simp)
        clear g1
        go_wp2_with fail
        go_ret
        exact ⟨ret_bool HR.out.symm, HB1.out⟩
      have e1 : decide (x < 0) = false := decide_eq_false (by omega)
      by_cases g2 : x < 12
      rotate_left
      · have e2 : decide (12 ≤ x) = true := decide_eq_true (by omega)
        have HR : Hid (validB p = false) := Lib.hid (by rw [validB, ws_false HKL.out (by rw [wAt, HX.out, decide_eq_false g2]; simp)]; simp)
        clear g1 g2
        go_wp2_with fail
        go_ret
        exact ⟨ret_bool HR.out.symm, HB1.out⟩
      have e2 : decide (12 ≤ x) = false := decide_eq_false (by omega)
      rcases Nat.eq_zero_or_pos k with rfl | hp
      · have HR : Hid (wAt p.ws 0 = true) := Lib.hid (by rw [wAt, HX.out, decide_eq_true g1, decide_eq_true g2]; rfl)
        clear g1 g2
        simp only [Nat.add_zero] at q5
        go_wp2_with fail
        go_roundw
        case rel => exact ⟨trivial, 1, by omega, rfl, Lib.hid (fun j hj => by
          obtain rfl : j = 0 := by omega
          exact HR.out)⟩
        case measure => simp [intOf]; omega
      · obtain ⟨j, hj⟩ : ∃ j, j = k - 1 := ⟨_, rfl⟩
        obtain ⟨y, g', o', hy, e', q6⟩ := H1.out.int_at HB1.out (show j < n1 by omega)
        cases e'
        have HY : Hid (gI p.ws (k - 1) = y) := Lib.hid (by rw [← hj]; exact gI_some hy)
        have hj1 : (k : Int) - 1 = (j : Int) := by omega
        have hkn : decide (0 < k) = true := decide_eq_true (by omega)
        have hk0 : ¬ k = 0 := by omega
        by_cases g3 : y < x
        · have e3 : decide (x ≤ y) = false := decide_eq_false (by omega)
          have HR : Hid (wAt p.ws k = true) := Lib.hid (by rw [wAt, HX.out, HY.out, decide_eq_true g1, decide_eq_true g2, decide_eq_true g3]; simp)
          clear g1 g2 g3 hy hj hk0
          go_wp2_with fail
          go_roundw
          case rel => exact ⟨trivial, k + 1, by omega, by go_num, Lib.hid (fun i hi => by
            rcases Nat.lt_succ_iff_lt_or_eq.1 hi with h | rfl
            · exact hall.out i h
            · exact HR.out)⟩
          case measure => simp [intOf]; omega
        · have e3 : decide (x ≤ y) = true := decide_eq_true (by omega)
          have HR : Hid (validB p = false) := Lib.hid (by rw [validB, ws_false HKL.out (by rw [wAt, HX.out, HY.out, decide_eq_false g3]; simp [hk0])]; simp)
          clear g1 g2 g3 hy hj hk0
          go_wp2_with fail
          go_ret
          exact ⟨ret_bool HR.out.symm, HB1.out⟩
    · obtain rfl : k = n1 := by omega
      have HW : Hid (wsB p.ws = true) := Lib.hid (ws_true (by rw [HL1.out]; exact hall.out))
      go_wp2_with fail
      go_loopw [84] (fun iv wr => w1 = wr ∧ ∃ k : Nat, k ≤ n2 ∧ iv = .int .i64 (k : Int) ∧ Hid (∀ j, j < k → ascAt p.ss j = true)) (fun iv _ => n2 - (intOf iv).toNat)
      case atStart => exact ⟨rfl, 0, by omega, rfl, Lib.hid (fun j hj => absurd hj (by omega))⟩
      case round =>
        obtain ⟨rfl, i, hi, rfl, hal2⟩ := hrel
        by_cases hlt : i < n2
        · obtain ⟨x, g, o, hx, rfl, q5⟩ := H2.out.str_at HB1.out hlt
          have HX := Lib.hid (gR_some hx)
          have HKL : Hid (i < p.ss.length) := Lib.hid (by rw [HL2.out]; exact hlt)
          clear hx
          by_cases hs : x.length = 32
          rotate_left
          · have es : (((strB x).size : Int) != 32) = true := by rw [strB_size, bne_iff_ne]; omega
            have HR : Hid (validB p = false) := Lib.hid (by rw [validB, asc_false HKL.out (by rw [ascAt, HX.out, decide_eq_false hs]; rfl)]; simp)
            clear hs
            go_wp2_with fail
            go_ret
            exact ⟨ret_bool HR.out.symm, HB1.out⟩
          have es : (((strB x).size : Int) != 32) = false := by rw [strB_size, hs]; rfl
          rcases Nat.eq_zero_or_pos i with rfl | hp
          · have HR : Hid (ascAt p.ss 0 = true) := Lib.hid (by rw [ascAt, HX.out, decide_eq_true hs]; rfl)
            clear hs
            simp only [Nat.add_zero] at q5
            go_wp2_with fail
            go_roundw
            case rel => exact ⟨trivial, 1, by omega, rfl, Lib.hid (fun j hj => by
              obtain rfl : j = 0 := by omega
              exact HR.out)⟩
            case measure => simp [intOf]; omega
          · obtain ⟨j, hj⟩ : ∃ j, j = i - 1 := ⟨_, rfl⟩
            obtain ⟨y, g', o', hy, e', q6⟩ := H2.out.str_at HB1.out (show j < n2 by omega)
            cases e'
            have HY : Hid (gR p.ss (i - 1) = y) := Lib.hid (by rw [← hj]; exact gR_some hy)
            have hj1 : (i : Int) - 1 = (j : Int) := by omega
            have hkn : decide (0 < i) = true := decide_eq_true (by omega)
            have hk0 : ¬ i = 0 := by omega
            cases hb : Op.bytesLess y x with
            | true =>
              have el : Op.bytesLess (strB y).toList (strB x).toList = true := by rw [strB_list, strB_list]; exact hb
              have HR : Hid (ascAt p.ss i = true) := Lib.hid (by rw [ascAt, HX.out, HY.out, decide_eq_true hs, hb]; simp)
              clear hs hy hb hj hk0
              go_wp2_with fail
              rw [geq_text el]
              go_simp
              go_wp2_with fail
              go_roundw
              case rel => exact ⟨trivial, i + 1, by omega, by go_num, Lib.hid (fun j hj => by
                rcases Nat.lt_succ_iff_lt_or_eq.1 hj with h | rfl
                · exact hal2.out j h
                · exact HR.out)⟩
              case measure => simp [intOf]; omega
            | false =>
              have el : Op.bytesLess (strB y).toList (strB x).toList = false := by rw [strB_list, strB_list]; exact hb
              have HR : Hid (validB p = false) := Lib.hid (by rw [validB, asc_false HKL.out (by rw [ascAt, HX.out, HY.out, hb]; simp [hk0])]; simp)
              clear hs hy hb hj hk0
              go_wp2_with fail
              rw [geq_text el]
              go_simp
              go_wp2_with fail
              go_ret
              exact ⟨ret_bool HR.out.symm, HB1.out⟩
        · obtain rfl : i = n2 := by omega
          have HR : Hid (validB p = true) := Lib.hid (by rw [validB, HH.out, HW.out, asc_true (by rw [HL2.out]; exact hal2.out)]; rfl)
          go_wp2_with fail
          go_ret
          exact ⟨ret_bool HR.out.symm, HB1.out⟩
end Go.Proofs.YtfonbliomokffaaGreat
