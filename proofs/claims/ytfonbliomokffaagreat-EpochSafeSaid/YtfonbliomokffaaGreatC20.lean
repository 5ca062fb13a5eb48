/- Several texts in one: La, Ax. -/
import Derived.Test.YtfonbliomokffaaGreatC19
/- law47: id, same, to, from, long; the reference's Has (printed by bin/mk47e.py). -/
namespace Go.Proofs.YtfonbliomokffaaGreat
open Go Go.RowKit Gf Sha

attribute [local go_sem] strB_app
def idC (c : UInt8) : List UInt8 := List.replicate 32 c
set_option maxRecDepth 100000 in
theorem id_any (c : UInt8) (w : World) : Calls Tryz.prog 37 #[B c] w fun e w' => e = .returned (.string (strB (idC c))) ∧ Below w.heap.size w w' := by
  go_enter Tryz.func37, Tryz.ntmps37
  rw [strB_nil]
  go_wp2_with fail
  go_loopw [3, 4] (fun v iv wr => ∃ k : Nat, k ≤ 32 ∧ iv = .int .i64 (k : Int) ∧ v = .string (strB (wdK c k)) ∧ Hid (Below w.heap.size w wr)) (fun _ iv _ => 32 - (intOf iv).toNat)
  case atStart => exact ⟨0, by omega, rfl, rfl, Lib.hid (Below.refl _ _)⟩
  case round =>
    obtain ⟨k, hk, rfl, rfl, hb⟩ := hrel
    obtain ⟨wx, hwx⟩ : ∃ x, x = wr := ⟨_, rfl⟩
    rw [← hwx] at hb ⊢
    clear hwx
    by_cases hlt : k < 32
    · have e1 := wdK_succ c k
      have e2 := cat_ok (wdK c k) [c] (by rw [wdK_len]; simp; omega)
      go_wp2_with (first
        | ((with_reducible show wpList _ _ _ (⟨some 11, _, _, _, _, _⟩ :: _) _ _); refine wpList_bslice _ rfl 31 5 1 _ rfl #[(0, B c)] (by rw [List.map_toArray]; rfl) ([c].map B) (bslU1 c _) ?_; intro w1 a1 a2 a3; have HX1 := Lib.hid a2; have cv := conv_str (BL.bs a1 (n := 1) rfl (by decide)); clear a1 a2 a3))
      go_roundw
      case rel => exact ⟨k + 1, by omega, by go_num, rfl, Lib.hid (below_thenB hb.out hb.out.size HX1.out)⟩
      case measure => simp [intOf]; omega
    · obtain rfl : k = 32 := by omega
      go_wp2_with fail
      go_ret
      exact ⟨rfl, hb.out⟩
set_option maxHeartbeats 400000 in
theorem has_any (A : Option Addr) (n c : Nat) (m : List (List UInt8)) (s : List UInt8) (w : World) (h : LS rStr 1 16 w A n c m) :
    Calls Tryz.prog 17 #[.slice A n c, .string (strB s)] w fun e w' => e = .returned (.bool (hasB m s)) ∧ w' = w := by
  have hn := h.len_le
  have H := Lib.hid h
  have HL := Lib.hid h.1
  clear h
  go_enter Tryz.func17, Tryz.ntmps17
  go_wp2_with fail
  go_loopw [9] (fun iv wr => wr = w ∧ ∃ k : Nat, k ≤ n ∧ iv = .int .i64 (k : Int) ∧ Hid (hasB (m.take k) s = false)) (fun iv _ => n - (intOf iv).toNat)
  case atStart => exact ⟨rfl, 0, by omega, rfl, Lib.hid rfl⟩
  case round =>
    obtain ⟨rfl, k, hk, rfl, hall⟩ := hrel
    by_cases hlt : k < n
    · obtain ⟨x, g, o, hx, rfl, q1⟩ := H.out.str_at (Below.refl _ _) hlt
      have HX := Lib.hid hx
      by_cases hs : x = s
      · have es : ((strB x).toList == (strB s).toList) = true := by rw [strB_eq]; exact decide_eq_true hs
        have HR : Hid (hasB m s = true) := Lib.hid ((hasB_iff m s).2 (hs ▸ mem_of HX.out))
        clear hs hx
        go_wp2_with fail
        go_ret
        exact ⟨ret_bool HR.out.symm, rfl⟩
      · have es : ((strB x).toList == (strB s).toList) = false := by rw [strB_eq]; exact decide_eq_false hs
        have HR : Hid (hasB (m.take (k + 1)) s = false) := Lib.hid (by rw [hasB_step HX.out, hall.out, beq_eq_false_iff_ne.2 hs]; rfl)
        clear hs hx
        go_wp2_with fail
        go_roundw
        case rel => exact ⟨trivial, k + 1, by omega, by go_num, HR⟩
        case measure => simp [intOf]; omega
    · obtain rfl : k = n := by omega
      go_wp2_with fail
      go_ret
      exact ⟨ret_bool (by have := hall.out; rw [take_end HL.out] at this; exact this.symm), rfl⟩
set_option maxHeartbeats 2000000 in
theorem same_any (A : Option Addr) (n c : Nat) (m : List (List UInt8)) (A' : Option Addr) (n' c' : Nat) (d : List (List UInt8)) (w : World) (hm : LS rStr 1 16 w A n c m) (hd : LS rStr 1 16 w A' n' c' d) :
    Calls Tryz.prog 11 #[.slice A n c, .slice A' n' c'] w fun e w' => e = .returned (.bool (decide (m = d))) ∧ Below w.heap.size w w' := by
  have hn := hm.len_le
  have H := Lib.hid hm
  have HD := Lib.hid hd
  have HL := Lib.hid hm.1
  have HL' := Lib.hid hd.1
  clear hm hd
  by_cases h0 : n = n'
  rotate_left
  · have e0 : ((n : Int) != (n' : Int)) = true := by rw [bne_iff_ne]; omega
    have e0' : (n != n') = true := by rw [bne_iff_ne]; omega
    have HF : Hid (decide (m = d) = false) := Lib.hid (decide_eq_false (fun e => h0 (by rw [← HL.out, ← HL'.out, e])))
    clear h0
    go_enter Tryz.func11, Tryz.ntmps11
    go_wp2_with fail
    go_ret
    exact ⟨ret_bool HF.out.symm, Below.refl _ _⟩
  subst h0
  go_enter Tryz.func11, Tryz.ntmps11
  go_wp2_with fail
  go_loopw [13] (fun iv wr => ∃ k : Nat, k ≤ n ∧ iv = .int .i64 (k : Int) ∧ Hid (∀ j, j < k → m[j]? = d[j]?) ∧ Hid (Below w.heap.size w wr)) (fun iv _ => n - (intOf iv).toNat)
  case atStart => exact ⟨0, by omega, rfl, Lib.hid (fun j hj => absurd hj (by omega)), Lib.hid (Below.refl _ _)⟩
  case round =>
    obtain ⟨k, hk, rfl, hall, hb⟩ := hrel
    by_cases hlt : k < n
    · obtain ⟨x, g, o, hx, rfl, p1⟩ := H.out.str_at hb.out hlt
      obtain ⟨y, g', o', hy, rfl, p2⟩ := HD.out.str_at hb.out hlt
      have HX := Lib.hid hx
      have HY := Lib.hid hy
      clear hx hy
      by_cases h1 : x = y
      · have es : ((strB x).toList == (strB y).toList) = true := by rw [strB_eq]; exact decide_eq_true h1
        have es' : ((strB x).toList != (strB y).toList) = false := by rw [bne, es]; rfl
        have HF : Hid (∀ j, j < k + 1 → m[j]? = d[j]?) := Lib.hid (fun j hj => by
          rcases Nat.lt_succ_iff_lt_or_eq.1 hj with h | rfl
          · exact hall.out j h
          · rw [HX.out, HY.out, h1])
        clear h1
        go_wp2_with fail
        refine Text.wp_region_text (fun _ => True) [(0, 4), (1, 4), (2, 4), (4, 4), (5, 4), (6, 4), (3, 1), (7, 1), (8, 4)] (by kernel_rfl) (by kernel_rfl) (fun _ _ _ _ _ h => h) (trivial) ?_
        iterate 6 (refine Text.purek rfl rfl (fun K hK => ⟨_, fun w' => by go_simp <;> rfl, ?_⟩); go_simp; refine hK _ ?_; clear hK K)
        iterate 2 (refine Text.readk rfl rfl (fun K hK => ⟨_, by go_simp <;> rfl, ?_⟩); go_simp; refine hK _ ?_; clear hK K)
        (refine Text.purek rfl rfl (fun K hK => ⟨_, fun w' => by go_simp <;> rfl, ?_⟩); go_simp; refine hK _ ?_; clear hK K)
        refine Text.done ?_
        go_wp2_with fail
        go_roundw
        case rel => exact ⟨k + 1, by omega, by go_num, HF, Lib.hid hb.out.drew⟩
        case measure => simp [intOf]; omega
      · have es : ((strB x).toList == (strB y).toList) = false := by rw [strB_eq]; exact decide_eq_false h1
        have es' : ((strB x).toList != (strB y).toList) = true := by rw [bne, es]; rfl
        have HF : Hid (decide (m = d) = false) := Lib.hid (decide_eq_false (fun e => h1 (by
          have h2 := HX.out
          rw [e, HY.out] at h2
          cases h2; rfl)))
        clear h1
        go_wp2_with fail
        refine Text.wp_region_text (fun _ => True) [(0, 4), (1, 4), (2, 4), (4, 4), (5, 4), (6, 4), (3, 1), (7, 1), (8, 4)] (by kernel_rfl) (by kernel_rfl) (fun _ _ _ _ _ h => h) (trivial) ?_
        iterate 6 (refine Text.purek rfl rfl (fun K hK => ⟨_, fun w' => by go_simp <;> rfl, ?_⟩); go_simp; refine hK _ ?_; clear hK K)
        iterate 2 (refine Text.readk rfl rfl (fun K hK => ⟨_, by go_simp <;> rfl, ?_⟩); go_simp; refine hK _ ?_; clear hK K)
        (refine Text.purek rfl rfl (fun K hK => ⟨_, fun w' => by go_simp <;> rfl, ?_⟩); go_simp; refine hK _ ?_; clear hK K)
        refine Text.done ?_
        go_wp2_with fail
        go_ret
        exact ⟨ret_bool HF.out.symm, hb.out.drew⟩
    · obtain rfl : k = n := by omega
      have HF : Hid (decide (m = d) = true) := Lib.hid (decide_eq_true (List.ext_getElem? (fun i => by
        by_cases h : i < k
        · exact hall.out i h
        · rw [List.getElem?_eq_none (by rw [HL.out]; omega), List.getElem?_eq_none (by rw [HL'.out]; omega)])))
      go_wp2_with fail
      go_ret
      exact ⟨ret_bool HF.out.symm, hb.out⟩
theorem bldFrom (a b c : Int) (A1 : Option Addr) (n1 c1 : Nat) (A2 : Option Addr) (n2 c2 : Nat) (w : World) : (Instr.build 40 #[(0, .int .i64 a), (1, .int .i64 b), (2, .int .i64 c), (3, .slice A1 n1 c1), (4, .slice A2 n2 c2)]).run Tryz.prog w = .ok (.agg [.int .i64 a, .int .i64 b, .int .i64 c, .slice A1 n1 c1, .slice A2 n2 c2].toArray) w := by kernel_rfl
theorem rpZero2 : (Tryz.prog.info? 40).map (·.zero) = some (some (.agg ppZ.toArray)) := by kernel_rfl
set_option maxRecDepth 100000 in
set_option maxHeartbeats 1000000 in
theorem from_any (cs : List Value) (p : Pp) (w : World) (h : rPp w cs p) :
    Calls Tryz.prog 20 #[.agg cs.toArray] w fun e w' => e = .returned (.agg cs.toArray) ∧ Below w.heap.size w w' := by
  obtain ⟨A1, n1, c1, A2, n2, c2, rfl, _⟩ := h
  go_enter Tryz.func20, Tryz.ntmps20
  go_wp2_with (first
    | ((with_reducible show wpList _ _ _ (⟨some 1, _, _, _, _, _⟩ :: _) _ _); refine wpList_box _ rfl 42 (.tmp 0) rfl (ppC p A1 n1 c1 A2 n2 c2) rfl ?_; intro w1 y1 y2 y3; have HB1 := Lib.hid y2; have HS1 := Lib.hid y1; clear y1 y2 y3)
    | ((with_reducible show wpList _ _ _ (⟨some 2, _, _, _, _, _⟩ :: _) _ _); refine wpList_alloc _ rfl 40 rfl ppZ rpZero2 ?_; intro w2 y1 y2 y3; have HR2 := Lib.hid y1; have HB2 := Lib.hid (below_then HB1.out y2); have hs := HS1.out.kept y2; have HG := Lib.hid HB1.out.size; have q0 := hs.get (j := 0) rfl; have q1 := hs.get (j := 1) rfl; have q2 := hs.get (j := 2) rfl; have q3 := hs.get (j := 3) rfl; have q4 := hs.get (j := 4) rfl; clear y1 y2 y3 hs)
    | ((with_reducible show wpList _ _ _ (⟨some 13, _, _, _, _, _⟩ :: _) _ _); refine wpList_build _ rfl 40 _ rfl #[(0, .int .i64 p.dev), (1, .int .i64 p.seq), (2, .int .i64 p.vault), (3, .slice A1 n1 c1), (4, .slice A2 n2 c2)] (by rw [List.map_toArray]; rfl) (.agg (ppC p A1 n1 c1 A2 n2 c2).toArray) (bldFrom _ _ _ _ _ _ _ _ _ _) ?_)
    | ((with_reducible show wpList _ _ _ (⟨none, _, _, _, _, _⟩ :: _) _ _); refine wpList_storev _ rfl 40 (.tmp 2) (.tmp 13) rfl 5 (by kernel_rfl) w1.heap.size 0 _ ppZ (ppC p A1 n1 c1 A2 n2 c2) rfl rfl HR2.out rfl (one_val _ rfl) (by decide) ?_; intro w3 y1 y2 y3; have HT3 : Hid (BL w3 w1.heap.size 40 (ppC p A1 n1 c1 A2 n2 c2)) := Lib.hid y1; have HK3 := Lib.hid y2; clear y1 y2 y3))
  (try simp only [Exit.inBlock, Exit.then])
  exact bodyPost_ret (results_at w3 Tryz.results20 (n := 5) (by kernel_rfl) (g := w1.heap.size) (o := 0) rfl (ms := ppC p A1 n1 c1 A2 n2 c2) (BL.all HT3.out) rfl) rfl ⟨rfl, low_kp HB2.out HK3.out (fun i hi e => by have := HG.out; omega)⟩
theorem bldTo (a b c : Int) (A1 : Option Addr) (n1 c1 : Nat) (A2 : Option Addr) (n2 c2 : Nat) (w : World) : (Instr.build 42 #[(0, .int .i64 a), (1, .int .i64 b), (2, .int .i64 c), (3, .slice A1 n1 c1), (4, .slice A2 n2 c2)]).run Tryz.prog w = .ok (.agg [.int .i64 a, .int .i64 b, .int .i64 c, .slice A1 n1 c1, .slice A2 n2 c2].toArray) w := by kernel_rfl
theorem ppZero' : (Tryz.prog.info? 42).map (·.zero) = some (some (.agg ppZ.toArray)) := by kernel_rfl
set_option maxRecDepth 100000 in
set_option maxHeartbeats 1000000 in
theorem to_any (cs : List Value) (p : Pp) (w : World) (h : rPp w cs p) :
    Calls Tryz.prog 28 #[.agg cs.toArray] w fun e w' => e = .returned (.agg cs.toArray) ∧ Below w.heap.size w w' := by
  obtain ⟨A1, n1, c1, A2, n2, c2, rfl, _⟩ := h
  go_enter Tryz.func28, Tryz.ntmps28
  go_wp2_with (first
    | ((with_reducible show wpList _ _ _ (⟨some 1, _, _, _, _, _⟩ :: _) _ _); refine wpList_box _ rfl 40 (.tmp 0) rfl (ppC p A1 n1 c1 A2 n2 c2) rfl ?_; intro w1 y1 y2 y3; have HB1 := Lib.hid y2; have HS1 := Lib.hid y1; clear y1 y2 y3)
    | ((with_reducible show wpList _ _ _ (⟨some 2, _, _, _, _, _⟩ :: _) _ _); refine wpList_alloc _ rfl 42 rfl ppZ ppZero' ?_; intro w2 y1 y2 y3; have HR2 := Lib.hid y1; have HB2 := Lib.hid (below_then HB1.out y2); have hs := HS1.out.kept y2; have HG := Lib.hid HB1.out.size; have q0 := hs.get (j := 0) rfl; have q1 := hs.get (j := 1) rfl; have q2 := hs.get (j := 2) rfl; have q3 := hs.get (j := 3) rfl; have q4 := hs.get (j := 4) rfl; clear y1 y2 y3 hs)
    | ((with_reducible show wpList _ _ _ (⟨some 13, _, _, _, _, _⟩ :: _) _ _); refine wpList_build _ rfl 42 _ rfl #[(0, .int .i64 p.dev), (1, .int .i64 p.seq), (2, .int .i64 p.vault), (3, .slice A1 n1 c1), (4, .slice A2 n2 c2)] (by rw [List.map_toArray]; rfl) (.agg (ppC p A1 n1 c1 A2 n2 c2).toArray) (bldTo _ _ _ _ _ _ _ _ _ _) ?_)
    | ((with_reducible show wpList _ _ _ (⟨none, _, _, _, _, _⟩ :: _) _ _); refine wpList_storev _ rfl 42 (.tmp 2) (.tmp 13) rfl 5 (by kernel_rfl) w1.heap.size 0 _ ppZ (ppC p A1 n1 c1 A2 n2 c2) rfl rfl HR2.out rfl (one_val _ rfl) (by decide) ?_; intro w3 y1 y2 y3; have HT3 : Hid (BL w3 w1.heap.size 42 (ppC p A1 n1 c1 A2 n2 c2)) := Lib.hid y1; have HK3 := Lib.hid y2; clear y1 y2 y3))
  (try simp only [Exit.inBlock, Exit.then])
  exact bodyPost_ret (results_at w3 Tryz.results28 (n := 5) (by kernel_rfl) (g := w1.heap.size) (o := 0) rfl (ms := ppC p A1 n1 c1 A2 n2 c2) (BL.all HT3.out) rfl) rfl ⟨rfl, low_kp HB2.out HK3.out (fun i hi e => by have := HG.out; omega)⟩
/-- Is a view larger than the statements consider? -/
def longB (es : List En) : Bool := es.any (fun x => decide (1000 < x.body.length)) || decide (30 < es.length)
set_option maxRecDepth 100000 in
set_option maxHeartbeats 2000000 in
theorem long_any (A : Option Addr) (n c : Nat) (es : List En) (w : World) (h : LS rEn 6 72 w A n c es) :
    Calls Tryz.prog 10 #[.slice A n c] w fun e w' => e = .returned (.bool (longB es)) ∧ Below w.heap.size w w' := by
  have hn := h.len_le
  have H := Lib.hid h
  have HL := Lib.hid h.1
  clear h
  go_enter Tryz.func10, Tryz.ntmps10
  go_wp2_with fail
  go_loopw [7] (fun iv wr => ∃ k : Nat, k ≤ n ∧ iv = .int .i64 (k : Int) ∧ Hid ((es.take k).any (fun x => decide (1000 < x.body.length)) = false) ∧ Hid (Below w.heap.size w wr)) (fun iv _ => n - (intOf iv).toNat)
  case atStart => exact ⟨0, by omega, rfl, Lib.hid rfl, Lib.hid (Below.refl _ _)⟩
  case round =>
    obtain ⟨k, hk, rfl, hall, hb⟩ := hrel
    obtain ⟨wx, hwx⟩ : ∃ x, x = wr := ⟨_, rfl⟩
    rw [← hwx] at hb ⊢
    clear hwx
    by_cases hlt : k < n
    · obtain ⟨x, g, o, cs, hs, ea, hat, hr⟩ := H.out.at_ stay_en hb.out hlt
      obtain ⟨AB, m, d, rfl, hbs, _⟩ := hr
      have HX := Lib.hid hs
      have HA := Lib.hid hat
      have HM : Hid (m = x.body.length) := Lib.hid hbs.1.symm
      subst ea
      clear hs hat hbs
      cases h1 : decide ((1000 : Int) < (m : Int)) with
      | true =>
        have HF : Hid (longB es = true) := Lib.hid (by
          rw [longB, List.any_eq_true.2 ⟨x, mem_of HX.out, by rw [← HM.out]; have := of_decide_eq_true h1; exact decide_eq_true (by omega)⟩]; rfl)
        go_wp2_with (first
          | ((with_reducible show wpList _ _ _ (⟨some 10, _, _, _, _, _⟩ :: _) _ _); refine wpList_loadv _ rfl 33 (.tmp 9) rfl 6 (by kernel_rfl) g (o + k * 6) (enC x AB m d) (by go_simp) HA.out rfl ?_)
          | ((with_reducible show wpList _ _ _ (⟨some 4, _, _, _, _, _⟩ :: _) _ _); refine wpList_alloc _ rfl 33 rfl enZ enZero ?_; intro w3 a1 a2 a3; have HV3 := Lib.hid a1; have HX3 := Lib.hid a2; clear a1 a2 a3)
          | ((with_reducible show wpList _ _ _ (⟨none, _, _, _, _, _⟩ :: _) _ _); refine wpList_storev _ rfl 33 (.tmp 4) (.tmp 10) rfl 6 (by kernel_rfl) wx.heap.size 0 _ enZ (enC x AB m d) rfl rfl HV3.out rfl (one_en x AB m d) (by decide) ?_; intro w4 a1 a2 a3; have q4 := a1.get (j := 4) rfl; have HX4 : Hid (Below wx.heap.size wx w4) := Lib.hid (((Kp.of_below (S := fun _ => False) HX3.out).after a2 (fun i hi e => by omega)).below (Nat.le_refl _) (fun _ h => h.elim)); clear a1 a2 a3)
          | fail)
        go_ret
        exact ⟨ret_bool HF.out.symm, below_thenB hb.out hb.out.size HX4.out⟩
      | false =>
        have HF : Hid ((es.take (k + 1)).any (fun x => decide (1000 < x.body.length)) = false) := Lib.hid (by
          rw [take_next HX.out, List.any_append, hall.out]
          have := of_decide_eq_false h1
          simp only [List.any_cons, List.any_nil, Bool.or_false, Bool.false_or]
          exact decide_eq_false (by rw [← HM.out]; omega))
        go_wp2_with (first
          | ((with_reducible show wpList _ _ _ (⟨some 10, _, _, _, _, _⟩ :: _) _ _); refine wpList_loadv _ rfl 33 (.tmp 9) rfl 6 (by kernel_rfl) g (o + k * 6) (enC x AB m d) (by go_simp) HA.out rfl ?_)
          | ((with_reducible show wpList _ _ _ (⟨some 4, _, _, _, _, _⟩ :: _) _ _); refine wpList_alloc _ rfl 33 rfl enZ enZero ?_; intro w3 a1 a2 a3; have HV3 := Lib.hid a1; have HX3 := Lib.hid a2; clear a1 a2 a3)
          | ((with_reducible show wpList _ _ _ (⟨none, _, _, _, _, _⟩ :: _) _ _); refine wpList_storev _ rfl 33 (.tmp 4) (.tmp 10) rfl 6 (by kernel_rfl) wx.heap.size 0 _ enZ (enC x AB m d) rfl rfl HV3.out rfl (one_en x AB m d) (by decide) ?_; intro w4 a1 a2 a3; have q4 := a1.get (j := 4) rfl; have HX4 : Hid (Below wx.heap.size wx w4) := Lib.hid (((Kp.of_below (S := fun _ => False) HX3.out).after a2 (fun i hi e => by omega)).below (Nat.le_refl _) (fun _ h => h.elim)); clear a1 a2 a3)
          | fail)
        go_roundw
        case rel => exact ⟨k + 1, by omega, by go_num, HF, Lib.hid (below_thenB hb.out hb.out.size HX4.out)⟩
        case measure => simp [intOf]; omega
    · obtain rfl : k = n := by omega
      have HF : Hid (longB es = decide (30 < (k : Int))) := Lib.hid (by
        have := hall.out
        rw [take_end HL.out] at this
        rw [longB, this, HL.out, Bool.false_or]
        exact decide_eq_decide.2 (by omega))
      go_wp2_with fail
      go_ret
      exact ⟨ret_bool HF.out.symm, hb.out⟩
end Go.Proofs.YtfonbliomokffaaGreat
/- law47: the plain facts of the law's examples. -/
namespace Go.Proofs.YtfonbliomokffaaGreat
open Go Gf

def exP : Pp := ⟨0, 5, 3, [0, 1, 2], [idC 83]⟩
def exB : List UInt8 := [3, 3, 0, 1, 2, 1] ++ idC 83
def exX1 : En := ⟨0, 5, 3, 0, exB, []⟩
def exX2 : En := ⟨1, 1, 4, 0, [0, 5], []⟩
def exX3 : En := ⟨2, 9, 5, 0, [0, 5], []⟩
set_option maxRecDepth 100000
theorem ex_valid : validB exP = true := by decide +kernel
theorem ex_rb : rbL exP = [0, 5] := by decide +kernel
theorem ex_body : bodyL exP = exB := by decide +kernel
theorem ex_dec1 : endR exX1.body.length (dS exX1.body).2 = 0 := by decide +kernel
theorem ex_dec2 : decP exX1 = exP := Pp.eq_of rfl rfl (by decide +kernel) (by decide +kernel) (by decide +kernel)
theorem ex_dec : decM exX1 = some exP := by
  unfold decM
  rw [if_pos (show exX1.kind = 3 from rfl), if_pos ⟨ex_dec1, by rw [ex_dec2]; exact ex_valid⟩, ex_dec2]
theorem ex_no2 : decM exX2 = none := if_neg (by decide)
theorem ex_no3 : decM exX3 = none := if_neg (by decide)
theorem ex_dd0 : dd [] = [] := rfl
theorem ex_dd1 : dd [exX1] = [exX1] := rfl
theorem ex_dd2 : dd [exX1, exX2] = [exX1, exX2] := rfl
theorem ex_dd3 : dd [exX1, exX2, exX3] = [exX1, exX2, exX3] := rfl
theorem ex_pp0 : ppL [] = [] := by simp [ppL, pps, sortP]
theorem ex_pp1 : ppL [exX1] = [exP] := by simp [ppL, pps, ex_dec, sortP]
theorem ex_pp2 : ppL [exX1, exX2] = [exP] := by simp [ppL, pps, ex_dec, ex_no2, sortP]
theorem ex_pp3 : ppL [exX1, exX2, exX3] = [exP] := by simp [ppL, pps, ex_dec, ex_no2, ex_no3, sortP]
theorem ex_same : ppEq exP exP = true := (ppEq_iff _ _).2 rfl
theorem ex_st2 : stateOf [exX1, exX2] exP [] = 1 := by decide +kernel
theorem ex_st3 : stateOf [exX1, exX2, exX3] exP [] = 2 := by decide +kernel
theorem ex_st4 : stateOf [exX1, exX2, exX3] exP [2] = 3 := by decide +kernel
theorem ex_s0 : stR (dd []) exP [] = #[.int .i64 0, .int .i64 4] := stR_no (by rw [ex_dd0, ex_pp0]; rfl)
theorem ex_s2 : stR (dd [exX1, exX2]) exP [] = #[.int .i64 1, .int .i64 0] := by rw [stR_yes (by rw [ex_dd2, ex_pp2, List.any_cons, ex_same]; rfl), ex_dd2, ex_st2]
theorem ex_s3 : stR (dd [exX1, exX2, exX3]) exP [] = #[.int .i64 2, .int .i64 0] := by rw [stR_yes (by rw [ex_dd3, ex_pp3, List.any_cons, ex_same]; rfl), ex_dd3, ex_st3]
theorem ex_s4 : stR (dd [exX1, exX2, exX3]) exP [2] = #[.int .i64 3, .int .i64 0] := by rw [stR_yes (by rw [ex_dd3, ex_pp3, List.any_cons, ex_same]; rfl), ex_dd3, ex_st4]
theorem ex_of1 : ofL [exX1] 3 = [exP] := by rw [ofL, ex_pp1]; rfl
theorem ex_of3 : ofL [exX1, exX2, exX3] 3 = [exP] := by rw [ofL, ex_pp3]; rfl
theorem ex_uniq (s : List UInt8) : uniqS [s] = [s] := by simp [uniqS, addS]
theorem ex_cond : (condL (dd [exX1, exX2, exX3]) 3 0).length = 1 := by
  have h : condN [exX1, exX2, exX3] 0 exP = true := by decide +kernel
  rw [ex_dd3, condL, strL, ex_of3, List.filter_cons_of_pos h]
  simp [stL, exP, ex_uniq]
theorem ex_drop : (dropL (dd [exX1, exX2, exX3]) 3 [2]).length = 1 := by
  rw [ex_dd3, dropL, strL, ex_of3, List.filter_cons_of_pos (by rw [ex_st4]; rfl)]
  simp [stL, exP, ex_uniq]
theorem ex_pend : (pendL (dd [exX1]) 3 1).length = 1 := by
  have h : pendN [exX1] 1 exP = false := by decide +kernel
  rw [ex_dd1, pendL, ex_of1, kpL, List.filter_cons_of_pos (by rw [h]; rfl)]
  rfl
theorem ex_r5 : replyK exP [] [4] = 5 := by decide +kernel
theorem ex_r4 : replyK exP [] [] = 4 := by decide +kernel
end Go.Proofs.YtfonbliomokffaaGreat
