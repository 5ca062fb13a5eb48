/- Several texts in one: Ct, Cu, Cv, Cw, Cx. -/
import Derived.Test.YtboglaokdgnpaaaA14
/- The reference's without. -/
namespace Go.Proofs.Ytboglaokdgnpaaa
open Go Go.RowKit Gf Sha

/-- A list without the elements of another. -/
def woutL (m d : List (List UInt8)) : List (List UInt8) := m.filter fun n => !hasB d n
set_option maxRecDepth 100000 in
set_option maxHeartbeats 2000000 in
theorem without_any (A : Option Addr) (n c : Nat) (m : List (List UInt8)) (A' : Option Addr) (n' c' : Nat) (d : List (List UInt8)) (w : World) (hm : LS rStr 1 16 w A n c m) (hd : LS rStr 1 16 w A' n' c' d) :
  Calls Try.prog 68 #[.slice A n c, .slice A' n' c'] w (StrR (woutL m d) w) := by
 have hn := hm.len_le
 have H := Lib.hid hm
 have HD := Lib.hid hd
 have HL := Lib.hid hm.1
 clear hm hd
 go_enter Try.func68, Try.ntmps68
 go_wp2_with fail
 go_loopw [5, 10] (fun v iv wr => ∃ k : Nat, k ≤ n ∧ iv = .int .i64 (k : Int) ∧ Hid (OL rStr 1 9 w wr v ((m.take k).filter fun n => !hasB d n)) ∧ Hid (Below w.heap.size w wr)) (fun _ iv _ => n - (intOf iv).toNat)
 case atStart => exact ⟨0, by omega, rfl, Lib.hid (OL.nil _ _ _ _ _), Lib.hid (Below.refl _ _)⟩
 case round =>
  obtain ⟨k, hk, rfl, ho, hb⟩ := hrel
  obtain ⟨wx, hwx⟩ : ∃ x, x = wr := ⟨_, rfl⟩
  rw [← hwx] at ho hb ⊢
  clear hwx
  by_cases hlt : k < n
  ·
   obtain ⟨s, g, o, hs, rfl, p1⟩ := H.out.str_at hb.out hlt
   have HOK := Lib.hid (H.out.str_ok hs)
   have HX := Lib.hid hs
   have HFL : Hid (((m.take k).filter fun n => !hasB d n).length ≤ k) := Lib.hid (Nat.le_trans (List.length_filter_le _ _) (by rw [List.length_take]; omega))
   clear hs
   cases h1 : hasB d s with
   | true =>
    have HF : Hid (((m.take (k + 1)).filter fun n => !hasB d n) = (m.take k).filter fun n => !hasB d n) := Lib.hid (by rw [filt_step HX.out]; simp [h1])
    go_wp2_with (first
     | (go_at_call 43; refine (has_any A' n' c' d s _ (HD.out.kept stay_str hb.out)).mono ?_; rintro e w4 ⟨rfl, hw⟩; rw [hw]; clear hw w4; rw [h1]))
    go_roundw
    case rel => exact ⟨k + 1, by omega, by go_num, Lib.hid (by rw [HF.out]; exact ho.out), hb⟩
    case measure => simp [intOf]; omega
   | false =>
    have HF : Hid (((m.take (k + 1)).filter fun n => !hasB d n) = ((m.take k).filter fun n => !hasB d n) ++ [s]) := Lib.hid (by rw [filt_step HX.out]; simp [h1])
    obtain ⟨nf, hnf⟩ : ∃ nf, ((m.take k).filter fun n => !hasB d n).length = nf := ⟨_, rfl⟩
    obtain ⟨css, hc1, hc2, hc3, hc4, hc5⟩ := ho.out
    rw [hnf] at hc4
    have HNF : Hid (nf ≤ k) := Lib.hid (by rw [← hnf]; exact HFL.out)
    have HN := Lib.hid hnf
    have HC1 := Lib.hid hc1
    have HC2 := Lib.hid hc2
    have HC3 := Lib.hid hc3
    have HC4 := Lib.hid hc4
    have HC5 := Lib.hid hc5
    clear hnf hc1 hc2 hc3 hc4 hc5
    go_wp2_with (first
     | (go_at_call 43; refine (has_any A' n' c' d s _ (HD.out.kept stay_str hb.out)).mono ?_; rintro e w4 ⟨rfl, hw⟩; rw [hw]; clear hw w4; rw [h1]) | ((with_reducible show OpW 20); refine wpList_bslice _ rfl 23 9 1 _ rfl #[(0, .string (strB s))] (by rw [List.map_toArray]; rfl) [.string (strB s)] (bslStr s _) ?_; intro w5 a1 a2 a3; have HG5 := Lib.hid a1; have HX5 := Lib.hid a2; clear a1 a2 a3) | ((with_reducible show OpW 21); obtain ⟨iS, i1, i2, i3, i4⟩ := info_some infoStr; refine wpList_appRW _ rfl (.tmp 18) (.tmp 20) 23 9 1 iS _ rfl Try.underlying23 i1 i2 i3 rfl _ nf _ rfl (HC4.out.kept HX5.out) wx.heap.size _ rfl HG5.out rfl (one_str s) (by rw [i4]; have := HNF.out; omega) (by have := HNF.out; omega) ?_; intro v' w6 a1; have HR6 := Lib.hid a1; clear a1 i1 i2 i3 i4))
    have HY5 : Hid (Below w.heap.size w w5) := Lib.hid (below_thenB hb.out hb.out.size HX5.out)
    have HY6 : Hid (Below w.heap.size w w6) := Lib.hid (((Kp.of_below (S := fun _ => False) HY5.out).after HR6.out.kp (fun i hi e => by have := HC5.out i e; omega)).below (Nat.le_refl _) (fun _ h => h.elim))
    have HO6 : Hid (OL rStr 1 9 w w6 v' ((m.take (k + 1)).filter fun n => !hasB d n)) := Lib.hid (by
     rw [HF.out]
     exact OL.push HC1.out HC2.out HC3.out HC5.out HN.out rfl ⟨rfl, HOK.out⟩ HY5.out.size HR6.out)
    go_roundw
    case rel => exact ⟨k + 1, by omega, by go_num, HO6, HY6⟩
    case measure => simp [intOf]; omega
  ·
   obtain rfl : k = n := by omega
   have HFL : Hid ((woutL m d).length * 16 ≤ lim) := Lib.hid (Nat.le_trans (Nat.mul_le_mul_right _ (Nat.le_trans (List.length_filter_le _ _) (by rw [HL.out]; exact Nat.le_refl _))) H.out.2.2.1)
   go_wp2_with fail
   go_ret
   have h9 := ho.out
   rw [take_end HL.out] at h9
   obtain ⟨A9, c9, e9, l9⟩ := OL.ls (b := 16) (L := woutL m d) h9 stay_str hb.out HFL.out
   exact ⟨A9, c9, by rw [e9]; rfl, l9, hb.out⟩
end Go.Proofs.Ytboglaokdgnpaaa
/- The reference's strings: two lists are equal. -/
namespace Go.Proofs.Ytboglaokdgnpaaa
open Go Go.RowKit Gf Sha

set_option maxHeartbeats 2000000 in
theorem rstrings_any (A : Option Addr) (n c : Nat) (m : List (List UInt8)) (A' : Option Addr) (n' c' : Nat) (d : List (List UInt8)) (w : World) (hm : LS rStr 1 16 w A n c m) (hd : LS rStr 1 16 w A' n' c' d) :
  Calls Try.prog 48 #[.slice A n c, .slice A' n' c'] w fun e w' => e = .returned (.bool (decide (m = d))) ∧ Below w.heap.size w w' := by
 have hn := hm.len_le
 have H := Lib.hid hm
 have HD := Lib.hid hd
 have HL := Lib.hid hm.1
 have HL' := Lib.hid hd.1
 clear hm hd
 by_cases h0 : n = n'
 rotate_left
 ·
  have e0 : ((n : Int) != (n' : Int)) = true := by rw [bne_iff_ne]; omega
  have e0' : (n != n') = true := by rw [bne_iff_ne]; omega
  have HF : Hid (decide (m = d) = false) := Lib.hid (decide_eq_false (fun e => h0 (by rw [← HL.out, ← HL'.out, e])))
  clear h0
  go_enter Try.func48, Try.ntmps48
  go_wp2_with fail
  go_ret
  exact ⟨ret_bool HF.out.symm, Below.refl _ _⟩
 subst h0
 go_enter Try.func48, Try.ntmps48
 go_wp2_with fail
 go_loopw [13] (fun iv wr => ∃ k : Nat, k ≤ n ∧ iv = .int .i64 (k : Int) ∧ Hid (∀ j, j < k → m[j]? = d[j]?) ∧ Hid (Below w.heap.size w wr)) (fun iv _ => n - (intOf iv).toNat)
 case atStart => exact ⟨0, by omega, rfl, Lib.hid (fun j hj => absurd hj (by omega)), Lib.hid (Below.refl _ _)⟩
 case round =>
  obtain ⟨k, hk, rfl, hall, hb⟩ := hrel
  by_cases hlt : k < n
  ·
   obtain ⟨x, g, o, hx, rfl, p1⟩ := H.out.str_at hb.out hlt
   obtain ⟨y, g', o', hy, rfl, p2⟩ := HD.out.str_at hb.out hlt
   have HX := Lib.hid hx
   have HY := Lib.hid hy
   clear hx hy
   by_cases h1 : x = y
   ·
    have es : ((strB x).toList == (strB y).toList) = true := by rw [strB_eq]; exact decide_eq_true h1
    have es' : ((strB x).toList != (strB y).toList) = false := by rw [bne, es]; rfl
    have HF : Hid (∀ j, j < k + 1 → m[j]? = d[j]?) := Lib.hid (fun j hj => by
     rcases Nat.lt_succ_iff_lt_or_eq.1 hj with h | rfl
     ·
      exact hall.out j h
     ·
      rw [HX.out, HY.out, h1])
    clear h1
    go_wp2_with fail
    refine Text.wp_region_text (fun _ => True) [(0, 4), (1, 4), (2, 4), (4, 4), (5, 4), (6, 4), (3, 1), (7, 1), (8, 4)] (by kernel_rfl) (by kernel_rfl) (fun _ _ _ _ _ h => h) (trivial) ?_
    iterate 6 (refine Text.purek rfl rfl (fun K hK => ⟨_, fun w' => by go_simp <;> rfl, ?_⟩); go_simp; refine hK _ ?_; clear hK K)
    iterate 2 (refine Text.readk rfl rfl (fun K hK => ⟨_, by go_simp <;> rfl, ?_⟩); go_simp; refine hK _ ?_; clear hK K)
    (refine Text.purek rfl rfl (fun K hK => ⟨_, fun w' => by go_simp <;> rfl, ?_⟩); go_simp; refine hK _ ?_; clear hK K)
    refine Text.done ?_
    go_wp2_with fail
    go_roundw
    case rel => exact ⟨k + 1, by omega, by go_num, HF, Lib.hid hb.out.drew⟩
    case measure => simp [intOf]; omega
   ·
    have es : ((strB x).toList == (strB y).toList) = false := by rw [strB_eq]; exact decide_eq_false h1
    have es' : ((strB x).toList != (strB y).toList) = true := by rw [bne, es]; rfl
    have HF : Hid (decide (m = d) = false) := Lib.hid (decide_eq_false (fun e => h1 (by
     have h2 := HX.out
     rw [e, HY.out] at h2
     cases h2; rfl)))
    clear h1
    go_wp2_with fail
    refine Text.wp_region_text (fun _ => True) [(0, 4), (1, 4), (2, 4), (4, 4), (5, 4), (6, 4), (3, 1), (7, 1), (8, 4)] (by kernel_rfl) (by kernel_rfl) (fun _ _ _ _ _ h => h) (trivial) ?_
    iterate 6 (refine Text.purek rfl rfl (fun K hK => ⟨_, fun w' => by go_simp <;> rfl, ?_⟩); go_simp; refine hK _ ?_; clear hK K)
    iterate 2 (refine Text.readk rfl rfl (fun K hK => ⟨_, by go_simp <;> rfl, ?_⟩); go_simp; refine hK _ ?_; clear hK K)
    (refine Text.purek rfl rfl (fun K hK => ⟨_, fun w' => by go_simp <;> rfl, ?_⟩); go_simp; refine hK _ ?_; clear hK K)
    refine Text.done ?_
    go_wp2_with fail
    go_ret
    exact ⟨ret_bool HF.out.symm, hb.out.drew⟩
  ·
   obtain rfl : k = n := by omega
   have HF : Hid (decide (m = d) = true) := Lib.hid (decide_eq_true (List.ext_getElem? (fun i => by
    by_cases h : i < k
    ·
     exact hall.out i h
    ·
     rw [List.getElem?_eq_none (by rw [HL.out]; omega), List.getElem?_eq_none (by rw [HL'.out]; omega)])))
   go_wp2_with fail
   go_ret
   exact ⟨ret_bool HF.out.symm, hb.out⟩
end Go.Proofs.Ytboglaokdgnpaaa
/- ref30.SameRefs: two lists of refs are equal. -/
namespace Go.Proofs.Ytboglaokdgnpaaa
open Go Go.RowKit Gf Sha

set_option maxRecDepth 100000 in
set_option maxHeartbeats 2000000 in
theorem rsame_any (A : Option Addr) (n c : Nat) (m : List Rf) (A' : Option Addr) (n' c' : Nat) (d : List Rf) (w : World) (hm : LS rRf 3 32 w A n c m) (hd : LS rRf 3 32 w A' n' c' d) :
  Calls Try.prog 49 #[.slice A n c, .slice A' n' c'] w fun e w' => e = .returned (.bool (decide (m = d))) ∧ Below w.heap.size w w' := by
 have hn := hm.len_le
 have H := Lib.hid hm
 have HD := Lib.hid hd
 have HL := Lib.hid hm.1
 have HL' := Lib.hid hd.1
 clear hm hd
 by_cases h0 : n = n'
 rotate_left
 ·
  have e0 : ((n : Int) != (n' : Int)) = true := by rw [bne_iff_ne]; omega
  have e0' : (n != n') = true := by rw [bne_iff_ne]; omega
  have HF : Hid (decide (m = d) = false) := Lib.hid (decide_eq_false (fun e => h0 (by rw [← HL.out, ← HL'.out, e])))
  clear h0
  go_enter Try.func49, Try.ntmps49
  go_wp2_with fail
  go_ret
  exact ⟨ret_bool HF.out.symm, Below.refl _ _⟩
 subst h0
 go_enter Try.func49, Try.ntmps49
 go_wp2_with fail
 go_loopw [13] (fun iv wr => ∃ k : Nat, k ≤ n ∧ iv = .int .i64 (k : Int) ∧ Hid (∀ j, j < k → m[j]? = d[j]?) ∧ Hid (Below w.heap.size w wr)) (fun iv _ => n - (intOf iv).toNat)
 case atStart => exact ⟨0, by omega, rfl, Lib.hid (fun j hj => absurd hj (by omega)), Lib.hid (Below.refl _ _)⟩
 case round =>
  obtain ⟨k, hk, rfl, hall, hb⟩ := hrel
  by_cases hlt : k < n
  ·
   obtain ⟨x, g, o, cs, hx, rfl, hat, rfl, _⟩ := H.out.at_ stay_rf (Below.refl _ _) hlt
   obtain ⟨y, g', o', cs', hy, rfl, hat', rfl, _⟩ := HD.out.at_ stay_rf (Below.refl _ _) hlt
   have p1 := Lib.hid (hat.kept hb.out)
   have p2 := Lib.hid (hat'.kept hb.out)
   have HX := Lib.hid hx
   have HY := Lib.hid hy
   clear hx hy hat hat'
   by_cases h1 : x = y
   ·
    have er : ∀ w, (Op.equalIn 10000 73 (.agg (rfL x).toArray) (.agg (rfL y).toArray)).run Try.prog w = .ok true w := fun w => by rw [eqIn_rf, decide_eq_true h1]
    have HF : Hid (∀ j, j < k + 1 → m[j]? = d[j]?) := Lib.hid (fun j hj => by
     rcases Nat.lt_succ_iff_lt_or_eq.1 hj with h | rfl
     ·
      exact hall.out j h
     ·
      rw [HX.out, HY.out, h1])
    clear h1
    go_wp2_with fail
    refine Text.wp_region_text (fun w' => Below wr.heap.size wr w') [(0, 4), (1, 4), (2, 4), (4, 4), (5, 4), (6, 4), (3, 0), (7, 0), (8, 4)] (by kernel_rfl) (by kernel_rfl) (fun _ _ _ _ _ h => h) ((Below.refl _ _).drew) ?_
    iterate 6 (refine Text.purek rfl rfl (fun K hK => ⟨_, fun w' => by go_simp <;> rfl, ?_⟩); go_simp; refine hK _ ?_; clear hK K)
    refine Text.heldk rfl rfl (fun K hK => ?_)
    refine ⟨_, fun w' hw' => exec_loadv 73 (.tmp 18) rfl 3 (by kernel_rfl) g (o + k * 3) (rfL x) rfl (p1.out.kept hw') rfl, ?_⟩
    go_simp
    refine hK _ ?_
    clear hK K
    refine Text.heldk rfl rfl (fun K hK => ?_)
    refine ⟨_, fun w' hw' => exec_loadv 73 (.tmp 22) rfl 3 (by kernel_rfl) g' (o' + k * 3) (rfL y) rfl (p2.out.kept hw') rfl, ?_⟩
    go_simp
    refine hK _ ?_
    clear hK K
    (refine Text.purek rfl rfl (fun K hK => ⟨_, fun w' => by go_simp <;> rfl, ?_⟩); go_simp; refine hK _ ?_; clear hK K)
    refine Text.done ?_
    go_wp2_with fail
    go_roundw
    case rel => exact ⟨k + 1, by omega, by go_num, HF, Lib.hid hb.out.drew⟩
    case measure => simp [intOf]; omega
   ·
    have er : ∀ w, (Op.equalIn 10000 73 (.agg (rfL x).toArray) (.agg (rfL y).toArray)).run Try.prog w = .ok false w := fun w => by rw [eqIn_rf, decide_eq_false h1]
    have HF : Hid (decide (m = d) = false) := Lib.hid (decide_eq_false (fun e => h1 (by
     have h2 := HX.out
     rw [e, HY.out] at h2
     cases h2; rfl)))
    clear h1
    go_wp2_with fail
    refine Text.wp_region_text (fun w' => Below wr.heap.size wr w') [(0, 4), (1, 4), (2, 4), (4, 4), (5, 4), (6, 4), (3, 0), (7, 0), (8, 4)] (by kernel_rfl) (by kernel_rfl) (fun _ _ _ _ _ h => h) ((Below.refl _ _).drew) ?_
    iterate 6 (refine Text.purek rfl rfl (fun K hK => ⟨_, fun w' => by go_simp <;> rfl, ?_⟩); go_simp; refine hK _ ?_; clear hK K)
    refine Text.heldk rfl rfl (fun K hK => ?_)
    refine ⟨_, fun w' hw' => exec_loadv 73 (.tmp 18) rfl 3 (by kernel_rfl) g (o + k * 3) (rfL x) rfl (p1.out.kept hw') rfl, ?_⟩
    go_simp
    refine hK _ ?_
    clear hK K
    refine Text.heldk rfl rfl (fun K hK => ?_)
    refine ⟨_, fun w' hw' => exec_loadv 73 (.tmp 22) rfl 3 (by kernel_rfl) g' (o' + k * 3) (rfL y) rfl (p2.out.kept hw') rfl, ?_⟩
    go_simp
    refine hK _ ?_
    clear hK K
    (refine Text.purek rfl rfl (fun K hK => ⟨_, fun w' => by go_simp <;> rfl, ?_⟩); go_simp; refine hK _ ?_; clear hK K)
    refine Text.done ?_
    go_wp2_with fail
    go_ret
    exact ⟨ret_bool HF.out.symm, hb.out.drew⟩
  ·
   obtain rfl : k = n := by omega
   have HF : Hid (decide (m = d) = true) := Lib.hid (decide_eq_true (List.ext_getElem? (fun i => by
    by_cases h : i < k
    ·
     exact hall.out i h
    ·
     rw [List.getElem?_eq_none (by rw [HL.out]; omega), List.getElem?_eq_none (by rw [HL'.out]; omega)])))
   go_wp2_with fail
   go_ret
   exact ⟨ret_bool HF.out.symm, hb.out⟩
end Go.Proofs.Ytboglaokdgnpaaa
/- The reference's SameStep. -/
namespace Go.Proofs.Ytboglaokdgnpaaa
open Go Go.RowKit Gf Sha

abbrev stC (x : Stp) (A0 : Option Addr) (n0 c0 : Nat) (A1 : Option Addr) (n1 c1 : Nat) : List Value := [.int .i64 x.kind, .slice A0 n0 c0, .string (strB x.pc.1), .int .i64 x.pc.2, .slice A1 n1 c1]
theorem at_two {w : World} {g : Nat} {a b c d e : Value} (h : At w g 0 [a, b, c, d, e]) : At w g 2 [c, d] := fun j v hj => by
 cases j with
 | zero => exact h 2 v hj
 | succ j => cases j with
  | zero => exact h 3 v hj
  | succ j => simp at hj
end Go.Proofs.Ytboglaokdgnpaaa
/- ref30.Same: stripes compared. -/
namespace Go.Proofs.Ytboglaokdgnpaaa
open Go Go.RowKit Gf Sha

def sspB (a b : Sp) : Bool := decide (a.id = b.id) && (decide (a.v = b.v) && (decide (a.b = b.b) && (decide (a.d = b.d) && (decide (a.t = b.t) && decide (a.refs = b.refs)))))
set_option maxRecDepth 100000 in
set_option maxHeartbeats 4000000 in
theorem rsamesp_any (ca cb : List Value) (a b : Sp) (w : World) (ha : rSp w ca a) (hb : rSp w cb b) :
  Calls Try.prog 63 #[.agg ca.toArray, .agg cb.toArray] w fun e w' => e = .returned (.bool (sspB a b)) ∧ Below w.heap.size w w' := by
 obtain ⟨A0, n0, c0, rfl, h0, _⟩ := ha
 obtain ⟨A1, n1, c1, rfl, h1, _⟩ := hb
 have H0 := Lib.hid h0
 have H1 := Lib.hid h1
 clear h0 h1
 by_cases k1 : a.id = b.id
 rotate_left
 ·
  have e1 : ((strB a.id).toList == (strB b.id).toList) = false := by rw [strB_eq]; exact decide_eq_false k1
  have HR : Hid (sspB a b = false) := Lib.hid (by rw [sspB, decide_eq_false k1]; rfl)
  clear k1
  go_enter Try.func63, Try.ntmps63
  go_wp2_with (first
   | ((with_reducible show OpW 2); refine wpList_box _ rfl 61 (.tmp 0) rfl (spC a A0 n0 c0) rfl ?_; intro w1 a1 a2 a3; have HB1 := Lib.hid a2; have HS1 := Lib.hid a1; clear a1 a2 a3)
   | ((with_reducible show OpW 3); refine wpList_box _ rfl 61 (.tmp 1) rfl (spC b A1 n1 c1) rfl ?_; intro w2 a1 a2 a3; have HB2 := Lib.hid (below_then HB1.out a2); have HS2 := HS1.out.kept a2; have p0 := HS2.get (j := 0) rfl; have p1 := HS2.get (j := 1) rfl; have p2 := HS2.get (j := 2) rfl; have p3 := HS2.get (j := 3) rfl; have p4 := HS2.get (j := 4) rfl; have p5 := HS2.get (j := 5) rfl; have q0 := a1.get (j := 0) rfl; have q1 := a1.get (j := 1) rfl; have q2 := a1.get (j := 2) rfl; have q3 := a1.get (j := 3) rfl; have q4 := a1.get (j := 4) rfl; have q5 := a1.get (j := 5) rfl; clear HS2 a1 a2 a3)
   | (go_at_call 49; refine (rsame_any _ _ _ a.refs _ _ _ b.refs _ (H0.out.kept stay_rf HB2.out) (H1.out.kept stay_rf HB2.out)).mono ?_; rintro e w5 ⟨rfl, b5⟩; have HB5 := Lib.hid (below_thenB HB2.out HB2.out.size b5); clear b5))
  go_ret
  exact ⟨ret_bool HR.out.symm, HB2.out⟩
 have e1 : ((strB a.id).toList == (strB b.id).toList) = true := by rw [strB_eq]; exact decide_eq_true k1
 by_cases k2 : a.v = b.v
 rotate_left
 ·
  have e2 : (a.v == b.v) = false := by simpa using k2
  have HR : Hid (sspB a b = false) := Lib.hid (by rw [sspB, decide_eq_true k1, decide_eq_false k2]; rfl)
  clear k1 k2
  go_enter Try.func63, Try.ntmps63
  go_wp2_with (first
   | ((with_reducible show OpW 2); refine wpList_box _ rfl 61 (.tmp 0) rfl (spC a A0 n0 c0) rfl ?_; intro w1 a1 a2 a3; have HB1 := Lib.hid a2; have HS1 := Lib.hid a1; clear a1 a2 a3)
   | ((with_reducible show OpW 3); refine wpList_box _ rfl 61 (.tmp 1) rfl (spC b A1 n1 c1) rfl ?_; intro w2 a1 a2 a3; have HB2 := Lib.hid (below_then HB1.out a2); have HS2 := HS1.out.kept a2; have p0 := HS2.get (j := 0) rfl; have p1 := HS2.get (j := 1) rfl; have p2 := HS2.get (j := 2) rfl; have p3 := HS2.get (j := 3) rfl; have p4 := HS2.get (j := 4) rfl; have p5 := HS2.get (j := 5) rfl; have q0 := a1.get (j := 0) rfl; have q1 := a1.get (j := 1) rfl; have q2 := a1.get (j := 2) rfl; have q3 := a1.get (j := 3) rfl; have q4 := a1.get (j := 4) rfl; have q5 := a1.get (j := 5) rfl; clear HS2 a1 a2 a3)
   | (go_at_call 49; refine (rsame_any _ _ _ a.refs _ _ _ b.refs _ (H0.out.kept stay_rf HB2.out) (H1.out.kept stay_rf HB2.out)).mono ?_; rintro e w5 ⟨rfl, b5⟩; have HB5 := Lib.hid (below_thenB HB2.out HB2.out.size b5); clear b5))
  go_ret
  exact ⟨ret_bool HR.out.symm, HB2.out⟩
 have e2 : (a.v == b.v) = true := by simpa using k2
 by_cases k3 : a.b = b.b
 rotate_left
 ·
  have e3 : (a.b == b.b) = false := by simpa using k3
  have HR : Hid (sspB a b = false) := Lib.hid (by rw [sspB, decide_eq_true k1, decide_eq_true k2, decide_eq_false k3]; rfl)
  clear k1 k2 k3
  go_enter Try.func63, Try.ntmps63
  go_wp2_with (first
   | ((with_reducible show OpW 2); refine wpList_box _ rfl 61 (.tmp 0) rfl (spC a A0 n0 c0) rfl ?_; intro w1 a1 a2 a3; have HB1 := Lib.hid a2; have HS1 := Lib.hid a1; clear a1 a2 a3)
   | ((with_reducible show OpW 3); refine wpList_box _ rfl 61 (.tmp 1) rfl (spC b A1 n1 c1) rfl ?_; intro w2 a1 a2 a3; have HB2 := Lib.hid (below_then HB1.out a2); have HS2 := HS1.out.kept a2; have p0 := HS2.get (j := 0) rfl; have p1 := HS2.get (j := 1) rfl; have p2 := HS2.get (j := 2) rfl; have p3 := HS2.get (j := 3) rfl; have p4 := HS2.get (j := 4) rfl; have p5 := HS2.get (j := 5) rfl; have q0 := a1.get (j := 0) rfl; have q1 := a1.get (j := 1) rfl; have q2 := a1.get (j := 2) rfl; have q3 := a1.get (j := 3) rfl; have q4 := a1.get (j := 4) rfl; have q5 := a1.get (j := 5) rfl; clear HS2 a1 a2 a3)
   | (go_at_call 49; refine (rsame_any _ _ _ a.refs _ _ _ b.refs _ (H0.out.kept stay_rf HB2.out) (H1.out.kept stay_rf HB2.out)).mono ?_; rintro e w5 ⟨rfl, b5⟩; have HB5 := Lib.hid (below_thenB HB2.out HB2.out.size b5); clear b5))
  go_ret
  exact ⟨ret_bool HR.out.symm, HB2.out⟩
 have e3 : (a.b == b.b) = true := by simpa using k3
 by_cases k4 : a.d = b.d
 rotate_left
 ·
  have e4 : (a.d == b.d) = false := by simpa using k4
  have HR : Hid (sspB a b = false) := Lib.hid (by rw [sspB, decide_eq_true k1, decide_eq_true k2, decide_eq_true k3, decide_eq_false k4]; rfl)
  clear k1 k2 k3 k4
  go_enter Try.func63, Try.ntmps63
  go_wp2_with (first
   | ((with_reducible show OpW 2); refine wpList_box _ rfl 61 (.tmp 0) rfl (spC a A0 n0 c0) rfl ?_; intro w1 a1 a2 a3; have HB1 := Lib.hid a2; have HS1 := Lib.hid a1; clear a1 a2 a3)
   | ((with_reducible show OpW 3); refine wpList_box _ rfl 61 (.tmp 1) rfl (spC b A1 n1 c1) rfl ?_; intro w2 a1 a2 a3; have HB2 := Lib.hid (below_then HB1.out a2); have HS2 := HS1.out.kept a2; have p0 := HS2.get (j := 0) rfl; have p1 := HS2.get (j := 1) rfl; have p2 := HS2.get (j := 2) rfl; have p3 := HS2.get (j := 3) rfl; have p4 := HS2.get (j := 4) rfl; have p5 := HS2.get (j := 5) rfl; have q0 := a1.get (j := 0) rfl; have q1 := a1.get (j := 1) rfl; have q2 := a1.get (j := 2) rfl; have q3 := a1.get (j := 3) rfl; have q4 := a1.get (j := 4) rfl; have q5 := a1.get (j := 5) rfl; clear HS2 a1 a2 a3)
   | (go_at_call 49; refine (rsame_any _ _ _ a.refs _ _ _ b.refs _ (H0.out.kept stay_rf HB2.out) (H1.out.kept stay_rf HB2.out)).mono ?_; rintro e w5 ⟨rfl, b5⟩; have HB5 := Lib.hid (below_thenB HB2.out HB2.out.size b5); clear b5))
  go_ret
  exact ⟨ret_bool HR.out.symm, HB2.out⟩
 have e4 : (a.d == b.d) = true := by simpa using k4
 by_cases k5 : a.t = b.t
 rotate_left
 ·
  have e5 : (a.t == b.t) = false := by simpa using k5
  have HR : Hid (sspB a b = false) := Lib.hid (by rw [sspB, decide_eq_true k1, decide_eq_true k2, decide_eq_true k3, decide_eq_true k4, decide_eq_false k5]; rfl)
  clear k1 k2 k3 k4 k5
  go_enter Try.func63, Try.ntmps63
  go_wp2_with (first
   | ((with_reducible show OpW 2); refine wpList_box _ rfl 61 (.tmp 0) rfl (spC a A0 n0 c0) rfl ?_; intro w1 a1 a2 a3; have HB1 := Lib.hid a2; have HS1 := Lib.hid a1; clear a1 a2 a3)
   | ((with_reducible show OpW 3); refine wpList_box _ rfl 61 (.tmp 1) rfl (spC b A1 n1 c1) rfl ?_; intro w2 a1 a2 a3; have HB2 := Lib.hid (below_then HB1.out a2); have HS2 := HS1.out.kept a2; have p0 := HS2.get (j := 0) rfl; have p1 := HS2.get (j := 1) rfl; have p2 := HS2.get (j := 2) rfl; have p3 := HS2.get (j := 3) rfl; have p4 := HS2.get (j := 4) rfl; have p5 := HS2.get (j := 5) rfl; have q0 := a1.get (j := 0) rfl; have q1 := a1.get (j := 1) rfl; have q2 := a1.get (j := 2) rfl; have q3 := a1.get (j := 3) rfl; have q4 := a1.get (j := 4) rfl; have q5 := a1.get (j := 5) rfl; clear HS2 a1 a2 a3)
   | (go_at_call 49; refine (rsame_any _ _ _ a.refs _ _ _ b.refs _ (H0.out.kept stay_rf HB2.out) (H1.out.kept stay_rf HB2.out)).mono ?_; rintro e w5 ⟨rfl, b5⟩; have HB5 := Lib.hid (below_thenB HB2.out HB2.out.size b5); clear b5))
  go_ret
  exact ⟨ret_bool HR.out.symm, HB2.out⟩
 have e5 : (a.t == b.t) = true := by simpa using k5
 have HR : Hid (sspB a b = decide (a.refs = b.refs)) := Lib.hid (by rw [sspB, decide_eq_true k1, decide_eq_true k2, decide_eq_true k3, decide_eq_true k4, decide_eq_true k5]; rfl)
 clear k1 k2 k3 k4 k5
 go_enter Try.func63, Try.ntmps63
 go_wp2_with (first
  | ((with_reducible show OpW 2); refine wpList_box _ rfl 61 (.tmp 0) rfl (spC a A0 n0 c0) rfl ?_; intro w1 a1 a2 a3; have HB1 := Lib.hid a2; have HS1 := Lib.hid a1; clear a1 a2 a3)
  | ((with_reducible show OpW 3); refine wpList_box _ rfl 61 (.tmp 1) rfl (spC b A1 n1 c1) rfl ?_; intro w2 a1 a2 a3; have HB2 := Lib.hid (below_then HB1.out a2); have HS2 := HS1.out.kept a2; have p0 := HS2.get (j := 0) rfl; have p1 := HS2.get (j := 1) rfl; have p2 := HS2.get (j := 2) rfl; have p3 := HS2.get (j := 3) rfl; have p4 := HS2.get (j := 4) rfl; have p5 := HS2.get (j := 5) rfl; have q0 := a1.get (j := 0) rfl; have q1 := a1.get (j := 1) rfl; have q2 := a1.get (j := 2) rfl; have q3 := a1.get (j := 3) rfl; have q4 := a1.get (j := 4) rfl; have q5 := a1.get (j := 5) rfl; clear HS2 a1 a2 a3)
  | (go_at_call 49; refine (rsame_any _ _ _ a.refs _ _ _ b.refs _ (H0.out.kept stay_rf HB2.out) (H1.out.kept stay_rf HB2.out)).mono ?_; rintro e w5 ⟨rfl, b5⟩; have HB5 := Lib.hid (below_thenB HB2.out HB2.out.size b5); clear b5))
 go_ret
 exact ⟨ret_bool HR.out.symm, HB5.out⟩
end Go.Proofs.Ytboglaokdgnpaaa
