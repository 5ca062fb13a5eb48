/- Several texts in one: Ca, Cb, Cc, Cd. -/
import Derived.Test.YtboglaokdgnpaaaA8
import Derived.Lib.Hide
import Derived.LoopTactic
import Derived.Deep.QuietTactic
import Derived.BigQuiet
import Derived.OwnWalk
import Derived.IntWalk
import Derived.Deep.LoopGhost
/- The reference's Has, In, Live, Covered, Wanted, bytes. -/
namespace Go.Proofs.Ytboglaokdgnpaaa
open Go Go.RowKit Gf Sha

theorem ret_bool {a b : Bool} (h : a = b) : Ending.returned (.bool a) = .returned (.bool b) := by rw [h]
theorem LS.len_le {α : Type} {R : Rdg α} {s b n c : Nat} {w : World} {A : Option Addr} {L : List α} (h : LS R s b w A n c L) : n * b ≤ 140737488355328 := by have := h.2.2.1; unfold lim at this; exact this
theorem LS.str_at {w w' : World} {A : Option Addr} {n c : Nat} {m : List (List UInt8)} (h : LS rStr 1 16 w A n c m) (hb : Below w.heap.size w w') {k : Nat} (hk : k < n) :
  ∃ x g o, m[k]? = some x ∧ A = some ⟨g, o, none⟩ ∧ w'.cell? ⟨g, o + k, none⟩ = some (.string (strB x)) := by
 obtain ⟨x, g, o, cs, hx, e, hat, rfl, _⟩ := h.at_ stay_str hb hk
 refine ⟨x, g, o, hx, e, ?_⟩
 rw [Nat.mul_one] at hat
 exact hat 0 _ rfl

section
variable {P : Program} (w : World) {ops : Array Oper} {rest : List Oper} {o : Oper} {a : Act} {Q : Exit → Act → World → Prop}
theorem wpList_want (hw : Region.wanted o (yielded ops a.tmps) = true)
  (h : ∀ K : Act → World → Prop, (∀ a w, wpList P ops Q rest a w → K a w) → o.wp P a w K Q) : wpList P ops Q (o :: rest) a w :=
 wpList_step fun K hK => by rw [if_pos hw]; exact h K hK
/-- A guarded load of many cells whose guard holds. -/
theorem wpList_loadvg (hw : Region.wanted o (yielded ops a.tmps) = true) (t : TypeId) (x : Operand) (hop : o.op = .load t x) (n : Nat) (ht : Agg P t n = true) (g p : Nat) (ms : List Value) (hx : a.eval x = .pointer (some ⟨g, p, none⟩))
  (hm : At w g p ms) (hn : ms.length = n) (h : wpList P ops Q rest (a.put o.dst (.agg ms.toArray)) w) : wpList P ops Q (o :: rest) a w :=
 wpList_want w hw fun K hK => by
  unfold Oper.wp execOp
  simp only [hop, hx]
  simp [run_loadAt w ht hm hn, Result.andThen]
  exact hK _ _ h
end

set_option maxHeartbeats 400000 in
theorem has_any (A : Option Addr) (n c : Nat) (m : List (List UInt8)) (s : List UInt8) (w : World) (h : LS rStr 1 16 w A n c m) :
  Calls Try.prog 43 #[.slice A n c, .string (strB s)] w fun e w' => e = .returned (.bool (hasB m s)) ∧ w' = w := by
 have hn := h.len_le
 have H := Lib.hid h
 have HL := Lib.hid h.1
 clear h
 go_enter Try.func43, Try.ntmps43
 go_wp2_with fail
 go_loopw [9] (fun iv wr => wr = w ∧ ∃ k : Nat, k ≤ n ∧ iv = .int .i64 (k : Int) ∧ Hid (hasB (m.take k) s = false)) (fun iv _ => n - (intOf iv).toNat)
 case atStart => exact ⟨rfl, 0, by omega, rfl, Lib.hid rfl⟩
 case round =>
  obtain ⟨rfl, k, hk, rfl, hall⟩ := hrel
  by_cases hlt : k < n
  ·
   obtain ⟨x, g, o, hx, rfl, q1⟩ := H.out.str_at (Below.refl _ _) hlt
   have HX := Lib.hid hx
   by_cases hs : x = s
   ·
    have es : ((strB x).toList == (strB s).toList) = true := by rw [strB_eq]; exact decide_eq_true hs
    have HR : Hid (hasB m s = true) := Lib.hid (any_hit HX.out (by simpa using hs))
    clear hs hx
    go_wp2_with fail
    go_ret
    exact ⟨ret_bool HR.out.symm, rfl⟩
   ·
    have es : ((strB x).toList == (strB s).toList) = false := by rw [strB_eq]; exact decide_eq_false hs
    have HR : Hid (hasB (m.take (k + 1)) s = false) := Lib.hid (any_step HX.out hall.out (by simpa using hs))
    clear hs hx
    go_wp2_with fail
    go_roundw
    case rel => exact ⟨trivial, k + 1, by omega, by go_num, HR⟩
    case measure => simp [intOf]; omega
  ·
   obtain rfl : k = n := by omega
   go_wp2_with fail
   go_ret
   exact ⟨ret_bool (by have := hall.out; rw [take_end HL.out] at this; exact this.symm), rfl⟩
set_option maxHeartbeats 400000 in
theorem lhas_any (A : Option Addr) (n c : Nat) (m : List (List UInt8)) (s : List UInt8) (w : World) (h : LS rStr 1 16 w A n c m) :
  Calls Try.prog 26 #[.slice A n c, .string (strB s)] w fun e w' => e = .returned (.bool (hasB m s)) ∧ w' = w := by
 have hn := h.len_le
 have H := Lib.hid h
 have HL := Lib.hid h.1
 clear h
 go_enter Try.func26, Try.ntmps26
 go_wp2_with fail
 go_loopw [9] (fun iv wr => wr = w ∧ ∃ k : Nat, k ≤ n ∧ iv = .int .i64 (k : Int) ∧ Hid (hasB (m.take k) s = false)) (fun iv _ => n - (intOf iv).toNat)
 case atStart => exact ⟨rfl, 0, by omega, rfl, Lib.hid rfl⟩
 case round =>
  obtain ⟨rfl, k, hk, rfl, hall⟩ := hrel
  by_cases hlt : k < n
  ·
   obtain ⟨x, g, o, hx, rfl, q1⟩ := H.out.str_at (Below.refl _ _) hlt
   have HX := Lib.hid hx
   by_cases hs : x = s
   ·
    have es : ((strB x).toList == (strB s).toList) = true := by rw [strB_eq]; exact decide_eq_true hs
    have HR : Hid (hasB m s = true) := Lib.hid (any_hit HX.out (by simpa using hs))
    clear hs hx
    go_wp2_with fail
    go_ret
    exact ⟨ret_bool HR.out.symm, rfl⟩
   ·
    have es : ((strB x).toList == (strB s).toList) = false := by rw [strB_eq]; exact decide_eq_false hs
    have HR : Hid (hasB (m.take (k + 1)) s = false) := Lib.hid (any_step HX.out hall.out (by simpa using hs))
    clear hs hx
    go_wp2_with fail
    go_roundw
    case rel => exact ⟨trivial, k + 1, by omega, by go_num, HR⟩
    case measure => simp [intOf]; omega
  ·
   obtain rfl : k = n := by omega
   go_wp2_with fail
   go_ret
   exact ⟨ret_bool (by have := hall.out; rw [take_end HL.out] at this; exact this.symm), rfl⟩
end Go.Proofs.Ytboglaokdgnpaaa
/- The reference's In, Live, Covered, Wanted, bytes. -/
namespace Go.Proofs.Ytboglaokdgnpaaa
open Go Go.RowKit Gf Sha

set_option maxHeartbeats 1000000 in
theorem in_any (cs : List Value) (s : Sp) (n : List UInt8) (w : World) (h : rSp w cs s) :
  Calls Try.prog 46 #[.agg cs.toArray, .string (strB n)] w fun e w' => e = .returned (.bool (inB s n)) ∧ Below w.heap.size w w' := by
 obtain ⟨A, m, c, rfl, hl, _⟩ := h
 have hn := hl.len_le
 have H := Lib.hid hl
 have HL := Lib.hid hl.1
 clear hl
 go_enter Try.func46, Try.ntmps46
 go_wp2_with ((with_reducible show OpW 2); refine wpList_box _ rfl 61 (.tmp 0) rfl (spC s A m c) rfl ?_; intro w1 a1 a2 a3; have HB1 := Lib.hid a2; have q5 := a1.get (j := 5) rfl; clear a1 a2 a3)
 clear q5
 go_loopw [10] (fun iv wr => ∃ k : Nat, k ≤ m ∧ iv = .int .i64 (k : Int) ∧ Hid ((s.refs.take k).any (fun r => r.1 == n) = false) ∧ Hid (Below w.heap.size w wr)) (fun iv _ => m - (intOf iv).toNat)
 case atStart => exact ⟨0, by omega, rfl, Lib.hid rfl, HB1⟩
 case round =>
  obtain ⟨k, hk, rfl, hall, hb⟩ := hrel
  obtain ⟨wx, hwx⟩ : ∃ x, x = wr := ⟨_, rfl⟩
  rw [← hwx] at hb ⊢
  clear hwx
  by_cases hlt : k < m
  ·
   obtain ⟨r, g, o, cs, hx, rfl, hat, rfl, _⟩ := H.out.at_ stay_rf (Below.refl _ _) hlt
   have HX := Lib.hid hx
   have HA := Lib.hid (hat.kept hb.out)
   by_cases hs : r.1 = n
   ·
    have es : ((strB r.1).toList == (strB n).toList) = true := by rw [strB_eq]; exact decide_eq_true hs
    have HR : Hid (inB s n = true) := Lib.hid (any_hit HX.out (by simpa using hs))
    clear hs hx hat
    go_wp2_with (first
     | ((with_reducible show OpW 13); refine wpList_loadv _ rfl 73 (.tmp 12) rfl 3 (by kernel_rfl) g (o + k * 3) (rfL r) (by go_simp) HA.out rfl ?_)
     | ((with_reducible show OpW 6); refine wpList_alloc _ rfl 73 rfl rfZ rfZero ?_; intro w3 a1 a2 a3; have HV3 := Lib.hid a1; have HX3 := Lib.hid a2; clear a1 a2 a3)
     | ((with_reducible show OpN); refine wpList_storev _ rfl 73 (.tmp 6) (.tmp 13) rfl 3 (by kernel_rfl) wx.heap.size 0 _ rfZ (rfL r) rfl rfl HV3.out rfl (one_rf r) (by decide) ?_; intro w4 a1 a2 a3; have HV4 : Hid (BL w4 wx.heap.size 73 (rfL r)) := Lib.hid a1; have HX4 : Hid (Below wx.heap.size wx w4) := Lib.hid (((Kp.of_below (S := fun _ => False) HX3.out).after a2 (fun i hi e => by omega)).below (Nat.le_refl _) (fun _ h => h.elim)); clear a1 a2 a3; have r0 := HV4.out.get (j := 0) rfl)
     | fail)
    go_ret
    exact ⟨ret_bool HR.out.symm, below_thenB hb.out hb.out.size HX4.out⟩
   ·
    have es : ((strB r.1).toList == (strB n).toList) = false := by rw [strB_eq]; exact decide_eq_false hs
    have HR : Hid ((s.refs.take (k + 1)).any (fun r => r.1 == n) = false) := Lib.hid (any_step HX.out hall.out (by simpa using hs))
    clear hs hx hat
    go_wp2_with (first
     | ((with_reducible show OpW 13); refine wpList_loadv _ rfl 73 (.tmp 12) rfl 3 (by kernel_rfl) g (o + k * 3) (rfL r) (by go_simp) HA.out rfl ?_)
     | ((with_reducible show OpW 6); refine wpList_alloc _ rfl 73 rfl rfZ rfZero ?_; intro w3 a1 a2 a3; have HV3 := Lib.hid a1; have HX3 := Lib.hid a2; clear a1 a2 a3)
     | ((with_reducible show OpN); refine wpList_storev _ rfl 73 (.tmp 6) (.tmp 13) rfl 3 (by kernel_rfl) wx.heap.size 0 _ rfZ (rfL r) rfl rfl HV3.out rfl (one_rf r) (by decide) ?_; intro w4 a1 a2 a3; have HV4 : Hid (BL w4 wx.heap.size 73 (rfL r)) := Lib.hid a1; have HX4 : Hid (Below wx.heap.size wx w4) := Lib.hid (((Kp.of_below (S := fun _ => False) HX3.out).after a2 (fun i hi e => by omega)).below (Nat.le_refl _) (fun _ h => h.elim)); clear a1 a2 a3; have r0 := HV4.out.get (j := 0) rfl)
     | fail)
    go_roundw
    case rel => exact ⟨k + 1, by omega, by go_num, HR, Lib.hid (below_thenB hb.out hb.out.size HX4.out)⟩
    case measure => simp [intOf]; omega
  ·
   obtain rfl : k = m := by omega
   go_wp2_with fail
   go_ret
   exact ⟨ret_bool (by have := hall.out; rw [take_end HL.out] at this; exact this.symm), hb.out⟩
end Go.Proofs.Ytboglaokdgnpaaa
/- The reference's Live, Covered, Wanted, bytes. -/
namespace Go.Proofs.Ytboglaokdgnpaaa
open Go Go.RowKit Gf Sha

set_option maxRecDepth 100000 in
set_option maxHeartbeats 1000000 in
theorem live_any (cx cs : List Value) (x : Si) (s : Sp) (w : World) (hx : rSi w cx x) (h : rSp w cs s) :
  Calls Try.prog 45 #[.agg cx.toArray, .agg cs.toArray] w fun e w' => e = .returned (.bool (liveB x s.id)) ∧ Below w.heap.size w w' := by
 obtain ⟨a0, n0, c0, a1, n1, c1, a2, n2, c2, a3, n3, c3, a4, n4, c4, a5, n5, c5, rfl, hq⟩ := hx
 obtain ⟨A, m, c, rfl, _⟩ := h
 have H := Lib.hid hq
 clear hq
 cases h1 : hasB x.cond s.id with
 | true =>
  have HR : Hid (liveB x s.id = false) := Lib.hid (by rw [liveB, h1]; rfl)
  go_enter Try.func45, Try.ntmps45
  go_wp2_with (first
   | ((with_reducible show OpW 2); refine wpList_box _ rfl 26 (.tmp 0) rfl (siC a0 n0 c0 a1 n1 c1 a2 n2 c2 a3 n3 c3 a4 n4 c4 a5 n5 c5 x.pct) rfl ?_; intro w1 a1 a2 a3; have HB1 := Lib.hid a2; have HS1 := Lib.hid a1; clear a1 a2 a3)
   | ((with_reducible show OpW 3); refine wpList_box _ rfl 61 (.tmp 1) rfl (spC s A m c) rfl ?_; intro w2 a1 a2 a3; have HB2 := Lib.hid (below_then HB1.out a2); have q2 := (HS1.out.kept a2).get (j := 2) rfl; have q3 := (HS1.out.kept a2).get (j := 3) rfl; have r0 := a1.get (j := 0) rfl; clear a1 a2 a3)
   | (go_at_call 43; (with_reducible show Calls _ _ #[.slice a2 n2 c2, _] _ _); refine (has_any a2 n2 c2 x.cond s.id _ (H.out.cond.kept stay_str HB2.out)).mono ?_; rintro e w3 ⟨rfl, hw⟩; rw [hw]; clear hw w3; rw [h1])
   | (go_at_call 43; (with_reducible show Calls _ _ #[.slice a3 n3 c3, _] _ _); refine (has_any a3 n3 c3 x.drop s.id _ (H.out.drop.kept stay_str HB2.out)).mono ?_; rintro e w3 ⟨rfl, hw⟩; rw [hw]; clear hw w3))
  go_ret
  exact ⟨ret_bool HR.out.symm, HB2.out⟩
 | false =>
  have HR : Hid (liveB x s.id = !hasB x.drop s.id) := Lib.hid (by rw [liveB, h1]; rfl)
  go_enter Try.func45, Try.ntmps45
  go_wp2_with (first
   | ((with_reducible show OpW 2); refine wpList_box _ rfl 26 (.tmp 0) rfl (siC a0 n0 c0 a1 n1 c1 a2 n2 c2 a3 n3 c3 a4 n4 c4 a5 n5 c5 x.pct) rfl ?_; intro w1 a1 a2 a3; have HB1 := Lib.hid a2; have HS1 := Lib.hid a1; clear a1 a2 a3)
   | ((with_reducible show OpW 3); refine wpList_box _ rfl 61 (.tmp 1) rfl (spC s A m c) rfl ?_; intro w2 a1 a2 a3; have HB2 := Lib.hid (below_then HB1.out a2); have q2 := (HS1.out.kept a2).get (j := 2) rfl; have q3 := (HS1.out.kept a2).get (j := 3) rfl; have r0 := a1.get (j := 0) rfl; clear a1 a2 a3)
   | (go_at_call 43; (with_reducible show Calls _ _ #[.slice a2 n2 c2, _] _ _); refine (has_any a2 n2 c2 x.cond s.id _ (H.out.cond.kept stay_str HB2.out)).mono ?_; rintro e w3 ⟨rfl, hw⟩; rw [hw]; clear hw w3; rw [h1])
   | (go_at_call 43; (with_reducible show Calls _ _ #[.slice a3 n3 c3, _] _ _); refine (has_any a3 n3 c3 x.drop s.id _ (H.out.drop.kept stay_str HB2.out)).mono ?_; rintro e w3 ⟨rfl, hw⟩; rw [hw]; clear hw w3))
  go_ret
  exact ⟨ret_bool HR.out.symm, HB2.out⟩

set_option maxRecDepth 100000 in
set_option maxHeartbeats 2000000 in
theorem covered_any (cx : List Value) (x : Si) (n : List UInt8) (w : World) (hx : rSi w cx x) :
  Calls Try.prog 77 #[.agg cx.toArray, .string (strB n)] w fun e w' => e = .returned (.bool (coverB x n)) ∧ Below w.heap.size w w' := by
 obtain ⟨a0, n0, c0, a1, n1, c1, a2, n2, c2, a3, n3, c3, a4, n4, c4, a5, n5, c5, rfl, hq⟩ := hx
 have hn := hq.sp.len_le
 have H := Lib.hid hq
 have HL := Lib.hid hq.sp.1
 clear hq
 go_enter Try.func77, Try.ntmps77
 go_wp2_with ((with_reducible show OpW 2); refine wpList_box _ rfl 26 (.tmp 0) rfl (siC a0 n0 c0 a1 n1 c1 a2 n2 c2 a3 n3 c3 a4 n4 c4 a5 n5 c5 x.pct) rfl ?_; intro w1 a1 a2 a3; have HB1 := Lib.hid a2; have HS1 := Lib.hid a1; have q0 := a1.get (j := 0) rfl; clear a1 a2 a3)
 clear q0
 go_loopw [10] (fun iv wr => ∃ k : Nat, k ≤ n0 ∧ iv = .int .i64 (k : Int) ∧ Hid ((x.sp.take k).any (fun s => liveB x s.id && inB s n) = false) ∧ Hid (Below w1.heap.size w1 wr)) (fun iv _ => n0 - (intOf iv).toNat)
 case atStart => exact ⟨0, by omega, rfl, Lib.hid rfl, Lib.hid (Below.refl _ _)⟩
 case round =>
  obtain ⟨k, hk, rfl, hall, hb⟩ := hrel
  obtain ⟨wx, hwx⟩ : ∃ x, x = wr := ⟨_, rfl⟩
  rw [← hwx] at hb ⊢
  clear hwx
  have HBx := Lib.hid (below_then HB1.out hb.out)
  by_cases hlt : k < n0
  ·
   obtain ⟨s, g, o, cs, hs, rfl, hat, hsp⟩ := H.out.sp.at_ stay_sp HBx.out hlt
   have HSP := Lib.hid hsp
   obtain ⟨A, m, c, rfl, _⟩ := hsp
   have HX := Lib.hid hs
   have HA := Lib.hid hat
   have HSx := Lib.hid (HS1.out.kept hb.out)
   have Hx := Lib.hid (H.out.kept HBx.out)
   clear hs hat
   cases h1 : liveB x s.id with
   | false =>
    have HR : Hid ((x.sp.take (k + 1)).any (fun s => liveB x s.id && inB s n) = false) := Lib.hid (any_step HX.out hall.out (by simp [h1]))
    go_wp2_with (first
     | ((with_reducible show OpW 13); refine wpList_loadv _ rfl 61 (.tmp 12) rfl 6 (by kernel_rfl) g (o + k * 6) (spC s A m c) (by go_simp) HA.out rfl ?_)
     | ((with_reducible show OpW 6); refine wpList_alloc _ rfl 61 rfl spZ spZero ?_; intro w3 a1 a2 a3; have HV3 := Lib.hid a1; have HX3 := Lib.hid a2; clear a1 a2 a3)
     | ((with_reducible show OpN); refine wpList_storev _ rfl 61 (.tmp 6) (.tmp 13) rfl 6 (by kernel_rfl) wx.heap.size 0 _ spZ (spC s A m c) rfl rfl HV3.out rfl (one_sp s A m c) (by decide) ?_; intro w4 a1 a2 a3; have HV4 : Hid (BL w4 wx.heap.size 61 (spC s A m c)) := Lib.hid a1; have HX4 : Hid (Below wx.heap.size wx w4) := Lib.hid (((Kp.of_below (S := fun _ => False) HX3.out).after a2 (fun i hi e => by omega)).below (Nat.le_refl _) (fun _ h => h.elim)); clear a1 a2 a3)
     | ((with_reducible show OpW 14); refine wpList_loadv _ rfl 26 (.tmp 2) rfl 7 (by kernel_rfl) w.heap.size 0 _ rfl (BL.all (HSx.out.kept HX4.out)) rfl ?_)
     | ((with_reducible show OpW 15); refine wpList_loadv _ rfl 61 (.tmp 6) rfl 6 (by kernel_rfl) wx.heap.size 0 (spC s A m c) rfl (BL.all HV4.out) rfl ?_)
     | (go_at_call 45; refine (live_any _ _ x s _ (show rSi w4 _ _ from ⟨_, _, _, _, _, _, _, _, _, _, _, _, _, _, _, _, _, _, rfl, Hx.out.kept HX4.out⟩) (stay_sp _ _ _ _ HSP.out HX4.out)).mono ?_; rintro e w5 ⟨rfl, b5⟩; rw [h1]; have HX5 := Lib.hid (below_then HX4.out b5); have HV5 := Lib.hid (HV4.out.kept b5); clear b5))
    go_roundw
    case rel => exact ⟨k + 1, by omega, by go_num, HR, Lib.hid (below_thenB hb.out hb.out.size HX5.out)⟩
    case measure => simp [intOf]; omega
   | true =>
    cases h2 : inB s n with
    | true =>
     have HR : Hid (coverB x n = true) := Lib.hid (any_hit HX.out (by simp [h1, h2]))
     go_wp2_with (first
      | ((with_reducible show OpW 13); refine wpList_loadv _ rfl 61 (.tmp 12) rfl 6 (by kernel_rfl) g (o + k * 6) (spC s A m c) (by go_simp) HA.out rfl ?_)
      | ((with_reducible show OpW 6); refine wpList_alloc _ rfl 61 rfl spZ spZero ?_; intro w3 a1 a2 a3; have HV3 := Lib.hid a1; have HX3 := Lib.hid a2; clear a1 a2 a3)
      | ((with_reducible show OpN); refine wpList_storev _ rfl 61 (.tmp 6) (.tmp 13) rfl 6 (by kernel_rfl) wx.heap.size 0 _ spZ (spC s A m c) rfl rfl HV3.out rfl (one_sp s A m c) (by decide) ?_; intro w4 a1 a2 a3; have HV4 : Hid (BL w4 wx.heap.size 61 (spC s A m c)) := Lib.hid a1; have HX4 : Hid (Below wx.heap.size wx w4) := Lib.hid (((Kp.of_below (S := fun _ => False) HX3.out).after a2 (fun i hi e => by omega)).below (Nat.le_refl _) (fun _ h => h.elim)); clear a1 a2 a3)
      | ((with_reducible show OpW 14); refine wpList_loadv _ rfl 26 (.tmp 2) rfl 7 (by kernel_rfl) w.heap.size 0 _ rfl (BL.all (HSx.out.kept HX4.out)) rfl ?_)
      | ((with_reducible show OpW 15); refine wpList_loadv _ rfl 61 (.tmp 6) rfl 6 (by kernel_rfl) wx.heap.size 0 (spC s A m c) rfl (BL.all HV4.out) rfl ?_)
      | (go_at_call 45; refine (live_any _ _ x s _ (show rSi w4 _ _ from ⟨_, _, _, _, _, _, _, _, _, _, _, _, _, _, _, _, _, _, rfl, Hx.out.kept HX4.out⟩) (stay_sp _ _ _ _ HSP.out HX4.out)).mono ?_; rintro e w5 ⟨rfl, b5⟩; rw [h1]; have HX5 := Lib.hid (below_then HX4.out b5); have HV5 := Lib.hid (HV4.out.kept b5); clear b5) | ((with_reducible show OpW 18); refine wpList_loadvg _ rfl 61 (.tmp 6) rfl 6 (by kernel_rfl) wx.heap.size 0 (spC s A m c) rfl (BL.all HV5.out) rfl ?_) | (go_at_call 46; refine (in_any _ s n _ (stay_sp _ _ _ _ HSP.out HX5.out)).mono ?_; rintro e w6 ⟨rfl, b6⟩; rw [h2]; have HX6 := Lib.hid (below_then HX5.out b6); clear b6))
     go_ret
     exact ⟨ret_bool HR.out.symm, below_thenB HBx.out HBx.out.size HX6.out⟩
    | false =>
     have HR : Hid ((x.sp.take (k + 1)).any (fun s => liveB x s.id && inB s n) = false) := Lib.hid (any_step HX.out hall.out (by simp [h2]))
     go_wp2_with (first
      | ((with_reducible show OpW 13); refine wpList_loadv _ rfl 61 (.tmp 12) rfl 6 (by kernel_rfl) g (o + k * 6) (spC s A m c) (by go_simp) HA.out rfl ?_)
      | ((with_reducible show OpW 6); refine wpList_alloc _ rfl 61 rfl spZ spZero ?_; intro w3 a1 a2 a3; have HV3 := Lib.hid a1; have HX3 := Lib.hid a2; clear a1 a2 a3)
      | ((with_reducible show OpN); refine wpList_storev _ rfl 61 (.tmp 6) (.tmp 13) rfl 6 (by kernel_rfl) wx.heap.size 0 _ spZ (spC s A m c) rfl rfl HV3.out rfl (one_sp s A m c) (by decide) ?_; intro w4 a1 a2 a3; have HV4 : Hid (BL w4 wx.heap.size 61 (spC s A m c)) := Lib.hid a1; have HX4 : Hid (Below wx.heap.size wx w4) := Lib.hid (((Kp.of_below (S := fun _ => False) HX3.out).after a2 (fun i hi e => by omega)).below (Nat.le_refl _) (fun _ h => h.elim)); clear a1 a2 a3)
      | ((with_reducible show OpW 14); refine wpList_loadv _ rfl 26 (.tmp 2) rfl 7 (by kernel_rfl) w.heap.size 0 _ rfl (BL.all (HSx.out.kept HX4.out)) rfl ?_)
      | ((with_reducible show OpW 15); refine wpList_loadv _ rfl 61 (.tmp 6) rfl 6 (by kernel_rfl) wx.heap.size 0 (spC s A m c) rfl (BL.all HV4.out) rfl ?_)
      | (go_at_call 45; refine (live_any _ _ x s _ (show rSi w4 _ _ from ⟨_, _, _, _, _, _, _, _, _, _, _, _, _, _, _, _, _, _, rfl, Hx.out.kept HX4.out⟩) (stay_sp _ _ _ _ HSP.out HX4.out)).mono ?_; rintro e w5 ⟨rfl, b5⟩; rw [h1]; have HX5 := Lib.hid (below_then HX4.out b5); have HV5 := Lib.hid (HV4.out.kept b5); clear b5) | ((with_reducible show OpW 18); refine wpList_loadvg _ rfl 61 (.tmp 6) rfl 6 (by kernel_rfl) wx.heap.size 0 (spC s A m c) rfl (BL.all HV5.out) rfl ?_) | (go_at_call 46; refine (in_any _ s n _ (stay_sp _ _ _ _ HSP.out HX5.out)).mono ?_; rintro e w6 ⟨rfl, b6⟩; rw [h2]; have HX6 := Lib.hid (below_then HX5.out b6); clear b6))
     go_roundw
     case rel => exact ⟨k + 1, by omega, by go_num, HR, Lib.hid (below_thenB hb.out hb.out.size HX6.out)⟩
     case measure => simp [intOf]; omega
  ·
   obtain rfl : k = n0 := by omega
   go_wp2_with fail
   go_ret
   exact ⟨ret_bool (by have := hall.out; rw [take_end HL.out] at this; exact this.symm), HBx.out⟩
end Go.Proofs.Ytboglaokdgnpaaa
/- The reference's Wanted, bytes, IsUnneeded, IsSparse, Uncovered. -/
namespace Go.Proofs.Ytboglaokdgnpaaa
open Go Go.RowKit Gf Sha

/-- A list of refs of the call's own. -/
def RfR (l : List Rf) (w : World) (e : Ending) (w' : World) : Prop := ∃ A c, e = .returned (.slice A l.length c) ∧ LS rRf 3 32 w' A l.length c l ∧ Below w.heap.size w w'

set_option maxRecDepth 100000 in
set_option maxHeartbeats 2000000 in
theorem wanted_any (cx cs : List Value) (x : Si) (s : Sp) (w : World) (hx : rSi w cx x) (h : rSp w cs s) :
  Calls Try.prog 44 #[.agg cx.toArray, .agg cs.toArray] w (RfR (wanted x s) w) := by
 obtain ⟨a0, n0, c0, a1, n1, c1, a2, n2, c2, a3, n3, c3, a4, n4, c4, a5, n5, c5, rfl, hq⟩ := hx
 obtain ⟨A, m, c, rfl, hl, _⟩ := h
 have hn := hl.len_le
 have H := Lib.hid hq
 have HR := Lib.hid hl
 have HL := Lib.hid hl.1
 have HLL := Lib.hid hl.2.2.1
 clear hq hl
 go_enter Try.func44, Try.ntmps44
 go_wp2_with (first
  | ((with_reducible show OpW 2); refine wpList_box _ rfl 26 (.tmp 0) rfl (siC a0 n0 c0 a1 n1 c1 a2 n2 c2 a3 n3 c3 a4 n4 c4 a5 n5 c5 x.pct) rfl ?_; intro w1 a1 a2 a3; have HB1 := Lib.hid a2; have HS1 := Lib.hid a1; clear a1 a2 a3)
  | ((with_reducible show OpW 3); refine wpList_box _ rfl 61 (.tmp 1) rfl (spC s A m c) rfl ?_; intro w2 a1 a2 a3; have HB2 := Lib.hid (below_then HB1.out a2); have HS2 := Lib.hid (HS1.out.kept a2); have r5 := a1.get (j := 5) rfl; clear a1 a2 a3))
 clear r5
 go_loopw [5, 11] (fun v iv wr => ∃ k : Nat, k ≤ m ∧ iv = .int .i64 (k : Int) ∧ Hid (OL rRf 3 73 w2 wr v ((s.refs.take k).filter fun r => hasB x.need r.1)) ∧ Hid (Below w2.heap.size w2 wr)) (fun _ iv _ => m - (intOf iv).toNat)
 case atStart => exact ⟨0, by omega, rfl, Lib.hid (OL.nil _ _ _ _ _), Lib.hid (Below.refl _ _)⟩
 case round =>
  obtain ⟨k, hk, rfl, ho, hb⟩ := hrel
  obtain ⟨wx, hwx⟩ : ∃ x, x = wr := ⟨_, rfl⟩
  rw [← hwx] at ho hb ⊢
  clear hwx
  have HBx := Lib.hid (below_thenB HB2.out HB2.out.size hb.out)
  by_cases hlt : k < m
  ·
   obtain ⟨r, g, o, cs, hs, rfl, hat, rfl, hok⟩ := HR.out.at_ stay_rf (Below.refl _ _) hlt
   have HX := Lib.hid hs
   have HA := Lib.hid (hat.kept HBx.out)
   have HOK : Hid (rRf w2 (rfL r) r) := Lib.hid ⟨rfl, hok⟩
   have HFL : Hid (((s.refs.take k).filter fun r => hasB x.need r.1).length ≤ k) := Lib.hid (Nat.le_trans (List.length_filter_le _ _) (by rw [List.length_take]; omega))
   clear hs hat hok
   cases h1 : hasB x.need r.1 with
   | false =>
    have HF : Hid (((s.refs.take (k + 1)).filter fun r => hasB x.need r.1) = (s.refs.take k).filter fun r => hasB x.need r.1) := Lib.hid (by rw [filt_step HX.out]; simp [h1])
    go_wp2_with (first
     | ((with_reducible show OpW 14); refine wpList_loadv _ rfl 73 (.tmp 13) rfl 3 (by kernel_rfl) g (o + k * 3) (rfL r) (by go_simp) HA.out rfl ?_)
     | ((with_reducible show OpW 7); refine wpList_alloc _ rfl 73 rfl rfZ rfZero ?_; intro w3 a1 a2 a3; have HV3 := Lib.hid a1; have HX3 := Lib.hid a2; clear a1 a2 a3)
     | ((with_reducible show OpN); refine wpList_storev _ rfl 73 (.tmp 7) (.tmp 14) rfl 3 (by kernel_rfl) wx.heap.size 0 _ rfZ (rfL r) rfl rfl HV3.out rfl (one_rf r) (by decide) ?_; intro w4 a1 a2 a3; have HV4 : Hid (BL w4 wx.heap.size 73 (rfL r)) := Lib.hid a1; have HX4 : Hid (Below wx.heap.size wx w4) := Lib.hid (((Kp.of_below (S := fun _ => False) HX3.out).after a2 (fun i hi e => by omega)).below (Nat.le_refl _) (fun _ h => h.elim)); clear a1 a2 a3; have r0 := HV4.out.get (j := 0) rfl; have q1 := (HS2.out.kept (below_thenB hb.out hb.out.size HX4.out)).get (j := 1) rfl)
     | (go_at_call 43; refine (has_any _ n1 c1 x.need r.1 _ (H.out.need.kept stay_str (below_thenB HBx.out HBx.out.size HX4.out))).mono ?_; rintro e w5 ⟨rfl, hw⟩; rw [hw]; clear hw w5; rw [h1]))
    go_roundw
    case rel => exact ⟨k + 1, by omega, by go_num, Lib.hid (by rw [HF.out]; exact ho.out.kept HX4.out), Lib.hid (below_thenB hb.out hb.out.size HX4.out)⟩
    case measure => simp [intOf]; omega
   | true =>
    have HF : Hid (((s.refs.take (k + 1)).filter fun r => hasB x.need r.1) = ((s.refs.take k).filter fun r => hasB x.need r.1) ++ [r]) := Lib.hid (by rw [filt_step HX.out]; simp [h1])
    obtain ⟨nf, hnf⟩ : ∃ nf, ((s.refs.take k).filter fun r => hasB x.need r.1).length = nf := ⟨_, rfl⟩
    obtain ⟨css, hc1, hc2, hc3, hc4, hc5⟩ := ho.out
    rw [hnf] at hc4
    have HNF : Hid (nf ≤ k) := Lib.hid (by rw [← hnf]; exact HFL.out)
    have HN := Lib.hid hnf
    have HC1 := Lib.hid hc1
    have HC2 := Lib.hid hc2
    have HC3 := Lib.hid hc3
    have HC4 := Lib.hid hc4
    have HC5 := Lib.hid hc5
    clear hnf hc1 hc2 hc3 hc4 hc5
    go_wp2_with (first
     | ((with_reducible show OpW 14); refine wpList_loadv _ rfl 73 (.tmp 13) rfl 3 (by kernel_rfl) g (o + k * 3) (rfL r) (by go_simp) HA.out rfl ?_)
     | ((with_reducible show OpW 7); refine wpList_alloc _ rfl 73 rfl rfZ rfZero ?_; intro w3 a1 a2 a3; have HV3 := Lib.hid a1; have HX3 := Lib.hid a2; clear a1 a2 a3)
     | ((with_reducible show OpN); refine wpList_storev _ rfl 73 (.tmp 7) (.tmp 14) rfl 3 (by kernel_rfl) wx.heap.size 0 _ rfZ (rfL r) rfl rfl HV3.out rfl (one_rf r) (by decide) ?_; intro w4 a1 a2 a3; have HV4 : Hid (BL w4 wx.heap.size 73 (rfL r)) := Lib.hid a1; have HX4 : Hid (Below wx.heap.size wx w4) := Lib.hid (((Kp.of_below (S := fun _ => False) HX3.out).after a2 (fun i hi e => by omega)).below (Nat.le_refl _) (fun _ h => h.elim)); clear a1 a2 a3; have r0 := HV4.out.get (j := 0) rfl; have q1 := (HS2.out.kept (below_thenB hb.out hb.out.size HX4.out)).get (j := 1) rfl)
     | (go_at_call 43; refine (has_any _ n1 c1 x.need r.1 _ (H.out.need.kept stay_str (below_thenB HBx.out HBx.out.size HX4.out))).mono ?_; rintro e w5 ⟨rfl, hw⟩; rw [hw]; clear hw w5; rw [h1])
     | ((with_reducible show OpW 21); refine wpList_loadv _ rfl 73 (.tmp 7) rfl 3 (by kernel_rfl) wx.heap.size 0 (rfL r) rfl (BL.all HV4.out) rfl ?_)
     | ((with_reducible show OpW 22); refine wpList_bslice _ rfl 40 73 1 _ rfl #[(0, .agg (rfL r).toArray)] (by rw [List.map_toArray]; rfl) (rfL r) (bslRf r _) ?_; intro w5 a1 a2 a3; have HG5 := Lib.hid a1; have HX5 := Lib.hid (below_then HX4.out a2); clear a1 a2 a3)
     | ((with_reducible show OpW 23); obtain ⟨iS, i1, i2, i3, i4⟩ := info_some infoRf; refine wpList_appRW _ rfl (.tmp 20) (.tmp 22) 40 73 3 iS _ rfl Try.underlying40 i1 i2 i3 rfl _ nf _ rfl (HC4.out.kept HX5.out) w4.heap.size _ rfl HG5.out rfl (one_rf r) (by rw [i4]; have := HNF.out; omega) (by have := HNF.out; omega) ?_; intro v' w6 a1; have HR6 := Lib.hid a1; clear a1 i1 i2 i3 i4))
    have HY5 : Hid (Below w2.heap.size w2 w5) := Lib.hid (below_thenB hb.out hb.out.size HX5.out)
    have HY6 : Hid (Below w2.heap.size w2 w6) := Lib.hid (((Kp.of_below (S := fun _ => False) HY5.out).after HR6.out.kp (fun i hi e => by have := HC5.out i e; omega)).below (Nat.le_refl _) (fun _ h => h.elim))
    have HO6 : Hid (OL rRf 3 73 w2 w6 v' ((s.refs.take (k + 1)).filter fun r => hasB x.need r.1)) := Lib.hid (by
     rw [HF.out]
     exact OL.push HC1.out HC2.out HC3.out HC5.out HN.out rfl HOK.out HY5.out.size HR6.out)
    go_roundw
    case rel => exact ⟨k + 1, by omega, by go_num, HO6, HY6⟩
    case measure => simp [intOf]; omega
  ·
   obtain rfl : k = m := by omega
   have HFL : Hid ((wanted x s).length * 32 ≤ lim) := Lib.hid (Nat.le_trans (Nat.mul_le_mul_right _ (Nat.le_trans (List.length_filter_le _ _) (by rw [HL.out]; exact Nat.le_refl _))) HLL.out)
   go_wp2_with fail
   go_ret
   have h9 := ho.out
   rw [take_end HL.out] at h9
   obtain ⟨A9, c9, e9, l9⟩ := OL.ls (b := 32) (L := wanted x s) h9 stay_rf hb.out HFL.out
   exact ⟨A9, c9, by rw [e9]; rfl, l9, HBx.out⟩
end Go.Proofs.Ytboglaokdgnpaaa
