/- Several texts in one: Sh, Si. -/
import Derived.Test.YtboglaokdgnpaaaA17
/- stripe.Check. -/
namespace Go.Proofs.Ytboglaokdgnpaaa
open Go Go.RowKit Gf Sha

def chkE (b : Bool) : Int := if b then 0 else 1
theorem ret_chk {b : Bool} {z : Int} (h : chkE b = z) : Ending.returned (.int .i64 z) = .returned (.int .i64 (chkE b)) := by rw [h]
set_option maxRecDepth 100000 in
set_option maxHeartbeats 4000000 in
theorem spCheck_any (cs : List Value) (s : Sp) (w : World) (h : rSp w cs s) :
  Calls Try.prog 69 #[.agg cs.toArray] w fun e w' => e = .returned (.int .i64 (chkE (spB s))) ∧ Below w.heap.size w w' := by
 obtain ⟨A, n, c, rfl, hl, _⟩ := h
 have hn := hl.len_le
 have H := Lib.hid hl
 have HL := Lib.hid hl.1
 clear hl
 by_cases h1 : s.id.length = 32
 rotate_left
 ·
  have e1 : (((strB s.id).size : Int) != 32) = true := by rw [strB_size, bne_iff_ne]; omega
  have HR : Hid (spB s = false) := Lib.hid (by rw [spB, decide_eq_false h1]; rfl)
  clear h1
  go_enter Try.func69, Try.ntmps69
  go_wp2_with (first
   | ((with_reducible show OpW 1); refine wpList_box _ rfl 61 (.tmp 0) rfl (spC s A n c) rfl ?_; intro w1 a1 a2 a3; have HB1 := Lib.hid a2; have HP1 := Lib.hid a1; have q0 := a1.get (j := 0) rfl; have q1 := a1.get (j := 1) rfl; have q3 := a1.get (j := 3) rfl; have q4 := a1.get (j := 4) rfl; have q5 := a1.get (j := 5) rfl; clear a1 a2 a3)
   | (go_at_call 94; refine (code_any _ _ _).mono ?_; rintro e w2 ⟨rfl, hw⟩; rw [hw]; clear hw w2; rw [e4]))
  go_ret
  exact ⟨ret_chk (by rw [HR.out]; rfl), HB1.out⟩
 have e1 : (((strB s.id).size : Int) != 32) = false := by rw [strB_size, h1]; rfl
 by_cases h2 : 0 ≤ s.v
 rotate_left
 ·
  have e2 : decide (s.v < 0) = true := decide_eq_true (by omega)
  have HR : Hid (spB s = false) := Lib.hid (by rw [spB, decide_eq_true h1, decide_eq_false h2]; rfl)
  clear h1 h2
  go_enter Try.func69, Try.ntmps69
  go_wp2_with (first
   | ((with_reducible show OpW 1); refine wpList_box _ rfl 61 (.tmp 0) rfl (spC s A n c) rfl ?_; intro w1 a1 a2 a3; have HB1 := Lib.hid a2; have HP1 := Lib.hid a1; have q0 := a1.get (j := 0) rfl; have q1 := a1.get (j := 1) rfl; have q3 := a1.get (j := 3) rfl; have q4 := a1.get (j := 4) rfl; have q5 := a1.get (j := 5) rfl; clear a1 a2 a3)
   | (go_at_call 94; refine (code_any _ _ _).mono ?_; rintro e w2 ⟨rfl, hw⟩; rw [hw]; clear hw w2; rw [e4]))
  go_ret
  exact ⟨ret_chk (by rw [HR.out]; rfl), HB1.out⟩
 have e2 : decide (s.v < 0) = false := decide_eq_false (by omega)
 by_cases h3 : s.v ≤ 11
 rotate_left
 ·
  have e3 : decide (11 < s.v) = true := decide_eq_true (by omega)
  have HR : Hid (spB s = false) := Lib.hid (by rw [spB, decide_eq_true h1, decide_eq_true h2, decide_eq_false h3]; rfl)
  clear h1 h2 h3
  go_enter Try.func69, Try.ntmps69
  go_wp2_with (first
   | ((with_reducible show OpW 1); refine wpList_box _ rfl 61 (.tmp 0) rfl (spC s A n c) rfl ?_; intro w1 a1 a2 a3; have HB1 := Lib.hid a2; have HP1 := Lib.hid a1; have q0 := a1.get (j := 0) rfl; have q1 := a1.get (j := 1) rfl; have q3 := a1.get (j := 3) rfl; have q4 := a1.get (j := 4) rfl; have q5 := a1.get (j := 5) rfl; clear a1 a2 a3)
   | (go_at_call 94; refine (code_any _ _ _).mono ?_; rintro e w2 ⟨rfl, hw⟩; rw [hw]; clear hw w2; rw [e4]))
  go_ret
  exact ⟨ret_chk (by rw [HR.out]; rfl), HB1.out⟩
 have e3 : decide (11 < s.v) = false := decide_eq_false (by omega)
 have HS : Hid (spB s = (cdB s.d s.t && (decide (1 ≤ s.refs.length) && (decide ((s.refs.length : Int) ≤ s.d) && (okB rfB rfN s.refs && s.refs.all fun r => decide (clsR r = s.b)))))) := Lib.hid (by rw [spB, decide_eq_true h1, decide_eq_true h2, decide_eq_true h3]; rfl)
 clear h1 h2 h3
 cases e4 : cdB s.d s.t with
 | false =>
  have HR : Hid (spB s = false) := Lib.hid (by rw [HS.out, e4]; rfl)
  go_enter Try.func69, Try.ntmps69
  go_wp2_with (first
   | ((with_reducible show OpW 1); refine wpList_box _ rfl 61 (.tmp 0) rfl (spC s A n c) rfl ?_; intro w1 a1 a2 a3; have HB1 := Lib.hid a2; have HP1 := Lib.hid a1; have q0 := a1.get (j := 0) rfl; have q1 := a1.get (j := 1) rfl; have q3 := a1.get (j := 3) rfl; have q4 := a1.get (j := 4) rfl; have q5 := a1.get (j := 5) rfl; clear a1 a2 a3)
   | (go_at_call 94; refine (code_any _ _ _).mono ?_; rintro e w2 ⟨rfl, hw⟩; rw [hw]; clear hw w2; rw [e4]))
  go_ret
  exact ⟨ret_chk (by rw [HR.out]; rfl), HB1.out⟩
 | true =>
  by_cases h5 : 1 ≤ n
  rotate_left
  ·
   have e5 : decide (n < 1) = true := decide_eq_true (by omega)
   have e5' : decide ((n : Int) < 1) = true := decide_eq_true (by omega)
   have HR : Hid (spB s = false) := Lib.hid (by rw [HS.out, e4, HL.out, decide_eq_false h5]; rfl)
   clear h5
   go_enter Try.func69, Try.ntmps69
   go_wp2_with (first
    | ((with_reducible show OpW 1); refine wpList_box _ rfl 61 (.tmp 0) rfl (spC s A n c) rfl ?_; intro w1 a1 a2 a3; have HB1 := Lib.hid a2; have HP1 := Lib.hid a1; have q0 := a1.get (j := 0) rfl; have q1 := a1.get (j := 1) rfl; have q3 := a1.get (j := 3) rfl; have q4 := a1.get (j := 4) rfl; have q5 := a1.get (j := 5) rfl; clear a1 a2 a3)
    | (go_at_call 94; refine (code_any _ _ _).mono ?_; rintro e w2 ⟨rfl, hw⟩; rw [hw]; clear hw w2; rw [e4]))
   go_ret
   exact ⟨ret_chk (by rw [HR.out]; rfl), HB1.out⟩
  have e5 : decide (n < 1) = false := decide_eq_false (by omega)
  have e5' : decide ((n : Int) < 1) = false := decide_eq_false (by omega)
  by_cases h6 : (n : Int) ≤ s.d
  rotate_left
  ·
   have e6 : decide (s.d < (n : Int)) = true := decide_eq_true (by omega)
   have HR : Hid (spB s = false) := Lib.hid (by rw [HS.out, e4, HL.out, decide_eq_true h5, decide_eq_false h6]; rfl)
   clear h5 h6
   go_enter Try.func69, Try.ntmps69
   go_wp2_with (first
    | ((with_reducible show OpW 1); refine wpList_box _ rfl 61 (.tmp 0) rfl (spC s A n c) rfl ?_; intro w1 a1 a2 a3; have HB1 := Lib.hid a2; have HP1 := Lib.hid a1; have q0 := a1.get (j := 0) rfl; have q1 := a1.get (j := 1) rfl; have q3 := a1.get (j := 3) rfl; have q4 := a1.get (j := 4) rfl; have q5 := a1.get (j := 5) rfl; clear a1 a2 a3)
    | (go_at_call 94; refine (code_any _ _ _).mono ?_; rintro e w2 ⟨rfl, hw⟩; rw [hw]; clear hw w2; rw [e4]))
   go_ret
   exact ⟨ret_chk (by rw [HR.out]; rfl), HB1.out⟩
  have e6 : decide (s.d < (n : Int)) = false := decide_eq_false (by omega)
  have HT : Hid (spB s = (okB rfB rfN s.refs && s.refs.all fun r => decide (clsR r = s.b))) := Lib.hid (by rw [HS.out, e4, HL.out, decide_eq_true h5, decide_eq_true h6]; rfl)
  clear h5 h6
  cases e7 : okB rfB rfN s.refs with
  | false =>
   have HR : Hid (spB s = false) := Lib.hid (by rw [HT.out, e7]; rfl)
   go_enter Try.func69, Try.ntmps69
   go_wp2_with (first
    | ((with_reducible show OpW 1); refine wpList_box _ rfl 61 (.tmp 0) rfl (spC s A n c) rfl ?_; intro w1 a1 a2 a3; have HB1 := Lib.hid a2; have HP1 := Lib.hid a1; have q0 := a1.get (j := 0) rfl; have q1 := a1.get (j := 1) rfl; have q3 := a1.get (j := 3) rfl; have q4 := a1.get (j := 4) rfl; have q5 := a1.get (j := 5) rfl; clear a1 a2 a3)
    | (go_at_call 94; refine (code_any _ _ _).mono ?_; rintro e w2 ⟨rfl, hw⟩; rw [hw]; clear hw w2; rw [e4]) | (go_at_call 95; refine (validRefs_any A n c s.refs _ (H.out.kept stay_rf HB1.out)).mono ?_; rintro e w3 ⟨rfl, b3⟩; rw [e7]; have HB3 := Lib.hid (below_then HB1.out b3); clear b3))
   go_ret
   exact ⟨ret_chk (by rw [HR.out]; rfl), HB3.out⟩
  | true =>
   go_enter Try.func69, Try.ntmps69
   go_wp2_with (first
    | ((with_reducible show OpW 1); refine wpList_box _ rfl 61 (.tmp 0) rfl (spC s A n c) rfl ?_; intro w1 a1 a2 a3; have HB1 := Lib.hid a2; have HP1 := Lib.hid a1; have q0 := a1.get (j := 0) rfl; have q1 := a1.get (j := 1) rfl; have q3 := a1.get (j := 3) rfl; have q4 := a1.get (j := 4) rfl; have q5 := a1.get (j := 5) rfl; clear a1 a2 a3)
    | (go_at_call 94; refine (code_any _ _ _).mono ?_; rintro e w2 ⟨rfl, hw⟩; rw [hw]; clear hw w2; rw [e4]) | (go_at_call 95; refine (validRefs_any A n c s.refs _ (H.out.kept stay_rf HB1.out)).mono ?_; rintro e w3 ⟨rfl, b3⟩; rw [e7]; have HB3 := Lib.hid (below_then HB1.out b3); have HP3 := Lib.hid (HP1.out.kept b3); have p5 := HP3.out.get (j := 5) rfl; clear b3))
   clear p5
   go_loopw [48] (fun iv wr => ∃ k : Nat, k ≤ n ∧ iv = .int .i64 (k : Int) ∧ Hid ((s.refs.take k).all (fun r => decide (clsR r = s.b)) = true) ∧ Hid (Below w3.heap.size w3 wr)) (fun iv _ => n - (intOf iv).toNat)
   case atStart => exact ⟨0, by omega, rfl, Lib.hid rfl, Lib.hid (Below.refl _ _)⟩
   case round =>
    obtain ⟨k, hk, rfl, hall, hb⟩ := hrel
    obtain ⟨wx, hwx⟩ : ∃ x, x = wr := ⟨_, rfl⟩
    rw [← hwx] at hb ⊢
    clear hwx
    have HBx := Lib.hid (below_thenB HB3.out HB3.out.size hb.out)
    by_cases hlt : k < n
    ·
     obtain ⟨r, g, o, cs, hs, rfl, hat, rfl, _⟩ := H.out.at_ stay_rf (Below.refl _ _) hlt
     have HX := Lib.hid hs
     have HA := Lib.hid (hat.kept HBx.out)
     have HRB := Lib.hid (okB_at e7 hs)
     clear hs hat
     by_cases h8 : clsR r = s.b
     ·
      have e8 : decide (clsR r = s.b) = true := decide_eq_true h8
      have HR : Hid ((s.refs.take (k + 1)).all (fun r => decide (clsR r = s.b)) = true) := Lib.hid (all_step HX.out hall.out (decide_eq_true h8))
      clear h8
      go_wp2_with (first
       | ((with_reducible show OpW 51); refine wpList_loadv _ rfl 73 (.tmp 50) rfl 3 (by kernel_rfl) g (o + k * 3) (rfL r) (by go_simp) HA.out rfl ?_)
       | ((with_reducible show OpW 4); refine wpList_alloc _ rfl 73 rfl rfZ rfZero ?_; intro w3 a1 a2 a3; have HV3 := Lib.hid a1; have HX3 := Lib.hid a2; clear a1 a2 a3)
       | ((with_reducible show OpN); refine wpList_storev _ rfl 73 (.tmp 4) (.tmp 51) rfl 3 (by kernel_rfl) wx.heap.size 0 _ rfZ (rfL r) rfl rfl HV3.out rfl (one_rf r) (by decide) ?_; intro w4 a1 a2 a3; have HV4 : Hid (BL w4 wx.heap.size 73 (rfL r)) := Lib.hid a1; have HX4 : Hid (Below wx.heap.size wx w4) := Lib.hid (((Kp.of_below (S := fun _ => False) HX3.out).after a2 (fun i hi e => by omega)).below (Nat.le_refl _) (fun _ h => h.elim)); clear a1 a2 a3; have r2 := (HP3.out.kept (below_thenB hb.out hb.out.size HX4.out)).get (j := 2) rfl)
       | ((with_reducible show OpW 52); refine wpList_loadv _ rfl 73 (.tmp 4) rfl 3 (by kernel_rfl) wx.heap.size 0 (rfL r) rfl (BL.all HV4.out) rfl ?_)
       | (go_at_call 96; refine (hasClass_any r s.b _ HRB.out).mono ?_; rintro e w5 ⟨rfl, b5⟩; rw [e8]; have HX5 := Lib.hid (below_thenB HX4.out HX4.out.size b5); clear b5))
      go_roundw
      case rel => exact ⟨k + 1, by omega, by go_num, HR, Lib.hid (below_thenB hb.out hb.out.size HX5.out)⟩
      case measure => simp [intOf]; omega
     ·
      have e8 : decide (clsR r = s.b) = false := decide_eq_false h8
      have HR : Hid (spB s = false) := Lib.hid (by rw [HT.out, e7, all_miss HX.out (decide_eq_false h8)]; rfl)
      clear h8
      go_wp2_with (first
       | ((with_reducible show OpW 51); refine wpList_loadv _ rfl 73 (.tmp 50) rfl 3 (by kernel_rfl) g (o + k * 3) (rfL r) (by go_simp) HA.out rfl ?_)
       | ((with_reducible show OpW 4); refine wpList_alloc _ rfl 73 rfl rfZ rfZero ?_; intro w3 a1 a2 a3; have HV3 := Lib.hid a1; have HX3 := Lib.hid a2; clear a1 a2 a3)
       | ((with_reducible show OpN); refine wpList_storev _ rfl 73 (.tmp 4) (.tmp 51) rfl 3 (by kernel_rfl) wx.heap.size 0 _ rfZ (rfL r) rfl rfl HV3.out rfl (one_rf r) (by decide) ?_; intro w4 a1 a2 a3; have HV4 : Hid (BL w4 wx.heap.size 73 (rfL r)) := Lib.hid a1; have HX4 : Hid (Below wx.heap.size wx w4) := Lib.hid (((Kp.of_below (S := fun _ => False) HX3.out).after a2 (fun i hi e => by omega)).below (Nat.le_refl _) (fun _ h => h.elim)); clear a1 a2 a3; have r2 := (HP3.out.kept (below_thenB hb.out hb.out.size HX4.out)).get (j := 2) rfl)
       | ((with_reducible show OpW 52); refine wpList_loadv _ rfl 73 (.tmp 4) rfl 3 (by kernel_rfl) wx.heap.size 0 (rfL r) rfl (BL.all HV4.out) rfl ?_)
       | (go_at_call 96; refine (hasClass_any r s.b _ HRB.out).mono ?_; rintro e w5 ⟨rfl, b5⟩; rw [e8]; have HX5 := Lib.hid (below_thenB HX4.out HX4.out.size b5); clear b5))
      go_ret
      exact ⟨ret_chk (by rw [HR.out]; rfl), below_thenB HBx.out HBx.out.size HX5.out⟩
    ·
     obtain rfl : k = n := by omega
     have HR : Hid (spB s = true) := Lib.hid (by have := hall.out; rw [take_end HL.out] at this; rw [HT.out, e7, this]; rfl)
     go_wp2_with fail
     go_ret
     exact ⟨ret_chk (by rw [HR.out]; rfl), HBx.out⟩
end Go.Proofs.Ytboglaokdgnpaaa
/- collector.Check. -/
namespace Go.Proofs.Ytboglaokdgnpaaa
open Go Go.RowKit Gf Sha

theorem any_take_hit {α β : Type} [BEq β] [LawfulBEq β] {f : α → β} {l : List α} {k : Nat} {b : β} (h : ((l.take k).any fun y => f y == b) = true) : ∃ j y, j < k ∧ l[j]? = some y ∧ f y = b := by
 obtain ⟨y, hy, hye⟩ := List.any_eq_true.1 h
 obtain ⟨j, hj⟩ := List.mem_iff_getElem?.1 hy
 have hjk : j < k := by
  have := (List.getElem?_eq_some_iff.1 hj).1
  rw [List.length_take] at this; omega
 rw [List.getElem?_take_of_lt hjk] at hj
 exact ⟨j, y, hjk, hj, by simpa using hye⟩
theorem set_next {α β : Type} [BEq β] [LawfulBEq β] [DecidableEq β] {f : α → β} {l : List α} {k : Nat} {x : α} (h : l[k]? = some x) (y : β) : (if y = f x then Value.bool true else .bool ((l.take k).any fun z => f z == y)) = .bool ((l.take (k + 1)).any fun z => f z == y) := by
 rw [take_next h, List.any_append]
 by_cases h : y = f x
 ·
  subst h; simp
 ·
  rw [if_neg h]; simp [show (f x == y) = false from by simpa using fun e => h e.symm]

set_option maxRecDepth 100000 in
set_option maxHeartbeats 4000000 in
theorem ccheck_any (cx : List Value) (x : Si) (w : World) (hx : rSi w cx x) :
  Calls Try.prog 23 #[.agg cx.toArray] w fun e w' => e = .returned (.int .i64 (chkE (siB x))) ∧ Below w.heap.size w w' := by
 obtain ⟨a0, n0, c0, a1, n1, c1, a2, n2, c2, a3, n3, c3, a4, n4, c4, a5, n5, c5, rfl, hq⟩ := hx
 have hn := hq.sp.len_le
 have hn5 := hq.held.len_le
 have H := Lib.hid hq
 have HL := Lib.hid hq.sp.1
 have HL5 := Lib.hid hq.held.1
 clear hq
 go_enter Try.func23, Try.ntmps23
 go_wp2_with (first
  | ((with_reducible show OpW 1); refine wpList_box _ rfl 33 (.tmp 0) rfl (siC a0 n0 c0 a1 n1 c1 a2 n2 c2 a3 n3 c3 a4 n4 c4 a5 n5 c5 x.pct) rfl ?_; intro w1 a1 a2 a3; have HB1 := Lib.hid a2; have HS1 := Lib.hid a1; clear a1 a2 a3)
  | ((with_reducible show OpW 9); refine wpList_makeG (enc := usC) _ rfl 78 9 rfl (.bool false) ?_; intro w2 a1 a2 a3; have HM2 := Lib.hid a1; have HB2 := Lib.hid (below_then HB1.out a2); have HS2 := Lib.hid (HS1.out.kept a2); have q0 := HS2.out.get (j := 0) rfl; clear a1 a2 a3))
 clear q0
 have HMX : Hid (w.heap.size < w1.heap.size) := Lib.hid HS1.out.lt
 go_loopw [13] (fun iv wr => ∃ k : Nat, k ≤ n0 ∧ iv = .int .i64 (k : Int) ∧ Hid (∀ j, j < k → okAt spB spN x.sp j = true) ∧ Hid (MG Try.prog 9 usC (.bool false) wr w1.heap.size (fun y => .bool ((x.sp.take k).any fun z => spN z == y))) ∧ Hid (BL wr w.heap.size 33 (siC a0 n0 c0 a1 n1 c1 a2 n2 c2 a3 n3 c3 a4 n4 c4 a5 n5 c5 x.pct)) ∧ Hid (Below w.heap.size w wr)) (fun iv _ => n0 - (intOf iv).toNat)
 case atStart => exact ⟨0, by omega, rfl, Lib.hid (fun j hj => absurd hj (by omega)), HM2, HS2, HB2⟩
 case round =>
  obtain ⟨k, hk, rfl, hall, hm, hsx, hb⟩ := hrel
  obtain ⟨wx, hwx⟩ : ∃ x, x = wr := ⟨_, rfl⟩
  rw [← hwx] at hm hsx hb ⊢
  clear hwx
  have HBx := Lib.hid hb.out
  by_cases hlt : k < n0
  ·
   obtain ⟨s, g, o, cs, hs, rfl, hat, hsp⟩ := H.out.sp.at_ stay_sp (Below.refl _ _) hlt
   have HSP := Lib.hid hsp
   obtain ⟨A, m, c, rfl, hlr, hid, _⟩ := hsp
   have HX := Lib.hid hs
   have HA := Lib.hid (hat.kept HBx.out)
   have HKS := Lib.hid (keyS s.id (reach_key hid))
   clear hs hat hlr hid
   cases h1 : spB s with
   | false =>
    have HF : Hid (siB x = false) := Lib.hid (by simp only [siB, ok_bad (f := spN) HX.out h1, Bool.false_and, Bool.and_false])
    go_wp2_with (first
     | ((with_reducible show OpW 16); refine wpList_loadv _ rfl 61 (.tmp 15) rfl 6 (by kernel_rfl) g (o + k * 6) (spC s A m c) (by go_simp) HA.out rfl ?_)
     | ((with_reducible show OpW 5); refine wpList_alloc _ rfl 61 rfl spZ spZero ?_; intro w3 a1 a2 a3; have HV3 := Lib.hid a1; have HX3 := Lib.hid a2; clear a1 a2 a3)
     | ((with_reducible show OpN); refine wpList_storev _ rfl 61 (.tmp 5) (.tmp 16) rfl 6 (by kernel_rfl) wx.heap.size 0 _ spZ (spC s A m c) rfl rfl HV3.out rfl (one_sp s A m c) (by decide) ?_; intro w4 a1 a2 a3; have HV4 : Hid (BL w4 wx.heap.size 61 (spC s A m c)) := Lib.hid a1; have HX4 : Hid (Below wx.heap.size wx w4) := Lib.hid (((Kp.of_below (S := fun _ => False) HX3.out).after a2 (fun i hi e => by omega)).below (Nat.le_refl _) (fun _ h => h.elim)); clear a1 a2 a3; have r0 := HV4.out.get (j := 0) rfl)
     | ((with_reducible show OpW 17); refine wpList_loadv _ rfl 61 (.tmp 5) rfl 6 (by kernel_rfl) wx.heap.size 0 (spC s A m c) rfl (BL.all HV4.out) rfl ?_)
     | (go_at_call 69; refine (spCheck_any _ s _ (stay_sp _ _ _ _ HSP.out (below_thenB HBx.out HBx.out.size HX4.out))).mono ?_; rintro e w5 ⟨rfl, b5⟩; rw [h1]; have HX5 := Lib.hid (below_thenB HX4.out HX4.out.size b5); have HV5 := Lib.hid (HV4.out.kept b5); have p0 := HV5.out.get (j := 0) rfl; clear b5))
    go_ret
    exact ⟨ret_chk (by rw [HF.out]; rfl), below_thenB HBx.out HBx.out.size HX5.out⟩
   | true =>
    cases h2 : (x.sp.take k).any fun z => spN z == s.id with
    | true =>
     have HF : Hid (siB x = false) := Lib.hid (by
      obtain ⟨j, y, hjk, hj, e⟩ := any_take_hit h2
      simp only [siB, ok_twice (p := spB) HX.out hj hjk (show spN y = spN s from e), Bool.false_and, Bool.and_false])
     go_wp2_with (first
      | ((with_reducible show OpW 16); refine wpList_loadv _ rfl 61 (.tmp 15) rfl 6 (by kernel_rfl) g (o + k * 6) (spC s A m c) (by go_simp) HA.out rfl ?_)
      | ((with_reducible show OpW 5); refine wpList_alloc _ rfl 61 rfl spZ spZero ?_; intro w3 a1 a2 a3; have HV3 := Lib.hid a1; have HX3 := Lib.hid a2; clear a1 a2 a3)
      | ((with_reducible show OpN); refine wpList_storev _ rfl 61 (.tmp 5) (.tmp 16) rfl 6 (by kernel_rfl) wx.heap.size 0 _ spZ (spC s A m c) rfl rfl HV3.out rfl (one_sp s A m c) (by decide) ?_; intro w4 a1 a2 a3; have HV4 : Hid (BL w4 wx.heap.size 61 (spC s A m c)) := Lib.hid a1; have HX4 : Hid (Below wx.heap.size wx w4) := Lib.hid (((Kp.of_below (S := fun _ => False) HX3.out).after a2 (fun i hi e => by omega)).below (Nat.le_refl _) (fun _ h => h.elim)); clear a1 a2 a3; have r0 := HV4.out.get (j := 0) rfl)
      | ((with_reducible show OpW 17); refine wpList_loadv _ rfl 61 (.tmp 5) rfl 6 (by kernel_rfl) wx.heap.size 0 (spC s A m c) rfl (BL.all HV4.out) rfl ?_)
      | (go_at_call 69; refine (spCheck_any _ s _ (stay_sp _ _ _ _ HSP.out (below_thenB HBx.out HBx.out.size HX4.out))).mono ?_; rintro e w5 ⟨rfl, b5⟩; rw [h1]; have HX5 := Lib.hid (below_thenB HX4.out HX4.out.size b5); have HV5 := Lib.hid (HV4.out.kept b5); have p0 := HV5.out.get (j := 0) rfl; clear b5) | ((with_reducible show OpW 24); refine wpList_lookGgv _ rfl (.tmp 21) (.tmp 23) 78 9 4 rfl strKeyed mapSB (.bool false) boolZero w1.heap.size _ rfl (hm.out.kept HX5.out) s.id rfl HKS.out (.bool true) (by rw [h2]) ?_))
     go_ret
     exact ⟨ret_chk (by rw [HF.out]; rfl), below_thenB HBx.out HBx.out.size HX5.out⟩
    | false =>
     have HF : Hid (∀ j, j < k + 1 → okAt spB spN x.sp j = true) := Lib.hid (fun i hi => by
      rcases Nat.lt_succ_iff_lt_or_eq.1 hi with h | rfl
      ·
       exact hall.out i h
      ·
       exact ok_hit HX.out h1 h2)
     go_wp2_with (first
      | ((with_reducible show OpW 16); refine wpList_loadv _ rfl 61 (.tmp 15) rfl 6 (by kernel_rfl) g (o + k * 6) (spC s A m c) (by go_simp) HA.out rfl ?_)
      | ((with_reducible show OpW 5); refine wpList_alloc _ rfl 61 rfl spZ spZero ?_; intro w3 a1 a2 a3; have HV3 := Lib.hid a1; have HX3 := Lib.hid a2; clear a1 a2 a3)
      | ((with_reducible show OpN); refine wpList_storev _ rfl 61 (.tmp 5) (.tmp 16) rfl 6 (by kernel_rfl) wx.heap.size 0 _ spZ (spC s A m c) rfl rfl HV3.out rfl (one_sp s A m c) (by decide) ?_; intro w4 a1 a2 a3; have HV4 : Hid (BL w4 wx.heap.size 61 (spC s A m c)) := Lib.hid a1; have HX4 : Hid (Below wx.heap.size wx w4) := Lib.hid (((Kp.of_below (S := fun _ => False) HX3.out).after a2 (fun i hi e => by omega)).below (Nat.le_refl _) (fun _ h => h.elim)); clear a1 a2 a3; have r0 := HV4.out.get (j := 0) rfl)
      | ((with_reducible show OpW 17); refine wpList_loadv _ rfl 61 (.tmp 5) rfl 6 (by kernel_rfl) wx.heap.size 0 (spC s A m c) rfl (BL.all HV4.out) rfl ?_)
      | (go_at_call 69; refine (spCheck_any _ s _ (stay_sp _ _ _ _ HSP.out (below_thenB HBx.out HBx.out.size HX4.out))).mono ?_; rintro e w5 ⟨rfl, b5⟩; rw [h1]; have HX5 := Lib.hid (below_thenB HX4.out HX4.out.size b5); have HV5 := Lib.hid (HV4.out.kept b5); have p0 := HV5.out.get (j := 0) rfl; clear b5) | ((with_reducible show OpW 24); refine wpList_lookGgv _ rfl (.tmp 21) (.tmp 23) 78 9 4 rfl strKeyed mapSB (.bool false) boolZero w1.heap.size _ rfl (hm.out.kept HX5.out) s.id rfl HKS.out (.bool false) (by rw [h2]) ?_) | ((with_reducible show OpN); refine wpList_updG _ (fun x y h => usC_inj h) rfl (.tmp 26) (.tmp 28) (.const (.bool true)) 78 9 4 rfl strKeyed mapSB (.bool false) w1.heap.size _ rfl (hm.out.kept HX5.out) s.id (.bool true) rfl rfl HKS.out ?_; intro w6 a1 a2 a3; have HM6 := Lib.hid a1; have HK6 := Lib.hid a2; clear a1 a2 a3))
     have HN6 : Hid (MG Try.prog 9 usC (.bool false) w6 w1.heap.size (fun y => .bool ((x.sp.take (k + 1)).any fun z => spN z == y))) := Lib.hid (HM6.out.to (fun y => set_next (f := spN) HX.out y))
     have HB6 : Hid (Below w.heap.size w w6) := Lib.hid (((Kp.of_below (S := fun _ => False) (below_thenB hb.out hb.out.size HX5.out)).after HK6.out (fun i hi e => by have := HMX.out; omega)).below (Nat.le_refl _) (fun _ h => h.elim))
     have HS6 := Lib.hid (HK6.out.bl (hsx.out.kept HX5.out) (by have := HMX.out; omega))
     go_roundw
     case rel => exact ⟨k + 1, by omega, by go_num, HF, HN6, HS6, HB6⟩
     case measure => simp [intOf]; omega
  ·
   obtain rfl : n0 = k := by omega
   have e0 : okB spB spN x.sp = true := ok_all (by rw [HL.out]; exact hall.out)
   have q1 := hsx.out.get (j := 1) rfl
   have q2 := hsx.out.get (j := 2) rfl
   have q3 := hsx.out.get (j := 3) rfl
   have q4 := hsx.out.get (j := 4) rfl
   cases e2 : ascB x.need with
   | false =>
    go_wp2_with (first
     | (go_at_call 70; (with_reducible show Calls _ _ #[.slice a1 n1 c1] _ _); refine (ascending_any _ _ _ x.need _ (H.out.need.kept stay_str HBx.out)).mono ?_; rintro e w5 ⟨rfl, hw⟩; rw [hw]; clear hw w5; rw [e2])
     | (go_at_call 70; (with_reducible show Calls _ _ #[.slice a2 n2 c2] _ _); refine (ascending_any _ _ _ x.cond _ (H.out.cond.kept stay_str HBx.out)).mono ?_; rintro e w5 ⟨rfl, hw⟩; rw [hw]; clear hw w5; rw [e3])
     | (go_at_call 70; (with_reducible show Calls _ _ #[.slice a3 n3 c3] _ _); refine (ascending_any _ _ _ x.drop _ (H.out.drop.kept stay_str HBx.out)).mono ?_; rintro e w5 ⟨rfl, hw⟩; rw [hw]; clear hw w5; rw [e4])
     | (go_at_call 70; (with_reducible show Calls _ _ #[.slice a4 n4 c4] _ _); refine (ascending_any _ _ _ x.carr _ (H.out.carr.kept stay_str HBx.out)).mono ?_; rintro e w5 ⟨rfl, hw⟩; rw [hw]; clear hw w5; rw [e5]))
    go_ret
    exact ⟨ret_chk (by simp only [siB, e2, Bool.false_and, Bool.and_false]; rfl), HBx.out⟩
   | true =>
    cases e3 : ascB x.cond with
    | false =>
     go_wp2_with (first
      | (go_at_call 70; (with_reducible show Calls _ _ #[.slice a1 n1 c1] _ _); refine (ascending_any _ _ _ x.need _ (H.out.need.kept stay_str HBx.out)).mono ?_; rintro e w5 ⟨rfl, hw⟩; rw [hw]; clear hw w5; rw [e2])
      | (go_at_call 70; (with_reducible show Calls _ _ #[.slice a2 n2 c2] _ _); refine (ascending_any _ _ _ x.cond _ (H.out.cond.kept stay_str HBx.out)).mono ?_; rintro e w5 ⟨rfl, hw⟩; rw [hw]; clear hw w5; rw [e3])
      | (go_at_call 70; (with_reducible show Calls _ _ #[.slice a3 n3 c3] _ _); refine (ascending_any _ _ _ x.drop _ (H.out.drop.kept stay_str HBx.out)).mono ?_; rintro e w5 ⟨rfl, hw⟩; rw [hw]; clear hw w5; rw [e4])
      | (go_at_call 70; (with_reducible show Calls _ _ #[.slice a4 n4 c4] _ _); refine (ascending_any _ _ _ x.carr _ (H.out.carr.kept stay_str HBx.out)).mono ?_; rintro e w5 ⟨rfl, hw⟩; rw [hw]; clear hw w5; rw [e5]))
     go_ret
     exact ⟨ret_chk (by simp only [siB, e3, Bool.false_and, Bool.and_false]; rfl), HBx.out⟩
    | true =>
     cases e4 : ascB x.drop with
     | false =>
      go_wp2_with (first
       | (go_at_call 70; (with_reducible show Calls _ _ #[.slice a1 n1 c1] _ _); refine (ascending_any _ _ _ x.need _ (H.out.need.kept stay_str HBx.out)).mono ?_; rintro e w5 ⟨rfl, hw⟩; rw [hw]; clear hw w5; rw [e2])
       | (go_at_call 70; (with_reducible show Calls _ _ #[.slice a2 n2 c2] _ _); refine (ascending_any _ _ _ x.cond _ (H.out.cond.kept stay_str HBx.out)).mono ?_; rintro e w5 ⟨rfl, hw⟩; rw [hw]; clear hw w5; rw [e3])
       | (go_at_call 70; (with_reducible show Calls _ _ #[.slice a3 n3 c3] _ _); refine (ascending_any _ _ _ x.drop _ (H.out.drop.kept stay_str HBx.out)).mono ?_; rintro e w5 ⟨rfl, hw⟩; rw [hw]; clear hw w5; rw [e4])
       | (go_at_call 70; (with_reducible show Calls _ _ #[.slice a4 n4 c4] _ _); refine (ascending_any _ _ _ x.carr _ (H.out.carr.kept stay_str HBx.out)).mono ?_; rintro e w5 ⟨rfl, hw⟩; rw [hw]; clear hw w5; rw [e5]))
      go_ret
      exact ⟨ret_chk (by simp only [siB, e4, Bool.false_and, Bool.and_false]; rfl), HBx.out⟩
     | true =>
      cases e5 : ascB x.carr with
      | false =>
       go_wp2_with (first
        | (go_at_call 70; (with_reducible show Calls _ _ #[.slice a1 n1 c1] _ _); refine (ascending_any _ _ _ x.need _ (H.out.need.kept stay_str HBx.out)).mono ?_; rintro e w5 ⟨rfl, hw⟩; rw [hw]; clear hw w5; rw [e2])
        | (go_at_call 70; (with_reducible show Calls _ _ #[.slice a2 n2 c2] _ _); refine (ascending_any _ _ _ x.cond _ (H.out.cond.kept stay_str HBx.out)).mono ?_; rintro e w5 ⟨rfl, hw⟩; rw [hw]; clear hw w5; rw [e3])
        | (go_at_call 70; (with_reducible show Calls _ _ #[.slice a3 n3 c3] _ _); refine (ascending_any _ _ _ x.drop _ (H.out.drop.kept stay_str HBx.out)).mono ?_; rintro e w5 ⟨rfl, hw⟩; rw [hw]; clear hw w5; rw [e4])
        | (go_at_call 70; (with_reducible show Calls _ _ #[.slice a4 n4 c4] _ _); refine (ascending_any _ _ _ x.carr _ (H.out.carr.kept stay_str HBx.out)).mono ?_; rintro e w5 ⟨rfl, hw⟩; rw [hw]; clear hw w5; rw [e5]))
       go_ret
       exact ⟨ret_chk (by simp only [siB, e5, Bool.false_and, Bool.and_false]; rfl), HBx.out⟩
      | true =>
       have HSI : Hid (siB x = (okB pcB pcI x.held && (decide (0 ≤ x.pct) && decide (x.pct ≤ 100)))) := Lib.hid (by simp only [siB, e0, e2, e3, e4, e5, Bool.true_and])
       go_wp2_with (first
        | (go_at_call 70; (with_reducible show Calls _ _ #[.slice a1 n1 c1] _ _); refine (ascending_any _ _ _ x.need _ (H.out.need.kept stay_str HBx.out)).mono ?_; rintro e w5 ⟨rfl, hw⟩; rw [hw]; clear hw w5; rw [e2])
        | (go_at_call 70; (with_reducible show Calls _ _ #[.slice a2 n2 c2] _ _); refine (ascending_any _ _ _ x.cond _ (H.out.cond.kept stay_str HBx.out)).mono ?_; rintro e w5 ⟨rfl, hw⟩; rw [hw]; clear hw w5; rw [e3])
        | (go_at_call 70; (with_reducible show Calls _ _ #[.slice a3 n3 c3] _ _); refine (ascending_any _ _ _ x.drop _ (H.out.drop.kept stay_str HBx.out)).mono ?_; rintro e w5 ⟨rfl, hw⟩; rw [hw]; clear hw w5; rw [e4])
        | (go_at_call 70; (with_reducible show Calls _ _ #[.slice a4 n4 c4] _ _); refine (ascending_any _ _ _ x.carr _ (H.out.carr.kept stay_str HBx.out)).mono ?_; rintro e w5 ⟨rfl, hw⟩; rw [hw]; clear hw w5; rw [e5]) | ((with_reducible show OpW 52); refine wpList_makeG (enc := pcV) _ rfl 79 39 rfl (.bool false) ?_; intro w7 a1 a2 a3; have HM7 := Lib.hid a1; have HB7 := Lib.hid (below_thenB HBx.out HBx.out.size a2); have HS7 := Lib.hid (hsx.out.kept a2); have q5 := HS7.out.get (j := 5) rfl; clear a1 a2 a3))
       clear q1 q2 q3 q4 q5
       have HMY : Hid (w.heap.size < wx.heap.size) := Lib.hid hsx.out.lt
       go_loopw [56] (fun iv wr => ∃ j : Nat, j ≤ n5 ∧ iv = .int .i64 (j : Int) ∧ Hid (∀ i, i < j → okAt pcB pcI x.held i = true) ∧ Hid (MG Try.prog 39 pcV (.bool false) wr wx.heap.size (fun y => .bool ((x.held.take j).any fun z => pcI z == y))) ∧ Hid (BL wr w.heap.size 33 (siC a0 n0 c0 a1 n1 c1 a2 n2 c2 a3 n3 c3 a4 n4 c4 a5 n5 c5 x.pct)) ∧ Hid (Below w.heap.size w wr)) (fun iv _ => n5 - (intOf iv).toNat)
       case atStart => exact ⟨0, by omega, rfl, Lib.hid (fun j hj => absurd hj (by omega)), HM7, HS7, HB7⟩
       case round =>
        obtain ⟨j, hj, rfl, hall', hm', hsy, hb'⟩ := hrel
        obtain ⟨wy, hwy⟩ : ∃ x, x = wr := ⟨_, rfl⟩
        rw [← hwy] at hm' hsy hb' ⊢
        clear hwy
        by_cases hlt : j < n5
        ·
         obtain ⟨q, g, o, cs, hs, rfl, hat, rfl, hok⟩ := H.out.held.at_ stay_pc (Below.refl _ _) hlt
         have HX := Lib.hid hs
         have HA := Lib.hid (hat.kept hb'.out)
         have HKP := Lib.hid (keyP q hok)
         clear hs hat hok
         by_cases h1 : q.1.length = 32
         rotate_left
         ·
          have f1 : (((strB q.1).size : Int) != 32) = true := by rw [strB_size, bne_iff_ne]; omega
          have HF : Hid (siB x = false) := Lib.hid (by rw [HSI.out, ok_bad HX.out (show pcB q = false by rw [pcB, decide_eq_false h1]; rfl)]; rfl)
          clear h1
          go_wp2_with (first
           | ((with_reducible show OpW 59); refine wpList_loadv _ rfl 39 (.tmp 58) rfl 2 (by kernel_rfl) g (o + j * 2) (pcL q) (by go_simp) HA.out rfl ?_)
           | ((with_reducible show OpW 8); refine wpList_alloc _ rfl 39 rfl pcZ pcZero ?_; intro w3 a1 a2 a3; have HV3 := Lib.hid a1; have HX3 := Lib.hid a2; clear a1 a2 a3)
           | ((with_reducible show OpN); refine wpList_storev _ rfl 39 (.tmp 8) (.tmp 59) rfl 2 (by kernel_rfl) wy.heap.size 0 _ pcZ (pcL q) rfl rfl HV3.out rfl (one_pc q) (by decide) ?_; intro w4 a1 a2 a3; have HV4 : Hid (BL w4 wy.heap.size 39 (pcL q)) := Lib.hid a1; have HX4 : Hid (Below wy.heap.size wy w4) := Lib.hid (((Kp.of_below (S := fun _ => False) HX3.out).after a2 (fun i hi e => by omega)).below (Nat.le_refl _) (fun _ h => h.elim)); clear a1 a2 a3; have r0 := HV4.out.get (j := 0) rfl; have r1 := HV4.out.get (j := 1) rfl)
           | fail)
          go_ret
          exact ⟨ret_chk (by rw [HF.out]; rfl), below_thenB hb'.out hb'.out.size HX4.out⟩
         have f1 : (((strB q.1).size : Int) != 32) = false := by rw [strB_size, h1]; rfl
         by_cases h2 : 0 ≤ q.2
         rotate_left
         ·
          have f2 : decide (q.2 < 0) = true := decide_eq_true (by omega)
          have HF : Hid (siB x = false) := Lib.hid (by rw [HSI.out, ok_bad HX.out (show pcB q = false by rw [pcB, decide_eq_true h1, decide_eq_false h2]; rfl)]; rfl)
          clear h1 h2
          go_wp2_with (first
           | ((with_reducible show OpW 59); refine wpList_loadv _ rfl 39 (.tmp 58) rfl 2 (by kernel_rfl) g (o + j * 2) (pcL q) (by go_simp) HA.out rfl ?_)
           | ((with_reducible show OpW 8); refine wpList_alloc _ rfl 39 rfl pcZ pcZero ?_; intro w3 a1 a2 a3; have HV3 := Lib.hid a1; have HX3 := Lib.hid a2; clear a1 a2 a3)
           | ((with_reducible show OpN); refine wpList_storev _ rfl 39 (.tmp 8) (.tmp 59) rfl 2 (by kernel_rfl) wy.heap.size 0 _ pcZ (pcL q) rfl rfl HV3.out rfl (one_pc q) (by decide) ?_; intro w4 a1 a2 a3; have HV4 : Hid (BL w4 wy.heap.size 39 (pcL q)) := Lib.hid a1; have HX4 : Hid (Below wy.heap.size wy w4) := Lib.hid (((Kp.of_below (S := fun _ => False) HX3.out).after a2 (fun i hi e => by omega)).below (Nat.le_refl _) (fun _ h => h.elim)); clear a1 a2 a3; have r0 := HV4.out.get (j := 0) rfl; have r1 := HV4.out.get (j := 1) rfl)
           | fail)
          go_ret
          exact ⟨ret_chk (by rw [HF.out]; rfl), below_thenB hb'.out hb'.out.size HX4.out⟩
         have f2 : decide (q.2 < 0) = false := decide_eq_false (by omega)
         by_cases h3 : q.2 < 16
         rotate_left
         ·
          have f3 : decide (16 ≤ q.2) = true := decide_eq_true (by omega)
          have HF : Hid (siB x = false) := Lib.hid (by rw [HSI.out, ok_bad HX.out (show pcB q = false by rw [pcB, decide_eq_true h1, decide_eq_true h2, decide_eq_false h3]; rfl)]; rfl)
          clear h1 h2 h3
          go_wp2_with (first
           | ((with_reducible show OpW 59); refine wpList_loadv _ rfl 39 (.tmp 58) rfl 2 (by kernel_rfl) g (o + j * 2) (pcL q) (by go_simp) HA.out rfl ?_)
           | ((with_reducible show OpW 8); refine wpList_alloc _ rfl 39 rfl pcZ pcZero ?_; intro w3 a1 a2 a3; have HV3 := Lib.hid a1; have HX3 := Lib.hid a2; clear a1 a2 a3)
           | ((with_reducible show OpN); refine wpList_storev _ rfl 39 (.tmp 8) (.tmp 59) rfl 2 (by kernel_rfl) wy.heap.size 0 _ pcZ (pcL q) rfl rfl HV3.out rfl (one_pc q) (by decide) ?_; intro w4 a1 a2 a3; have HV4 : Hid (BL w4 wy.heap.size 39 (pcL q)) := Lib.hid a1; have HX4 : Hid (Below wy.heap.size wy w4) := Lib.hid (((Kp.of_below (S := fun _ => False) HX3.out).after a2 (fun i hi e => by omega)).below (Nat.le_refl _) (fun _ h => h.elim)); clear a1 a2 a3; have r0 := HV4.out.get (j := 0) rfl; have r1 := HV4.out.get (j := 1) rfl)
           | fail)
          go_ret
          exact ⟨ret_chk (by rw [HF.out]; rfl), below_thenB hb'.out hb'.out.size HX4.out⟩
         have f3 : decide (16 ≤ q.2) = false := decide_eq_false (by omega)
         have HP : Hid (pcB q = true) := Lib.hid (by rw [pcB, decide_eq_true h1, decide_eq_true h2, decide_eq_true h3]; rfl)
         clear h1 h2 h3
         cases h4 : (x.held.take j).any fun z => pcI z == q with
         | true =>
          have HF : Hid (siB x = false) := Lib.hid (by
           obtain ⟨i, y, hij, hi, e⟩ := any_take_hit h4
           rw [HSI.out, ok_twice (p := pcB) HX.out hi hij (show pcI y = pcI q from e)]; rfl)
          go_wp2_with (first
           | ((with_reducible show OpW 59); refine wpList_loadv _ rfl 39 (.tmp 58) rfl 2 (by kernel_rfl) g (o + j * 2) (pcL q) (by go_simp) HA.out rfl ?_)
           | ((with_reducible show OpW 8); refine wpList_alloc _ rfl 39 rfl pcZ pcZero ?_; intro w3 a1 a2 a3; have HV3 := Lib.hid a1; have HX3 := Lib.hid a2; clear a1 a2 a3)
           | ((with_reducible show OpN); refine wpList_storev _ rfl 39 (.tmp 8) (.tmp 59) rfl 2 (by kernel_rfl) wy.heap.size 0 _ pcZ (pcL q) rfl rfl HV3.out rfl (one_pc q) (by decide) ?_; intro w4 a1 a2 a3; have HV4 : Hid (BL w4 wy.heap.size 39 (pcL q)) := Lib.hid a1; have HX4 : Hid (Below wy.heap.size wy w4) := Lib.hid (((Kp.of_below (S := fun _ => False) HX3.out).after a2 (fun i hi e => by omega)).below (Nat.le_refl _) (fun _ h => h.elim)); clear a1 a2 a3; have r0 := HV4.out.get (j := 0) rfl; have r1 := HV4.out.get (j := 1) rfl)
           | fail | ((with_reducible show OpW 76); refine wpList_loadvg _ rfl 39 (.tmp 8) rfl 2 (by kernel_rfl) wy.heap.size 0 (pcL q) rfl (BL.all HV4.out) rfl ?_) | ((with_reducible show OpW 77); refine wpList_lookGgv _ rfl (.tmp 75) (.tmp 76) 79 39 4 rfl pidKeyed mapPB (.bool false) boolZero wx.heap.size _ rfl (hm'.out.kept HX4.out) q rfl HKP.out (.bool true) (by rw [h4]) ?_))
          go_ret
          exact ⟨ret_chk (by rw [HF.out]; rfl), below_thenB hb'.out hb'.out.size HX4.out⟩
         | false =>
          have HF : Hid (∀ i, i < j + 1 → okAt pcB pcI x.held i = true) := Lib.hid (fun i hi => by
           rcases Nat.lt_succ_iff_lt_or_eq.1 hi with h | rfl
           ·
            exact hall'.out i h
           ·
            exact ok_hit HX.out HP.out h4)
          go_wp2_with (first
           | ((with_reducible show OpW 59); refine wpList_loadv _ rfl 39 (.tmp 58) rfl 2 (by kernel_rfl) g (o + j * 2) (pcL q) (by go_simp) HA.out rfl ?_)
           | ((with_reducible show OpW 8); refine wpList_alloc _ rfl 39 rfl pcZ pcZero ?_; intro w3 a1 a2 a3; have HV3 := Lib.hid a1; have HX3 := Lib.hid a2; clear a1 a2 a3)
           | ((with_reducible show OpN); refine wpList_storev _ rfl 39 (.tmp 8) (.tmp 59) rfl 2 (by kernel_rfl) wy.heap.size 0 _ pcZ (pcL q) rfl rfl HV3.out rfl (one_pc q) (by decide) ?_; intro w4 a1 a2 a3; have HV4 : Hid (BL w4 wy.heap.size 39 (pcL q)) := Lib.hid a1; have HX4 : Hid (Below wy.heap.size wy w4) := Lib.hid (((Kp.of_below (S := fun _ => False) HX3.out).after a2 (fun i hi e => by omega)).below (Nat.le_refl _) (fun _ h => h.elim)); clear a1 a2 a3; have r0 := HV4.out.get (j := 0) rfl; have r1 := HV4.out.get (j := 1) rfl)
           | fail | ((with_reducible show OpW 76); refine wpList_loadvg _ rfl 39 (.tmp 8) rfl 2 (by kernel_rfl) wy.heap.size 0 (pcL q) rfl (BL.all HV4.out) rfl ?_) | ((with_reducible show OpW 77); refine wpList_lookGgv _ rfl (.tmp 75) (.tmp 76) 79 39 4 rfl pidKeyed mapPB (.bool false) boolZero wx.heap.size _ rfl (hm'.out.kept HX4.out) q rfl HKP.out (.bool false) (by rw [h4]) ?_) | ((with_reducible show OpW 80); refine wpList_loadv _ rfl 39 (.tmp 8) rfl 2 (by kernel_rfl) wy.heap.size 0 (pcL q) rfl (BL.all HV4.out) rfl ?_) | ((with_reducible show OpN); refine wpList_updG _ pcV_inj rfl (.tmp 79) (.tmp 80) (.const (.bool true)) 79 39 4 rfl pidKeyed mapPB (.bool false) wx.heap.size _ rfl (hm'.out.kept HX4.out) q (.bool true) rfl rfl HKP.out ?_; intro w6 a1 a2 a3; have HM6 := Lib.hid a1; have HK6 := Lib.hid a2; clear a1 a2 a3))
          have HN6 : Hid (MG Try.prog 39 pcV (.bool false) w6 wx.heap.size (fun y => .bool ((x.held.take (j + 1)).any fun z => pcI z == y))) := Lib.hid (HM6.out.to (fun y => set_next (f := pcI) HX.out y))
          have HB6 : Hid (Below w.heap.size w w6) := Lib.hid (((Kp.of_below (S := fun _ => False) (below_thenB hb'.out hb'.out.size HX4.out)).after HK6.out (fun i hi e => by have := HMY.out; omega)).below (Nat.le_refl _) (fun _ h => h.elim))
          have HS6 := Lib.hid (HK6.out.bl (hsy.out.kept HX4.out) (by have := HMY.out; omega))
          go_roundw
          case rel => exact ⟨j + 1, by omega, by go_num, HF, HN6, HS6, HB6⟩
          case measure => simp [intOf]; omega
        ·
         obtain rfl : n5 = j := by omega
         have f0 : okB pcB pcI x.held = true := ok_all (by rw [HL5.out]; exact hall'.out)
         have q6 := hsy.out.get (j := 6) rfl
         by_cases h6 : 0 ≤ x.pct
         ·
          have f1 : decide (x.pct < 0) = false := decide_eq_false (by omega)
          by_cases h7 : x.pct ≤ 100
          ·
           have f2 : decide (100 < x.pct) = false := decide_eq_false (by omega)
           have HF : Hid (siB x = true) := Lib.hid (by rw [HSI.out, f0, decide_eq_true h6, decide_eq_true h7]; rfl)
           clear h6 h7
           go_wp2_with fail
           go_ret
           exact ⟨ret_chk (by rw [HF.out]; rfl), hb'.out⟩
          ·
           have f2 : decide (100 < x.pct) = true := decide_eq_true (by omega)
           have HF : Hid (siB x = false) := Lib.hid (by rw [HSI.out, f0, decide_eq_true h6, decide_eq_false h7]; rfl)
           clear h6 h7
           go_wp2_with fail
           go_ret
           exact ⟨ret_chk (by rw [HF.out]; rfl), hb'.out⟩
         ·
          have f1 : decide (x.pct < 0) = true := decide_eq_true (by omega)
          have HF : Hid (siB x = false) := Lib.hid (by rw [HSI.out, f0, decide_eq_false h6]; rfl)
          clear h6
          go_wp2_with fail
          go_ret
          exact ⟨ret_chk (by rw [HF.out]; rfl), hb'.out⟩
end Go.Proofs.Ytboglaokdgnpaaa
