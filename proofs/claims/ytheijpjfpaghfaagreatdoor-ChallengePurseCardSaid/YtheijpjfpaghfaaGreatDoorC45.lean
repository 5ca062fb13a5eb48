/- Several texts in one: Ij, Ik, Il. -/
import Derived.Test.YtheijpjfpaghfaaGreatDoorC44
import Derived.Test.YtheijpjfpaghfaaGreatDoorC33
/- The reference's values of an encoding: count, sum. -/
namespace Go.Proofs.YtheijpjfpaghfaaGreatDoor
open Go Go.RowKit Gf Sha

theorem bldVn (n : Int) (w : World) : (Instr.build 100 #[(0, .int .i64 7), (2, .int .i64 n)]).run Tryz.prog w = .ok (.agg (vaC 7 n [] 0).toArray) w := by kernel_rfl
theorem bldVs (s : List UInt8) (w : World) : (Instr.build 100 #[(0, .int .i64 6), (4, .string (strB s))]).run Tryz.prog w = .ok (.agg (vaC 6 0 s 0).toArray) w := by kernel_rfl
theorem bldVi (n : Int) (w : World) : (Instr.build 100 #[(0, .int .i64 2), (2, .int .i64 n)]).run Tryz.prog w = .ok (.agg (vaC 2 n [] 0).toArray) w := by kernel_rfl
set_option maxHeartbeats 1000000 in
theorem rcount44 (n : Int) (w : World) : Calls Tryz.prog 54 #[.int .i64 n] w fun e w' => e = .returned (.agg (vaC 7 n [] 0).toArray) ∧ Below w.heap.size w w' := by
 go_enter Tryz.func54, Tryz.ntmps54
 go_wp2_with (first
  | ((with_reducible show OpW 2); refine wpList_alloc _ rfl 100 rfl (vaC 0 0 [] 0) vaZero ?_; intro w1 a1 a2 a3; have HR1 := Lib.hid a1; have HB1 := Lib.hid a2; clear a1 a2 a3)
  | ((with_reducible show OpW 4); refine wpList_build _ rfl 100 _ rfl #[(0, .int .i64 7), (2, .int .i64 n)] (by rw [List.map_toArray]; rfl) (.agg (vaC 7 n [] 0).toArray) (by exact bldVn _ _) ?_)
  | ((with_reducible show OpN); refine wpList_storev _ rfl 100 (.tmp 2) (.tmp 4) rfl 6 (by kernel_rfl) w.heap.size 0 _ (vaC 0 0 [] 0) (vaC 7 n [] 0) rfl rfl HR1.out rfl (one_val _ rfl) (by decide) ?_; intro w2 a1 a2 a3; have HR2 : Hid (BL w2 w.heap.size 100 (vaC 7 n [] 0)) := Lib.hid a1; have HB2 : Hid (Below w.heap.size w w2) := Lib.hid (low_own HB1.out a2 (fun i hi e => by omega)); clear a1 a2 a3))
 exact bodyPost_ret (results_at w2 Tryz.results54 (n := 6) (by kernel_rfl) (g := w.heap.size) (o := 0) rfl (ms := (vaC 7 n [] 0)) (BL.all HR2.out) rfl) rfl ⟨rfl, HB2.out⟩
set_option maxHeartbeats 1000000 in
theorem rsum44 (s : List UInt8) (w : World) : Calls Tryz.prog 55 #[.string (strB s)] w fun e w' => e = .returned (.agg (vaC 6 0 s 0).toArray) ∧ Below w.heap.size w w' := by
 go_enter Tryz.func55, Tryz.ntmps55
 go_wp2_with (first
  | ((with_reducible show OpW 2); refine wpList_alloc _ rfl 100 rfl (vaC 0 0 [] 0) vaZero ?_; intro w1 a1 a2 a3; have HR1 := Lib.hid a1; have HB1 := Lib.hid a2; clear a1 a2 a3)
  | ((with_reducible show OpW 4); refine wpList_build _ rfl 100 _ rfl #[(0, .int .i64 6), (4, .string (strB s))] (by rw [List.map_toArray]; rfl) (.agg (vaC 6 0 s 0).toArray) (by exact bldVs _ _) ?_)
  | ((with_reducible show OpN); refine wpList_storev _ rfl 100 (.tmp 2) (.tmp 4) rfl 6 (by kernel_rfl) w.heap.size 0 _ (vaC 0 0 [] 0) (vaC 6 0 s 0) rfl rfl HR1.out rfl (one_val _ rfl) (by decide) ?_; intro w2 a1 a2 a3; have HR2 : Hid (BL w2 w.heap.size 100 (vaC 6 0 s 0)) := Lib.hid a1; have HB2 : Hid (Below w.heap.size w w2) := Lib.hid (low_own HB1.out a2 (fun i hi e => by omega)); clear a1 a2 a3))
 exact bodyPost_ret (results_at w2 Tryz.results55 (n := 6) (by kernel_rfl) (g := w.heap.size) (o := 0) rfl (ms := (vaC 6 0 s 0)) (BL.all HR2.out) rfl) rfl ⟨rfl, HB2.out⟩
end Go.Proofs.YtheijpjfpaghfaaGreatDoor
/- ref01.Encode of sums, ints, counts. -/
namespace Go.Proofs.YtheijpjfpaghfaaGreatDoor
open Go Go.RowKit Gf Sha

/-- append(b, x...), x bytes. -/
theorem wpList_appRB (w : World) {ops : Array Oper} {rest : List Oper} {o : Oper} {a : Act} {Q : Exit → Act → World → Prop} (hg : o.guard = none) (sl x : Operand) (hop : o.op = .call { callee := .builtin .append, args := #[sl, x], argTypes := #[22, 22] })
  (v : Value) (n : Nat) (l : List Value) (hv : a.eval sl = v) (h : RW w 5 1 v n l) (A : Option Addr) (m c : Nat) (s : List UInt8) (hx : a.eval x = .slice A m c) (hs : BS w A m c s) (hm : 0 < m) (hb : n + m ≤ 140737488355328)
  (hK : ∀ v' w', AppR w 5 1 v n m l (s.map B) v' w' → wpList Tryz.prog ops Q rest (a.put o.dst v') w') : wpList Tryz.prog ops Q (o :: rest) a w :=
 wpList_plain hg fun K hK' => by
  obtain ⟨i, hi, hz, hsz, hby⟩ := info_some infoU8
  have hsrc : Src Tryz.prog 1 22 (.slice A m c) m (s.map B) w :=
   ⟨.inl ⟨_, Tryz.underlying22⟩, fun _ => rfl, BS.firstCells hs, BS.firstCells hs.drew, by simp [hs.1], fun u hu => by obtain ⟨_, _, rfl⟩ := List.mem_map.1 hu; rfl⟩
  obtain ⟨v', w', hr, h2⟩ := run_appRW (rt := o.type) (t := 22) Tryz.underlying22 hi hz hsz rfl h hsrc hm (by rw [hby]; omega) hb
  unfold Oper.wp execOp
  simp only [hop, resolve, invoke, builtin, Sem.run_bind, Sem.run_pure, Result.andThen_ok, List.map_toArray, List.map_cons, List.map_nil, hv, hx, hr]
  exact hK' _ _ (hK v' w' h2)
theorem rzig_any (n : Nat) (hn : n < 4611686018427387904) (w : World) : Calls Tryz.prog 82 #[.int .i64 (n : Int)] w fun e w' => e = .returned (.int .u64 ((2 * n : Nat) : Int)) ∧ w' = w := by
 have f1 : decide ((0 : Int) ≤ (n : Int)) = true := decide_eq_true (by omega)
 have f2 : IntKind.u64.wrap (n : Int) = (n : Int) := by show (n : Int) % 18446744073709551616 = _; omega
 have f3 : IntKind.u64.wrap (2 * (n : Int)) = ((2 * n : Nat) : Int) := by show (2 * (n : Int)) % 18446744073709551616 = _; omega
 go_enter Tryz.func82, Tryz.ntmps82
 go_wp2_with fail
 go_ret
 exact ⟨rfl, rfl⟩
theorem rnum_bs (N : Nat) (w : World) (hN : N < 9223372036854775808) : Calls Tryz.prog 81 #[.int .u64 (N : Int)] w fun e w' => ∃ A m c, e = .returned (.slice A m c) ∧ BS w' A m c (uv N) ∧ 0 < m ∧ m ≤ 11 ∧ Below w.heap.size w w' := by
 refine (rnum_big N w (by omega)).mono ?_
 rintro e w' ⟨⟨g, m, c', rfl, hm, ho⟩, hb⟩
 have hl := uv_length N
 obtain ⟨A, c, e2, hbs⟩ := BS.of_own ho (by unfold lim; omega)
 cases e2
 exact ⟨_, m, _, rfl, hbs, by omega, by omega, hb⟩
inductive It44 where
 | sm (s : List UInt8)
 | it (n : Nat)
 | ct (n : Nat)
def itC : It44 → List Value
 | .sm s => vaC 6 0 s 0
 | .it n => vaC 2 (n : Int) [] 0
 | .ct n => vaC 7 (n : Int) [] 0
def itE : It44 → List UInt8
 | .sm s => s
 | .it n => uv (2 * n)
 | .ct n => uv n
def ItOk : It44 → Prop
 | .sm s => s.length = 32
 | .it n => n < 4611686018427387904
 | .ct n => n < 4611686018427387904
theorem itC_len (x : It44) : (itC x).length = 6 := by cases x <;> rfl
end Go.Proofs.YtheijpjfpaghfaaGreatDoor
/- ref01.Encode: its walk. -/
namespace Go.Proofs.YtheijpjfpaghfaaGreatDoor
open Go Go.RowKit Gf Sha

set_option maxRecDepth 100000 in
set_option maxHeartbeats 4000000 in
theorem rencode_any (w : World) (A : Option Addr) (n c : Nat) (L : List It44) (h : RW w 100 6 (.slice A n c) n (L.flatMap itC)) (hL : L.length = n) (hok : ∀ x ∈ L, ItOk x) (hl : (L.flatMap itE).length ≤ 1000000) (hn : n ≤ 1000000) :
  Calls Tryz.prog 56 #[.slice A n c] w fun e w' => ∃ A' m c', e = .returned (.tuple #[.slice A' m c', .int .i64 0]) ∧ BS w' A' m c' (L.flatMap itE) ∧ Below w.heap.size w w' := by
 have HROW := Lib.hid h
 have HN := Lib.hid hL
 have HOK := Lib.hid hok
 have HLN : Hid (∀ k, ((L.take k).flatMap itE).length ≤ 1000000) := Lib.hid (fun k => by
  have h9 := congrArg (fun l => (l.flatMap itE).length) (List.take_append_drop k L)
  simp only [List.flatMap_append, List.length_append] at h9
  omega)
 clear h hL hok hl
 go_enter Tryz.func56, Tryz.ntmps56
 go_wp2_with (first
  | ((with_reducible show OpW 7); refine wpList_bslice _ rfl 22 5 0 _ rfl #[] (by rw [List.map_toArray]; rfl) [] (bsl0 _) ?_; intro w1 a1 a2 a3; have HO1 := Lib.hid a1; have HB1 := Lib.hid a2; clear a1 a2 a3))
 go_loopw [4, 5] (fun ov iv wr => ∃ (k mo : Nat), k ≤ n ∧ iv = .int .i64 (k : Int) ∧ Hid (((L.take k).flatMap itE).length = mo) ∧ Hid (RW wr 5 1 ov mo (((L.take k).flatMap itE).map B)) ∧ Hid (∀ q, ov.ownBlock = some q → w.heap.size ≤ q) ∧ Hid (Below w.heap.size w wr)) (fun _ iv _ => n - (intOf iv).toNat)
 case atStart => exact ⟨0, 0, by omega, rfl, Lib.hid rfl, Lib.hid (RW.of_blk (l := []) HO1.out rfl (by decide)), Lib.hid (fun q e => by cases e; exact Nat.le_refl _), HB1⟩
 case round =>
  obtain ⟨k, mo, hk, rfl, hm, hov, hown, hb⟩ := hrel
  obtain ⟨wx, hwx⟩ : ∃ x, x = wr := ⟨_, rfl⟩
  rw [← hwx] at hov hb ⊢
  clear hwx
  have hmo : mo ≤ 1000000 := by rw [← hm.out]; exact HLN.out k
  obtain ⟨Ao, co, eo, _⟩ := hov.out.form
  subst eo
  by_cases hlt : k < n
  ·
   have hkl : k < L.length := by rw [HN.out]; exact hlt
   obtain ⟨g', o', c', e, _, hat⟩ := HROW.out.at_ (by omega)
   cases e
   obtain ⟨x, hx⟩ : ∃ x, x = L[k] := ⟨_, rfl⟩
   have HAT := Lib.hid ((At.elem (f := itC) itC_len hat hkl).kept hb.out)
   rw [← hx] at HAT
   have HTK : Hid ((L.take (k + 1)).flatMap itE = (L.take k).flatMap itE ++ itE x) := Lib.hid (by rw [List.take_succ_eq_append_getElem hkl, ← hx, List.flatMap_append]; simp)
   have HXK := Lib.hid (HOK.out x (by rw [hx]; exact List.getElem_mem hkl))
   clear hat hx
   cases x with
   | sm s =>
    have HS32 : Hid (s.length = 32) := Lib.hid HXK.out
    have e1 : (strB s).size = 32 := by rw [strB_size]; exact HXK.out
    have HAT : Hid (At wx g' (o' + k * 6) (vaC 6 0 s 0)) := Lib.hid HAT.out
    clear HXK
    go_wp2_with (first
     | ((with_reducible show OpW 17); refine wpList_loadv _ rfl 100 (.tmp 16) rfl 6 (by kernel_rfl) g' (o' + k * 6) (vaC 6 0 s 0) (by go_simp) HAT.out rfl ?_)
     | ((with_reducible show OpW 6); refine wpList_alloc _ rfl 100 rfl (vaC 0 0 [] 0) vaZero ?_; intro y1 a1 a2 a3; have HE1 := Lib.hid a1; have HX1 := Lib.hid a2; clear a1 a2 a3)
     | ((with_reducible show OpN); refine wpList_storev _ rfl 100 (.tmp 6) (.tmp 17) rfl 6 (by kernel_rfl) wx.heap.size 0 _ (vaC 0 0 [] 0) (vaC 6 0 s 0) rfl rfl HE1.out rfl (one_val _ rfl) (by decide) ?_; intro y2 a1 a2 a3; have HE2 : Hid (BL y2 wx.heap.size 100 (vaC 6 0 s 0)) := Lib.hid a1; have HX2 : Hid (Below wx.heap.size wx y2) := Lib.hid (low_own HX1.out a2 (fun i hi e => by omega)); have q0 := HE2.out.get (j := 0) rfl; have q2 := HE2.out.get (j := 2) rfl; have q4 := HE2.out.get (j := 4) rfl; have HO2 := Lib.hid (hov.out.kept HX2.out); clear a1 a2 a3)
     | ((with_reducible show OpW 67); refine wpList_appRS _ rfl (.tmp 64) (.tmp 66) rfl _ mo _ rfl HO2.out s rfl (by have := HS32.out; omega) (by have := HS32.out; omega) ?_; intro v6 w6 ap; have HAP := Lib.hid ap; clear ap))
    go_roundw
    case rel =>
     refine ⟨k + 1, mo + s.length, by omega, by go_num, Lib.hid (by rw [HTK.out, List.length_append, hm.out]; exact congrArg _ rfl), Lib.hid ?_, Lib.hid (fun q e => (HAP.out.own q e).elim (hown.out q) (fun h => by have := hb.out.size; have := HX2.out.size; omega)), Lib.hid (low_own (below_thenB hb.out hb.out.size HX2.out) HAP.out.kp (fun j hj e => by have := hown.out j e; omega))⟩
     have h9 := HAP.out.row
     rw [HTK.out, List.map_append]
     exact h9
    case measure => simp [intOf]; omega
   | it z =>
    have HZ : Hid (z < 4611686018427387904) := Lib.hid HXK.out
    have HAT : Hid (At wx g' (o' + k * 6) (vaC 2 (z : Int) [] 0)) := Lib.hid HAT.out
    clear HXK
    go_wp2_with (first
     | ((with_reducible show OpW 17); refine wpList_loadv _ rfl 100 (.tmp 16) rfl 6 (by kernel_rfl) g' (o' + k * 6) (vaC 2 (z : Int) [] 0) (by go_simp) HAT.out rfl ?_)
     | ((with_reducible show OpW 6); refine wpList_alloc _ rfl 100 rfl (vaC 0 0 [] 0) vaZero ?_; intro y1 a1 a2 a3; have HE1 := Lib.hid a1; have HX1 := Lib.hid a2; clear a1 a2 a3)
     | ((with_reducible show OpN); refine wpList_storev _ rfl 100 (.tmp 6) (.tmp 17) rfl 6 (by kernel_rfl) wx.heap.size 0 _ (vaC 0 0 [] 0) (vaC 2 (z : Int) [] 0) rfl rfl HE1.out rfl (one_val _ rfl) (by decide) ?_; intro y2 a1 a2 a3; have HE2 : Hid (BL y2 wx.heap.size 100 (vaC 2 (z : Int) [] 0)) := Lib.hid a1; have HX2 : Hid (Below wx.heap.size wx y2) := Lib.hid (low_own HX1.out a2 (fun i hi e => by omega)); have q0 := HE2.out.get (j := 0) rfl; have q2 := HE2.out.get (j := 2) rfl; have q4 := HE2.out.get (j := 4) rfl; have HO2 := Lib.hid (hov.out.kept HX2.out); clear a1 a2 a3)
     | (go_at_call 82; refine (rzig_any z HZ.out y2).mono ?_; rintro e y3 ⟨rfl, hw⟩; rw [hw]; clear hw)
     | (go_at_call 81; refine (rnum_bs (2 * z) y2 (by have := HZ.out; omega)).mono ?_; rintro e y4 ⟨A4, m4, c4, rfl, r1, r2, r3, r4⟩; have HB4 := Lib.hid r1; have HM4 := Lib.hid (And.intro r2 r3); have HX4 := Lib.hid (below_thenB HX2.out HX2.out.size r4); have HO4 := Lib.hid (HO2.out.kept r4); clear r1 r2 r3 r4)
     | ((with_reducible show OpW 34); refine wpList_appRB _ rfl (.tmp 29) (.tmp 33) rfl _ mo _ rfl HO4.out A4 m4 c4 _ rfl HB4.out HM4.out.1 (by have := HM4.out; omega) ?_; intro v6 w6 ap; have HAP := Lib.hid ap; clear ap))
    go_roundw
    case rel =>
     refine ⟨k + 1, mo + m4, by omega, by go_num, Lib.hid (by rw [HTK.out, List.length_append, hm.out]; exact congrArg _ HB4.out.1), Lib.hid ?_, Lib.hid (fun q e => (HAP.out.own q e).elim (hown.out q) (fun h => by have := hb.out.size; have := HX4.out.size; omega)), Lib.hid (low_own (below_thenB hb.out hb.out.size HX4.out) HAP.out.kp (fun j hj e => by have := hown.out j e; omega))⟩
     have h9 := HAP.out.row
     rw [HTK.out, List.map_append]
     exact h9
    case measure => simp [intOf]; omega
   | ct z =>
    have HZ : Hid (z < 4611686018427387904) := Lib.hid HXK.out
    have HAT : Hid (At wx g' (o' + k * 6) (vaC 7 (z : Int) [] 0)) := Lib.hid HAT.out
    have f1 : decide ((z : Int) < 0) = false := decide_eq_false (by omega)
    have f2 : IntKind.u64.wrap (z : Int) = (z : Int) := by have := HXK.out; show (z : Int) % 18446744073709551616 = _; have h9 : z < 4611686018427387904 := HZ.out; omega
    clear HXK
    go_wp2_with (first
     | ((with_reducible show OpW 17); refine wpList_loadv _ rfl 100 (.tmp 16) rfl 6 (by kernel_rfl) g' (o' + k * 6) (vaC 7 (z : Int) [] 0) (by go_simp) HAT.out rfl ?_)
     | ((with_reducible show OpW 6); refine wpList_alloc _ rfl 100 rfl (vaC 0 0 [] 0) vaZero ?_; intro y1 a1 a2 a3; have HE1 := Lib.hid a1; have HX1 := Lib.hid a2; clear a1 a2 a3)
     | ((with_reducible show OpN); refine wpList_storev _ rfl 100 (.tmp 6) (.tmp 17) rfl 6 (by kernel_rfl) wx.heap.size 0 _ (vaC 0 0 [] 0) (vaC 7 (z : Int) [] 0) rfl rfl HE1.out rfl (one_val _ rfl) (by decide) ?_; intro y2 a1 a2 a3; have HE2 : Hid (BL y2 wx.heap.size 100 (vaC 7 (z : Int) [] 0)) := Lib.hid a1; have HX2 : Hid (Below wx.heap.size wx y2) := Lib.hid (low_own HX1.out a2 (fun i hi e => by omega)); have q0 := HE2.out.get (j := 0) rfl; have q2 := HE2.out.get (j := 2) rfl; have q4 := HE2.out.get (j := 4) rfl; have HO2 := Lib.hid (hov.out.kept HX2.out); clear a1 a2 a3)
     | (go_at_call 81; refine (rnum_bs z y2 (by have := HZ.out; omega)).mono ?_; rintro e y4 ⟨A4, m4, c4, rfl, r1, r2, r3, r4⟩; have HB4 := Lib.hid r1; have HM4 := Lib.hid (And.intro r2 r3); have HX4 := Lib.hid (below_thenB HX2.out HX2.out.size r4); have HO4 := Lib.hid (HO2.out.kept r4); clear r1 r2 r3 r4)
     | ((with_reducible show OpW 78); refine wpList_appRB _ rfl (.tmp 73) (.tmp 77) rfl _ mo _ rfl HO4.out A4 m4 c4 _ rfl HB4.out HM4.out.1 (by have := HM4.out; omega) ?_; intro v6 w6 ap; have HAP := Lib.hid ap; clear ap))
    go_roundw
    case rel =>
     refine ⟨k + 1, mo + m4, by omega, by go_num, Lib.hid (by rw [HTK.out, List.length_append, hm.out]; exact congrArg _ HB4.out.1), Lib.hid ?_, Lib.hid (fun q e => (HAP.out.own q e).elim (hown.out q) (fun h => by have := hb.out.size; have := HX4.out.size; omega)), Lib.hid (low_own (below_thenB hb.out hb.out.size HX4.out) HAP.out.kp (fun j hj e => by have := hown.out j e; omega))⟩
     have h9 := HAP.out.row
     rw [HTK.out, List.map_append]
     exact h9
    case measure => simp [intOf]; omega
  ·
   obtain rfl : k = n := by omega
   have HFIN : Hid (L.take k = L) := Lib.hid (by rw [← HN.out, List.take_length])
   rw [HFIN.out] at hm hov
   have f1 : decide ((1048576 : Int) < (mo : Int)) = false := decide_eq_false (by omega)
   go_wp2_with fail
   go_ret2
   exact ⟨_, _, _, rfl, BS.of_rw hov.out (by unfold lim; omega), hb.out⟩
end Go.Proofs.YtheijpjfpaghfaaGreatDoor
