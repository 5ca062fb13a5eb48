/- Several texts in one: Ch, Ci, Cj, Ck. -/
import Derived.Test.YtboglaokdgnpaaaA10
import Derived.Laws.StructEq
/- The reference's Find and IsHeld. -/
namespace Go.Proofs.Ytboglaokdgnpaaa
open Go Go.RowKit Gf Sha

theorem results_at2 {P : Program} (w : World) {t : TypeId} {n : Nat} {fn : Func} {p q : Tmp} (hf : fn.results = #[.cell p t, .tmp q]) (h : Agg P t n = true) {tmps : Array Value} {g o : Nat} {ms : List Value} (hp : tmps.getD p undef = .pointer (some ⟨g, o, none⟩)) (hm : At w g o ms) (hn : ms.length = n) :
  (results fn tmps).run P w = .ok (.tuple #[.agg ms.toArray, tmps.getD q undef]) w := by
 have hp' : tmps[p]?.getD undef = .pointer (some ⟨g, o, none⟩) := by simpa using hp
 simp [results, hf, hp', asAddr, run_loadVar_at w h hm hn]

def spE : Sp := ⟨[], 0, 0, 0, 0, []⟩
/-- The stripe with an ID. -/
def findS (x : Si) (id : List UInt8) : Option Sp := x.sp.find? fun s => s.id == id
theorem find_step {α : Type} {l : List α} {p : α → Bool} {k : Nat} {x : α} (h : l[k]? = some x) (h1 : (l.take k).any p = false) (h2 : p x = true) : l.find? p = some x := by
 have hk := (List.getElem?_eq_some_iff.1 h)
 have h3 : l.take (k + 1) = l.take k ++ [x] := take_next h
 rw [← List.take_append_drop (k + 1) l, h3, List.append_assoc, List.find?_append]
 have h4 : (l.take k).find? p = none := List.find?_eq_none.2 fun y hy => by
  have := List.any_eq_false.1 h1 y hy
  simpa using this
 rw [h4]
 simp [h2]
theorem find_end {α : Type} {l : List α} {p : α → Bool} (h1 : l.any p = false) : l.find? p = none := List.find?_eq_none.2 fun y hy => by
 have := List.any_eq_false.1 h1 y hy
 simpa using this
theorem rSp_spE (w : World) : rSp w spZ spE := ⟨none, 0, 0, rfl, LS.nil, by simp [spE], rfl, rfl, rfl, rfl⟩
def FindR (x : Si) (id : List UInt8) (w : World) (e : Ending) (w' : World) : Prop :=
 ∃ cs, e = .returned (.tuple #[.agg cs.toArray, .bool (findS x id).isSome]) ∧ rSp w' cs ((findS x id).getD spE) ∧ Below w.heap.size w w'

set_option maxRecDepth 100000 in
set_option maxHeartbeats 2000000 in
theorem find_any (cx : List Value) (x : Si) (id : List UInt8) (w : World) (hx : rSi w cx x) :
  Calls Try.prog 66 #[.agg cx.toArray, .string (strB id)] w (FindR x id w) := by
 obtain ⟨a0, n0, c0, a1, n1, c1, a2, n2, c2, a3, n3, c3, a4, n4, c4, a5, n5, c5, rfl, hq⟩ := hx
 have hn := hq.sp.len_le
 have H := Lib.hid hq
 have HL := Lib.hid hq.sp.1
 clear hq
 go_enter Try.func66, Try.ntmps66
 go_wp2_with (first
  | ((with_reducible show OpW 2); refine wpList_box _ rfl 26 (.tmp 0) rfl (siC a0 n0 c0 a1 n1 c1 a2 n2 c2 a3 n3 c3 a4 n4 c4 a5 n5 c5 x.pct) rfl ?_; intro w1 a1 a2 a3; have HB1 := Lib.hid a2; have HS1 := Lib.hid a1; clear a1 a2 a3)
  | ((with_reducible show OpW 4); refine wpList_alloc _ rfl 61 rfl spZ spZero ?_; intro w2 a1 a2 a3; have HT2 := Lib.hid a1; have HB2 := Lib.hid (below_then HB1.out a2); have q0 := (HS1.out.kept a2).get (j := 0) rfl; clear a1 a2 a3))
 clear q0
 go_loopw [11] (fun iv wr => ∃ k : Nat, k ≤ n0 ∧ iv = .int .i64 (k : Int) ∧ Hid ((x.sp.take k).any (fun s => s.id == id) = false) ∧ Hid (Below w2.heap.size w2 wr)) (fun iv _ => n0 - (intOf iv).toNat)
 case atStart => exact ⟨0, by omega, rfl, Lib.hid rfl, Lib.hid (Below.refl _ _)⟩
 case round =>
  obtain ⟨k, hk, rfl, hall, hb⟩ := hrel
  obtain ⟨wx, hwx⟩ : ∃ x, x = wr := ⟨_, rfl⟩
  rw [← hwx] at hb ⊢
  clear hwx
  have HBx := Lib.hid (below_thenB HB2.out HB2.out.size hb.out)
  by_cases hlt : k < n0
  ·
   obtain ⟨s, g, o, cs, hs, rfl, hat, hsp⟩ := H.out.sp.at_ stay_sp (Below.refl _ _) hlt
   have HSP := Lib.hid hsp
   obtain ⟨A, m, c, rfl, _⟩ := hsp
   have HX := Lib.hid hs
   have HA := Lib.hid (hat.kept HBx.out)
   clear hs hat
   by_cases hs : s.id = id
   ·
    have es : ((strB s.id).toList == (strB id).toList) = true := by rw [strB_eq]; exact decide_eq_true hs
    have HR : Hid (findS x id = some s) := Lib.hid (find_step HX.out hall.out (by simpa using hs))
    clear hs
    go_wp2_with (first
     | ((with_reducible show OpW 14); refine wpList_loadv _ rfl 61 (.tmp 13) rfl 6 (by kernel_rfl) g (o + k * 6) (spC s A m c) (by go_simp) HA.out rfl ?_)
     | ((with_reducible show OpW 7); refine wpList_alloc _ rfl 61 rfl spZ spZero ?_; intro w3 a1 a2 a3; have HV3 := Lib.hid a1; have HX3 := Lib.hid a2; clear a1 a2 a3)
     | ((with_reducible show OpN); refine wpList_storev _ rfl 61 (.tmp 7) (.tmp 14) rfl 6 (by kernel_rfl) wx.heap.size 0 _ spZ (spC s A m c) rfl rfl HV3.out rfl (one_sp s A m c) (by decide) ?_; intro w4 a1 a2 a3; have HV4 : Hid (BL w4 wx.heap.size 61 (spC s A m c)) := Lib.hid a1; have HX4 : Hid (Below wx.heap.size wx w4) := Lib.hid (((Kp.of_below (S := fun _ => False) HX3.out).after a2 (fun i hi e => by omega)).below (Nat.le_refl _) (fun _ h => h.elim)); clear a1 a2 a3; have r0 := HV4.out.get (j := 0) rfl; have HT4 := Lib.hid (HT2.out.kept (below_thenB hb.out hb.out.size HX4.out)); have HB4 := Lib.hid (below_thenB HB2.out HB2.out.size (below_thenB hb.out hb.out.size HX4.out)))
     | ((with_reducible show OpW 19); refine wpList_loadv _ rfl 61 (.tmp 7) rfl 6 (by kernel_rfl) wx.heap.size 0 (spC s A m c) rfl (BL.all HV4.out) rfl ?_)
     | ((with_reducible show OpN); refine wpList_storev _ rfl 61 (.tmp 4) (.tmp 19) rfl 6 (by kernel_rfl) w1.heap.size 0 _ spZ (spC s A m c) rfl rfl HT4.out rfl (one_sp s A m c) (by decide) ?_; intro w5 a1 a2 a3; have HT5 := Lib.hid a1; have HB5 : Hid (Below w.heap.size w w5) := Lib.hid (((Kp.of_below (S := fun _ => False) HB4.out).after a2 (fun i hi e => by have := HB1.out.size; omega)).below (Nat.le_refl _) (fun _ h => h.elim)); clear a1 a2 a3))
    (try simp only [Exit.inBlock, Exit.then])
    refine bodyPost_ret (results_at2 w5 Try.results66 (n := 6) (by kernel_rfl) (g := w1.heap.size) (o := 0) rfl (ms := spC s A m c) (BL.all HT5.out) rfl) rfl ⟨spC s A m c, by rw [HR.out]; rfl, ?_, HB5.out⟩
    rw [HR.out]
    exact stay_sp _ _ _ _ HSP.out HB5.out
   ·
    have es : ((strB s.id).toList == (strB id).toList) = false := by rw [strB_eq]; exact decide_eq_false hs
    have HR : Hid ((x.sp.take (k + 1)).any (fun s => s.id == id) = false) := Lib.hid (any_step HX.out hall.out (by simpa using hs))
    clear hs
    go_wp2_with (first
     | ((with_reducible show OpW 14); refine wpList_loadv _ rfl 61 (.tmp 13) rfl 6 (by kernel_rfl) g (o + k * 6) (spC s A m c) (by go_simp) HA.out rfl ?_)
     | ((with_reducible show OpW 7); refine wpList_alloc _ rfl 61 rfl spZ spZero ?_; intro w3 a1 a2 a3; have HV3 := Lib.hid a1; have HX3 := Lib.hid a2; clear a1 a2 a3)
     | ((with_reducible show OpN); refine wpList_storev _ rfl 61 (.tmp 7) (.tmp 14) rfl 6 (by kernel_rfl) wx.heap.size 0 _ spZ (spC s A m c) rfl rfl HV3.out rfl (one_sp s A m c) (by decide) ?_; intro w4 a1 a2 a3; have HV4 : Hid (BL w4 wx.heap.size 61 (spC s A m c)) := Lib.hid a1; have HX4 : Hid (Below wx.heap.size wx w4) := Lib.hid (((Kp.of_below (S := fun _ => False) HX3.out).after a2 (fun i hi e => by omega)).below (Nat.le_refl _) (fun _ h => h.elim)); clear a1 a2 a3; have r0 := HV4.out.get (j := 0) rfl)
     | fail)
    go_roundw
    case rel => exact ⟨k + 1, by omega, by go_num, HR, Lib.hid (below_thenB hb.out hb.out.size HX4.out)⟩
    case measure => simp [intOf]; omega
  ·
   obtain rfl : k = n0 := by omega
   have HR : Hid (findS x id = none) := Lib.hid (find_end (by have := hall.out; rw [take_end HL.out] at this; exact this))
   have HTx := Lib.hid (HT2.out.kept hb.out)
   go_wp2_with (first
    | ((with_reducible show OpW 21); refine wpList_build _ rfl 61 #[] rfl #[] rfl (.agg spZ.toArray) (by kernel_rfl) ?_)
    | ((with_reducible show OpN); refine wpList_storev _ rfl 61 (.tmp 4) (.tmp 21) rfl 6 (by kernel_rfl) w1.heap.size 0 _ spZ spZ rfl rfl HTx.out rfl (one_val _ rfl) (by decide) ?_; intro w5 a1 a2 a3; have HT5 := Lib.hid a1; have HB5 : Hid (Below w.heap.size w w5) := Lib.hid (((Kp.of_below (S := fun _ => False) HBx.out).after a2 (fun i hi e => by have := HB1.out.size; omega)).below (Nat.le_refl _) (fun _ h => h.elim)); clear a1 a2 a3))
   (try simp only [Exit.inBlock, Exit.then])
   refine bodyPost_ret (results_at2 w5 Try.results66 (n := 6) (by kernel_rfl) (g := w1.heap.size) (o := 0) rfl (ms := spZ) (BL.all HT5.out) rfl) rfl ⟨spZ, by rw [HR.out]; rfl, ?_, HB5.out⟩
   rw [HR.out]
   exact rSp_spE _
end Go.Proofs.Ytboglaokdgnpaaa
/- Pieces and refs compared; the reference's IsHeld. -/
namespace Go.Proofs.Ytboglaokdgnpaaa
open Go Go.RowKit Gf Sha

def heldB (x : Si) (p : Pc) : Bool := x.held.any fun h => h == p
theorem eqIn_pc (p q : Pc) (w : World) : (Op.equalIn 10000 39 (.agg (pcL p).toArray) (.agg (pcL q).toArray)).run Try.prog w = .ok (decide (p = q)) w := by
 rw [run_equalIn_agg _ _ _ _ _ (by kernel_rfl) (by kernel_rfl)]
 go_simp
 rw [strB_list, strB_list]
 obtain ⟨a, b⟩ := p
 obtain ⟨c, d⟩ := q
 by_cases h1 : a = c <;> by_cases h2 : b = d <;> simp [h1, h2]
theorem eqIn_rf (p q : Rf) (w : World) : (Op.equalIn 10000 73 (.agg (rfL p).toArray) (.agg (rfL q).toArray)).run Try.prog w = .ok (decide (p = q)) w := by
 rw [run_equalIn_agg _ _ _ _ _ (by kernel_rfl) (by kernel_rfl)]
 go_simp
 rw [strB_list, strB_list]
 obtain ⟨a, b, e⟩ := p
 obtain ⟨c, d, f⟩ := q
 by_cases h1 : a = c <;> by_cases h2 : b = d <;> by_cases h3 : e = f <;> simp [h1, h2, h3]

set_option maxRecDepth 100000 in
set_option maxHeartbeats 2000000 in
theorem isheld_any (cx : List Value) (x : Si) (p : Pc) (w : World) (hx : rSi w cx x) :
  Calls Try.prog 64 #[.agg cx.toArray, .agg (pcL p).toArray] w fun e w' => e = .returned (.bool (heldB x p)) ∧ Below w.heap.size w w' := by
 obtain ⟨a0, n0, c0, a1, n1, c1, a2, n2, c2, a3, n3, c3, a4, n4, c4, a5, n5, c5, rfl, hq⟩ := hx
 have hn := hq.held.len_le
 have H := Lib.hid hq
 have HL := Lib.hid hq.held.1
 clear hq
 go_enter Try.func64, Try.ntmps64
 go_wp2_with (first
  | ((with_reducible show OpW 2); refine wpList_box _ rfl 26 (.tmp 0) rfl (siC a0 n0 c0 a1 n1 c1 a2 n2 c2 a3 n3 c3 a4 n4 c4 a5 n5 c5 x.pct) rfl ?_; intro w1 a1 a2 a3; have HB1 := Lib.hid a2; have HS1 := Lib.hid a1; clear a1 a2 a3)
  | ((with_reducible show OpW 3); refine wpList_box _ rfl 39 (.tmp 1) rfl (pcL p) rfl ?_; intro w2 a1 a2 a3; have HP2 := Lib.hid a1; have HB2 := Lib.hid (below_then HB1.out a2); have q5 := (HS1.out.kept a2).get (j := 5) rfl; clear a1 a2 a3))
 clear q5
 go_loopw [10] (fun iv wr => ∃ k : Nat, k ≤ n5 ∧ iv = .int .i64 (k : Int) ∧ Hid ((x.held.take k).any (fun h => h == p) = false) ∧ Hid (Below w2.heap.size w2 wr)) (fun iv _ => n5 - (intOf iv).toNat)
 case atStart => exact ⟨0, by omega, rfl, Lib.hid rfl, Lib.hid (Below.refl _ _)⟩
 case round =>
  obtain ⟨k, hk, rfl, hall, hb⟩ := hrel
  obtain ⟨wx, hwx⟩ : ∃ x, x = wr := ⟨_, rfl⟩
  rw [← hwx] at hb ⊢
  clear hwx
  have HBx := Lib.hid (below_thenB HB2.out HB2.out.size hb.out)
  by_cases hlt : k < n5
  ·
   obtain ⟨h, g, o, cs, hs, rfl, hat, rfl, _⟩ := H.out.held.at_ stay_pc (Below.refl _ _) hlt
   have HX := Lib.hid hs
   have HA := Lib.hid (hat.kept HBx.out)
   clear hs hat
   by_cases hs : h = p
   ·
    have HR : Hid (heldB x p = true) := Lib.hid (any_hit HX.out (by simpa using hs))
    have er : ∀ w, (Op.equalIn 10000 39 (.agg (pcL h).toArray) (.agg (pcL p).toArray)).run Try.prog w = .ok true w := fun w => by rw [eqIn_pc, decide_eq_true hs]
    clear hs
    go_wp2_with (first
     | ((with_reducible show OpW 13); refine wpList_loadv _ rfl 39 (.tmp 12) rfl 2 (by kernel_rfl) g (o + k * 2) (pcL h) (by go_simp) HA.out rfl ?_)
     | ((with_reducible show OpW 6); refine wpList_alloc _ rfl 39 rfl pcZ pcZero ?_; intro w3 a1 a2 a3; have HV3 := Lib.hid a1; have HX3 := Lib.hid a2; clear a1 a2 a3)
     | ((with_reducible show OpN); refine wpList_storev _ rfl 39 (.tmp 6) (.tmp 13) rfl 2 (by kernel_rfl) wx.heap.size 0 _ pcZ (pcL h) rfl rfl HV3.out rfl (one_pc h) (by decide) ?_; intro w4 a1 a2 a3; have HV4 : Hid (BL w4 wx.heap.size 39 (pcL h)) := Lib.hid a1; have HX4 : Hid (Below wx.heap.size wx w4) := Lib.hid (((Kp.of_below (S := fun _ => False) HX3.out).after a2 (fun i hi e => by omega)).below (Nat.le_refl _) (fun _ h => h.elim)); clear a1 a2 a3; have HP4 := Lib.hid (HP2.out.kept (below_thenB hb.out hb.out.size HX4.out)))
     | ((with_reducible show OpW 14); refine wpList_loadv _ rfl 39 (.tmp 6) rfl 2 (by kernel_rfl) wx.heap.size 0 (pcL h) rfl (BL.all HV4.out) rfl ?_)
     | ((with_reducible show OpW 15); refine wpList_loadv _ rfl 39 (.tmp 3) rfl 2 (by kernel_rfl) w1.heap.size 0 (pcL p) rfl (BL.all HP4.out) rfl ?_)
     | fail)
    go_ret
    exact ⟨ret_bool HR.out.symm, below_thenB HBx.out HBx.out.size HX4.out⟩
   ·
    have HR : Hid ((x.held.take (k + 1)).any (fun h => h == p) = false) := Lib.hid (any_step HX.out hall.out (by simpa using hs))
    have er : ∀ w, (Op.equalIn 10000 39 (.agg (pcL h).toArray) (.agg (pcL p).toArray)).run Try.prog w = .ok false w := fun w => by rw [eqIn_pc, decide_eq_false hs]
    clear hs
    go_wp2_with (first
     | ((with_reducible show OpW 13); refine wpList_loadv _ rfl 39 (.tmp 12) rfl 2 (by kernel_rfl) g (o + k * 2) (pcL h) (by go_simp) HA.out rfl ?_)
     | ((with_reducible show OpW 6); refine wpList_alloc _ rfl 39 rfl pcZ pcZero ?_; intro w3 a1 a2 a3; have HV3 := Lib.hid a1; have HX3 := Lib.hid a2; clear a1 a2 a3)
     | ((with_reducible show OpN); refine wpList_storev _ rfl 39 (.tmp 6) (.tmp 13) rfl 2 (by kernel_rfl) wx.heap.size 0 _ pcZ (pcL h) rfl rfl HV3.out rfl (one_pc h) (by decide) ?_; intro w4 a1 a2 a3; have HV4 : Hid (BL w4 wx.heap.size 39 (pcL h)) := Lib.hid a1; have HX4 : Hid (Below wx.heap.size wx w4) := Lib.hid (((Kp.of_below (S := fun _ => False) HX3.out).after a2 (fun i hi e => by omega)).below (Nat.le_refl _) (fun _ h => h.elim)); clear a1 a2 a3; have HP4 := Lib.hid (HP2.out.kept (below_thenB hb.out hb.out.size HX4.out)))
     | ((with_reducible show OpW 14); refine wpList_loadv _ rfl 39 (.tmp 6) rfl 2 (by kernel_rfl) wx.heap.size 0 (pcL h) rfl (BL.all HV4.out) rfl ?_)
     | ((with_reducible show OpW 15); refine wpList_loadv _ rfl 39 (.tmp 3) rfl 2 (by kernel_rfl) w1.heap.size 0 (pcL p) rfl (BL.all HP4.out) rfl ?_)
     | fail)
    go_roundw
    case rel => exact ⟨k + 1, by omega, by go_num, HR, Lib.hid (below_thenB hb.out hb.out.size HX4.out)⟩
    case measure => simp [intOf]; omega
  ·
   obtain rfl : k = n5 := by omega
   go_wp2_with fail
   go_ret
   exact ⟨ret_bool (by have := hall.out; rw [take_end HL.out] at this; exact this.symm), HBx.out⟩
end Go.Proofs.Ytboglaokdgnpaaa
/- The reference's Ref (a valid ref). -/
namespace Go.Proofs.Ytboglaokdgnpaaa
open Go Go.RowKit Gf Sha

/-- A valid ref. -/
def rfB (r : Rf) : Bool := decide (r.1.length = 32) && (decide (0 ≤ r.2.1) && (decide (0 ≤ r.2.2) && decide (r.2.2 ≤ 32768)))
set_option maxHeartbeats 1000000 in
theorem rref_any (r : Rf) (w : World) :
  Calls Try.prog 113 #[.agg (rfL r).toArray] w fun e w' => e = .returned (.bool (rfB r)) ∧ Below w.heap.size w w' := by
 by_cases h1 : r.1.length = 32
 ·
  have e1 : (((strB r.1).size : Int) == 32) = true := by rw [strB_size, h1]; rfl
  by_cases h2 : 0 ≤ r.2.1
  ·
   have e2 : decide (0 ≤ r.2.1) = true := decide_eq_true h2
   by_cases h3 : 0 ≤ r.2.2
   ·
    have e3 : decide (0 ≤ r.2.2) = true := decide_eq_true h3
    have HR : Hid (rfB r = decide (r.2.2 ≤ 32768)) := Lib.hid (by rw [rfB, decide_eq_true h1, e2, e3]; rfl)
    clear h1 h2 h3
    go_enter Try.func113, Try.ntmps113
    go_wp2_with (first
     | ((with_reducible show OpW 1); refine wpList_box _ rfl 73 (.tmp 0) rfl (rfL r) rfl ?_; intro w1 a1 a2 a3; have HB1 := Lib.hid a2; have q0 := a1.get (j := 0) rfl; have q1 := a1.get (j := 1) rfl; have q2 := a1.get (j := 2) rfl; clear a1 a2 a3)
     | fail)
    go_ret
    exact ⟨ret_bool HR.out.symm, HB1.out⟩
   ·
    have e3 : decide (0 ≤ r.2.2) = false := decide_eq_false h3
    have HR : Hid (rfB r = false) := Lib.hid (by rw [rfB, decide_eq_true h1, e2, e3]; rfl)
    clear h1 h2 h3
    go_enter Try.func113, Try.ntmps113
    go_wp2_with (first
     | ((with_reducible show OpW 1); refine wpList_box _ rfl 73 (.tmp 0) rfl (rfL r) rfl ?_; intro w1 a1 a2 a3; have HB1 := Lib.hid a2; have q0 := a1.get (j := 0) rfl; have q1 := a1.get (j := 1) rfl; have q2 := a1.get (j := 2) rfl; clear a1 a2 a3)
     | fail)
    go_ret
    exact ⟨ret_bool HR.out.symm, HB1.out⟩
  ·
   have e2 : decide (0 ≤ r.2.1) = false := decide_eq_false h2
   have HR : Hid (rfB r = false) := Lib.hid (by rw [rfB, decide_eq_true h1, e2]; rfl)
   clear h1 h2
   go_enter Try.func113, Try.ntmps113
   go_wp2_with (first
    | ((with_reducible show OpW 1); refine wpList_box _ rfl 73 (.tmp 0) rfl (rfL r) rfl ?_; intro w1 a1 a2 a3; have HB1 := Lib.hid a2; have q0 := a1.get (j := 0) rfl; have q1 := a1.get (j := 1) rfl; have q2 := a1.get (j := 2) rfl; clear a1 a2 a3)
    | fail)
   go_ret
   exact ⟨ret_bool HR.out.symm, HB1.out⟩
 ·
  have e1 : (((strB r.1).size : Int) == 32) = false := by rw [strB_size, beq_eq_false_iff_ne]; omega
  have HR : Hid (rfB r = false) := Lib.hid (by rw [rfB, decide_eq_false h1]; rfl)
  clear h1
  go_enter Try.func113, Try.ntmps113
  go_wp2_with (first
   | ((with_reducible show OpW 1); refine wpList_box _ rfl 73 (.tmp 0) rfl (rfL r) rfl ?_; intro w1 a1 a2 a3; have HB1 := Lib.hid a2; have q0 := a1.get (j := 0) rfl; have q1 := a1.get (j := 1) rfl; have q2 := a1.get (j := 2) rfl; clear a1 a2 a3)
   | fail)
  go_ret
  exact ⟨ret_bool HR.out.symm, HB1.out⟩
end Go.Proofs.Ytboglaokdgnpaaa
/- The reference's Refs: valid, of different names. -/
namespace Go.Proofs.Ytboglaokdgnpaaa
open Go Go.RowKit Gf Sha
section
variable {α β : Type} [BEq β] {p : α → Bool} {f : α → β} {l : List α} {k j : Nat} {x y : α}
def okAt (p : α → Bool) (f : α → β) (l : List α) (k : Nat) : Bool := match l[k]? with
 | none => false
 | some x => p x && !(l.take k).any fun y => f y == f x
/-- Every element is right, and its name is none of those before. -/
def okB (p : α → Bool) (f : α → β) (l : List α) : Bool := (List.range l.length).all (okAt p f l)
theorem ok_lt (h : l[k]? = some x) : k < l.length := (List.getElem?_eq_some_iff.1 h).1
theorem ok_bad (h : l[k]? = some x) (h1 : p x = false) : okB p f l = false := List.all_eq_false.2 ⟨k, List.mem_range.2 (ok_lt h), by simp [okAt, h, h1]⟩
theorem ok_twice [LawfulBEq β] (h : l[k]? = some x) (hj : l[j]? = some y) (hjk : j < k) (e : f y = f x) : okB p f l = false := List.all_eq_false.2 ⟨k, List.mem_range.2 (ok_lt h), by
 have : ((l.take k).any fun y => f y == f x) = true := any_hit (k := j) (x := y) (by rw [List.getElem?_take_of_lt hjk]; exact hj) (by simpa using e)
 simp [okAt, h, this]⟩
theorem ok_hit (h : l[k]? = some x) (h1 : p x = true) (h2 : ((l.take k).any fun y => f y == f x) = false) : okAt p f l k = true := by simp only [okAt, h, h1, h2]; rfl
theorem ok_all (h : ∀ k, k < l.length → okAt p f l k = true) : okB p f l = true := List.all_eq_true.2 fun k hk => h k (List.mem_range.1 hk)
end

abbrev rfN (r : Rf) : List UInt8 := r.1
set_option maxRecDepth 100000 in
set_option maxHeartbeats 2000000 in
theorem rrefs_any (A : Option Addr) (n c : Nat) (l : List Rf) (w : World) (hl : LS rRf 3 32 w A n c l) :
  Calls Try.prog 99 #[.slice A n c] w fun e w' => e = .returned (.bool (okB rfB rfN l)) ∧ Below w.heap.size w w' := by
 have hn := hl.len_le
 have H := Lib.hid hl
 have HL := Lib.hid hl.1
 clear hl
 go_enter Try.func99, Try.ntmps99
 go_wp2_with fail
 go_loopw [8] (fun iv wr => ∃ k : Nat, k ≤ n ∧ iv = .int .i64 (k : Int) ∧ Hid (∀ j, j < k → okAt rfB rfN l j = true) ∧ Hid (Below w.heap.size w wr)) (fun iv _ => n - (intOf iv).toNat)
 case atStart => exact ⟨0, by omega, rfl, Lib.hid (fun j hj => absurd hj (by omega)), Lib.hid (Below.refl _ _)⟩
 case round =>
  obtain ⟨k, hk, rfl, hall, hb⟩ := hrel
  obtain ⟨wx, hwx⟩ : ∃ x, x = wr := ⟨_, rfl⟩
  rw [← hwx] at hb ⊢
  clear hwx
  by_cases hlt : k < n
  ·
   obtain ⟨x, g, o, cs, hs, rfl, hat, hr⟩ := H.out.at_ stay_rf (Below.refl _ _) hlt
   have HR := Lib.hid hr
   obtain ⟨rfl, _⟩ := hr
   have HX := Lib.hid hs
   have HA := Lib.hid (hat.kept hb.out)
   clear hs hat
   cases h1 : rfB x with
   | false =>
    have HF : Hid (okB rfB rfN l = false) := Lib.hid (ok_bad HX.out h1)
    go_wp2_with (first
     | ((with_reducible show OpW 12); refine wpList_loadv _ rfl 73 (.tmp 11) rfl 3 (by kernel_rfl) g (o + k * 3) (rfL x) (by go_simp) HA.out rfl ?_)
     | ((with_reducible show OpW 4); refine wpList_alloc _ rfl 73 rfl rfZ rfZero ?_; intro w3 a1 a2 a3; have HV3 := Lib.hid a1; have HX3 := Lib.hid a2; clear a1 a2 a3)
     | ((with_reducible show OpN); refine wpList_storev _ rfl 73 (.tmp 4) (.tmp 12) rfl 3 (by kernel_rfl) wx.heap.size 0 _ rfZ (rfL x) rfl rfl HV3.out rfl (one_rf x) (by decide) ?_; intro w4 a1 a2 a3; have HV4 : Hid (BL w4 wx.heap.size 73 (rfL x)) := Lib.hid a1; have HX4 : Hid (Below wx.heap.size wx w4) := Lib.hid (((Kp.of_below (S := fun _ => False) HX3.out).after a2 (fun i hi e => by omega)).below (Nat.le_refl _) (fun _ h => h.elim)); clear a1 a2 a3)
     | ((with_reducible show OpW 13); refine wpList_loadv _ rfl 73 (.tmp 4) rfl 3 (by kernel_rfl) wx.heap.size 0 (rfL x) rfl (BL.all HV4.out) rfl ?_)
     | (go_at_call 113; refine (rref_any x _).mono ?_; rintro e w5 ⟨rfl, b5⟩; rw [h1]; have HX5 := Lib.hid (below_then HX4.out b5); clear b5))
    go_ret
    exact ⟨ret_bool HF.out.symm, below_thenB hb.out hb.out.size HX5.out⟩
   | true =>
    go_wp2_with (first
     | ((with_reducible show OpW 12); refine wpList_loadv _ rfl 73 (.tmp 11) rfl 3 (by kernel_rfl) g (o + k * 3) (rfL x) (by go_simp) HA.out rfl ?_)
     | ((with_reducible show OpW 4); refine wpList_alloc _ rfl 73 rfl rfZ rfZero ?_; intro w3 a1 a2 a3; have HV3 := Lib.hid a1; have HX3 := Lib.hid a2; clear a1 a2 a3)
     | ((with_reducible show OpN); refine wpList_storev _ rfl 73 (.tmp 4) (.tmp 12) rfl 3 (by kernel_rfl) wx.heap.size 0 _ rfZ (rfL x) rfl rfl HV3.out rfl (one_rf x) (by decide) ?_; intro w4 a1 a2 a3; have HV4 : Hid (BL w4 wx.heap.size 73 (rfL x)) := Lib.hid a1; have HX4 : Hid (Below wx.heap.size wx w4) := Lib.hid (((Kp.of_below (S := fun _ => False) HX3.out).after a2 (fun i hi e => by omega)).below (Nat.le_refl _) (fun _ h => h.elim)); clear a1 a2 a3)
     | ((with_reducible show OpW 13); refine wpList_loadv _ rfl 73 (.tmp 4) rfl 3 (by kernel_rfl) wx.heap.size 0 (rfL x) rfl (BL.all HV4.out) rfl ?_)
     | (go_at_call 113; refine (rref_any x _).mono ?_; rintro e w5 ⟨rfl, b5⟩; rw [h1]; have HX5 := Lib.hid (below_then HX4.out b5); have HV5 := Lib.hid (HV4.out.kept b5); clear b5))
    have HB5 := Lib.hid (below_thenB hb.out hb.out.size HX5.out)
    go_loopw [5] (fun iv wr => ∃ j : Nat, j ≤ k ∧ iv = .int .i64 (j : Int) ∧ Hid (((l.take j).any fun y => rfN y == rfN x) = false) ∧ Hid (Below w5.heap.size w5 wr)) (fun iv _ => k - (intOf iv).toNat)
    case atStart => exact ⟨0, by omega, rfl, Lib.hid rfl, Lib.hid (Below.refl _ _)⟩
    case round =>
     obtain ⟨j, hj, rfl, hne, hb'⟩ := hrel
     have r0 : wr.cell? ⟨wx.heap.size, 0, none⟩ = some (.string (strB (rfN x))) := (HV5.out.kept hb'.out).get (j := 0) rfl
     have HB6 := Lib.hid (below_thenB HB5.out HB5.out.size hb'.out)
     by_cases hjk : j < k
     ·
      have hjn : j < n := by omega
      obtain ⟨y, g', o', cs', hs', e', hat', hr'⟩ := H.out.at_ stay_rf (Below.refl _ _) (show j < n by omega)
      cases e'
      obtain ⟨rfl, _⟩ := hr'
      have HY := Lib.hid hs'
      have q0 : wr.cell? ⟨g, o + j * 3, none⟩ = some (.string (strB (rfN y))) := (hat'.kept HB6.out) 0 _ rfl
      clear hs' hat'
      by_cases he : rfN y = rfN x
      ·
       have es : ((strB (rfN y)).toList == (strB (rfN x)).toList) = true := by rw [strB_eq]; exact decide_eq_true he
       have HF : Hid (okB rfB rfN l = false) := Lib.hid (ok_twice HX.out HY.out hjk he)
       clear he
       go_wp2_with fail
       refine Text.wp_region_text (fun _ => True) [(0, 4), (1, 4), (2, 4), (3, 4), (5, 4), (4, 1), (6, 1), (7, 4)] (by kernel_rfl) (by kernel_rfl) (fun _ _ _ _ _ h => h) (trivial) ?_
       iterate 5 (refine Text.purek rfl rfl (fun K hK => ⟨_, fun w' => by go_simp <;> rfl, ?_⟩); go_simp; refine hK _ ?_; clear hK K)
       iterate 2 (refine Text.readk rfl rfl (fun K hK => ⟨_, by go_simp <;> rfl, ?_⟩); go_simp; refine hK _ ?_; clear hK K)
       (refine Text.purek rfl rfl (fun K hK => ⟨_, fun w' => by go_simp <;> rfl, ?_⟩); go_simp; refine hK _ ?_; clear hK K)
       refine Text.done ?_
       go_wp2_with fail
       go_ret
       exact ⟨ret_bool HF.out.symm, HB6.out.drew⟩
      ·
       have es : ((strB (rfN y)).toList == (strB (rfN x)).toList) = false := by rw [strB_eq]; exact decide_eq_false he
       have HF : Hid (((l.take (j + 1)).any fun y => rfN y == rfN x) = false) := Lib.hid (any_step HY.out hne.out (by simpa using he))
       clear he
       go_wp2_with fail
       refine Text.wp_region_text (fun _ => True) [(0, 4), (1, 4), (2, 4), (3, 4), (5, 4), (4, 1), (6, 1), (7, 4)] (by kernel_rfl) (by kernel_rfl) (fun _ _ _ _ _ h => h) (trivial) ?_
       iterate 5 (refine Text.purek rfl rfl (fun K hK => ⟨_, fun w' => by go_simp <;> rfl, ?_⟩); go_simp; refine hK _ ?_; clear hK K)
       iterate 2 (refine Text.readk rfl rfl (fun K hK => ⟨_, by go_simp <;> rfl, ?_⟩); go_simp; refine hK _ ?_; clear hK K)
       (refine Text.purek rfl rfl (fun K hK => ⟨_, fun w' => by go_simp <;> rfl, ?_⟩); go_simp; refine hK _ ?_; clear hK K)
       refine Text.done ?_
       go_wp2_with fail
       go_roundw
       case rel => exact ⟨j + 1, by omega, by go_num, HF, Lib.hid hb'.out.drew⟩
       case measure => simp [intOf]; omega
     ·
      obtain rfl : j = k := by omega
      have HF : Hid (∀ i, i < j + 1 → okAt rfB rfN l i = true) := Lib.hid (fun i hi => by
       rcases Nat.lt_succ_iff_lt_or_eq.1 hi with h | rfl
       ·
        exact hall.out i h
       ·
        exact ok_hit HX.out h1 hne.out)
      go_wp2_with fail
      go_roundw
      case rel => exact ⟨j + 1, by omega, by go_num, HF, HB6⟩
      case measure => simp [intOf]; omega
  ·
   obtain rfl : k = n := by omega
   have HF : Hid (okB rfB rfN l = true) := Lib.hid (ok_all (by rw [HL.out]; exact hall.out))
   go_wp2_with fail
   go_ret
   exact ⟨ret_bool HF.out.symm, hb.out⟩
end Go.Proofs.Ytboglaokdgnpaaa
