/- Several texts in one: Hd, He. -/
import Derived.Test.YtheijpjfpaghfaaGreatDoorC27
import Derived.Maps.RangeRun
/- The order of piece IDs; slices.SortFunc of piece IDs. -/
namespace Go.Proofs.YtheijpjfpaghfaaGreatDoor
open Go Go.RowKit Go.Lib Go.Sort Gf Sha

theorem Compare_int (x y : Int) (w : World) : Calls Tryz.prog 39 #[.int .i64 x, .int .i64 y] w fun e w' => e = .returned (.int .i64 (compareInt x y)) ∧ w' = w := Tryz.cmp_Compare_int x y w
set_option maxRecDepth 100000 in
set_option maxHeartbeats 2000000 in
theorem or_int (x y : Int) (w : World) (g : Nat) (h : BL w g 3 [.int .i64 x, .int .i64 y]) :
  Calls Tryz.prog 37 #[.slice (some ⟨g, 0, none⟩) 2 2] w fun e w' => e = .returned (.int .i64 (if x = 0 then y else x)) ∧ w' = w := by
 have q0 := h.get (j := 0) rfl
 have q1 := h.get (j := 1) rfl
 by_cases h0 : x = 0
 ·
  rw [if_pos h0]
  have f0 : (x != 0) = false := by rw [h0]; rfl
  clear h h0
  by_cases h1 : y = 0
  ·
   have f1 : (y != 0) = false := by rw [h1]; rfl
   have HY := Lib.hid h1
   clear h1
   go_enter Tryz.func37, Tryz.ntmps37
   go_wp2_with fail
   go_loopw [8] (fun iv wr => w = wr ∧ ∃ k : Nat, k ≤ 2 ∧ iv = .int .i64 (k : Int)) (fun iv _ => 2 - (intOf iv).toNat)
   case atStart => exact ⟨rfl, 0, by omega, rfl⟩
   case round =>
    obtain ⟨rfl, k, hk, rfl⟩ := hrel
    rcases (show k = 0 ∨ k = 1 ∨ k = 2 by omega) with rfl | rfl | rfl
    ·
     go_wp2_with fail
     go_roundw
     case rel => exact ⟨trivial, 1, by omega, by go_num⟩
     case measure => simp [intOf]
    ·
     go_wp2_with fail
     go_roundw
     case rel => exact ⟨trivial, 2, by omega, by go_num⟩
     case measure => simp [intOf]
    ·
     go_wp2_with fail
     go_ret
     exact ⟨by rw [HY.out]; rfl, rfl⟩
  ·
   have f1 : (y != 0) = true := by rw [bne_iff_ne]; exact h1
   clear h1
   go_enter Tryz.func37, Tryz.ntmps37
   go_wp2_with fail
   go_loopw [8] (fun iv wr => w = wr ∧ ∃ k : Nat, k ≤ 1 ∧ iv = .int .i64 (k : Int)) (fun iv _ => 2 - (intOf iv).toNat)
   case atStart => exact ⟨rfl, 0, by omega, rfl⟩
   case round =>
    obtain ⟨rfl, k, hk, rfl⟩ := hrel
    rcases (show k = 0 ∨ k = 1 by omega) with rfl | rfl
    ·
     go_wp2_with fail
     go_roundw
     case rel => exact ⟨trivial, 1, by omega, by go_num⟩
     case measure => simp [intOf]
    ·
     go_wp2_with fail
     go_ret
     exact ⟨rfl, rfl⟩
 ·
  rw [if_neg h0]
  have f0 : (x != 0) = true := by rw [bne_iff_ne]; exact h0
  clear h h0
  go_enter Tryz.func37, Tryz.ntmps37
  go_wp2_with fail
  go_loopw [8] (fun iv wr => w = wr ∧ iv = .int .i64 0) (fun iv _ => 2 - (intOf iv).toNat)
  case atStart => exact ⟨rfl, rfl⟩
  case round =>
   obtain ⟨rfl, rfl⟩ := hrel
   go_wp2_with fail
   go_ret
   exact ⟨rfl, rfl⟩
section
variable {P : Program} {o : Oper} {a : Act}
theorem exec_bsl {t : TypeId} {n : Nat} {parts : Array (Nat × Operand)} (hop : o.op = .buildSlice t n parts) {ps : Array (Nat × Value)} (hps : (parts.map fun (i, x) => (i, a.eval x)) = ps) {v : Value} {w w' : World}
  (hr : (Instr.buildSlice t n ps).run P w = .ok v w') : (execOp a.eval o).run P w = .ok (.value v) w' := by
 unfold execOp
 simp only [hop, hps]
 simp [hr, Result.andThen]
end
/-- Strings compare. -/
def cmpS (a b : List UInt8) : Int := if a < b then -1 else if b < a then 1 else 0
theorem isNaN_str (x : List UInt8) (w : World) : Calls Tryz.prog 73 #[.string (strB x)] w fun e w' => e = .returned (.bool false) ∧ w' = w := by
 have e0 : ((strB x).toList == (strB x).toList) = true := by simp
 go_enter Tryz.func73, Tryz.ntmps73
 go_wp2_with fail
 go_ret
 exact ⟨rfl, rfl⟩
theorem less_strB (x y : List UInt8) : Op.bytesLess (strB x).toList (strB y).toList = decide (x < y) := by
 rw [strB_list, strB_list, bytesLess_eq]
set_option maxHeartbeats 1000000 in
theorem Compare_str (x y : List UInt8) (w : World) : Calls Tryz.prog 38 #[.string (strB x), .string (strB y)] w fun e w' => e = .returned (.int .i64 (cmpS x y)) ∧ w' = w := by
 have e1 := less_strB x y
 have e3 := strB_eq x y
 by_cases h1 : x < y
 ·
  rw [decide_eq_true h1] at e1
  rw [cmpS, if_pos h1]
  clear h1 e3
  go_enter Tryz.func38, Tryz.ntmps38
  go_wp2_with (first
   | (go_at_call 73; (with_reducible show Calls _ _ #[.string (strB x)] _ _); refine (isNaN_str x _).mono ?_; rintro e w1 ⟨rfl, hw⟩; rw [hw]; clear hw w1)
   | (go_at_call 73; refine (isNaN_str y _).mono ?_; rintro e w1 ⟨rfl, hw⟩; rw [hw]; clear hw w1))
  go_ret
  exact ⟨rfl, rfl⟩
 ·
  rw [decide_eq_false h1] at e1
  by_cases h2 : y < x
  ·
   have h3 : ¬ x = y := fun e => by rw [e] at h2; exact List.lt_irrefl _ h2
   rw [decide_eq_false h3] at e3
   rw [cmpS, if_neg h1, if_pos h2]
   clear h1 h2 h3
   go_enter Tryz.func38, Tryz.ntmps38
   go_wp2_with (first
    | (go_at_call 73; (with_reducible show Calls _ _ #[.string (strB x)] _ _); refine (isNaN_str x _).mono ?_; rintro e w1 ⟨rfl, hw⟩; rw [hw]; clear hw w1)
    | (go_at_call 73; refine (isNaN_str y _).mono ?_; rintro e w1 ⟨rfl, hw⟩; rw [hw]; clear hw w1))
   go_ret
   exact ⟨rfl, rfl⟩
  ·
   have h3 : x = y := by
    rcases List.le_iff_lt_or_eq.1 (List.not_lt.1 h1) with h | h
    ·
     exact absurd h h2
    ·
     exact h.symm
   rw [decide_eq_true h3] at e3
   rw [cmpS, if_neg h1, if_neg h2]
   clear h1 h2 h3
   go_enter Tryz.func38, Tryz.ntmps38
   go_wp2_with (first
    | (go_at_call 73; (with_reducible show Calls _ _ #[.string (strB x)] _ _); refine (isNaN_str x _).mono ?_; rintro e w1 ⟨rfl, hw⟩; rw [hw]; clear hw w1)
    | (go_at_call 73; refine (isNaN_str y _).mono ?_; rintro e w1 ⟨rfl, hw⟩; rw [hw]; clear hw w1))
   go_ret
   exact ⟨rfl, rfl⟩
abbrev Pid := List UInt8 × Int
def pidC (x : Pid) : List Value := [.string (strB x.1), .int .i64 x.2]
theorem pidC_len (x : Pid) : (pidC x).length = 2 := rfl
theorem one_pid (x : Pid) : ∀ v ∈ pidC x, v.oneCell' = true := one_val _ rfl
theorem pids_len (l : List Pid) : (l.flatMap pidC).length = l.length * 2 := flat_length pidC_len l
/-- How two piece IDs compare. -/
def cfI (p q : Pid) : Int := if cmpS p.1 q.1 = 0 then compareInt p.2 q.2 else cmpS p.1 q.1
theorem bslI2 (x y : Int) (w : World) : (Instr.buildSlice 61 2 #[(0, .int .i64 x), (1, .int .i64 y)]).run Tryz.prog w = .ok (.slice (some ⟨w.heap.size, 0, none⟩) 2 2) (w.alloc (.cells [.int .i64 x, .int .i64 y].toArray 3)) := by kernel_rfl
set_option maxRecDepth 100000 in
set_option maxHeartbeats 4000000 in
theorem less_any (x y : Pid) (W : World) :
  Calls Tryz.prog 78 #[.agg (pidC x).toArray, .agg (pidC y).toArray] W fun e w' => e = .returned (.int .i64 (cfI x y)) ∧ ∃ q os', w' = grow (W.drewN q) os' := by
 obtain ⟨r1, h1⟩ : ∃ r, r = cmpS x.1 y.1 := ⟨_, rfl⟩
 obtain ⟨r2, h2⟩ : ∃ r, r = compareInt x.2 y.2 := ⟨_, rfl⟩
 have H1 := Lib.hid h1
 have H2 := Lib.hid h2
 obtain ⟨r3, h3⟩ : ∃ r, r = (if r1 = 0 then r2 else r1) := ⟨_, rfl⟩
 have H3 := Lib.hid h3
 have HC : Hid (cfI x y = r3) := Lib.hid (by rw [cfI, ← h1, ← h2, h3])
 clear h1 h2 h3
 have g1 : BL (W.alloc (.cells (pidC x).toArray 39)) W.heap.size 39 (pidC x) := BL.new W _ _
 have g2 : BL ((W.alloc (.cells (pidC x).toArray 39)).alloc (.cells (pidC y).toArray 39)) (W.heap.size + 1) 39 (pidC y) := by
  have h9 := BL.new (W.alloc (.cells (pidC x).toArray 39)) 39 (pidC y)
  rwa [show (W.alloc (.cells (pidC x).toArray 39)).heap.size = W.heap.size + 1 by simp] at h9
 have G1 := Lib.hid (g1.alloc (.cells (pidC y).toArray 39))
 have G2 := Lib.hid g2
 clear g1 g2
 go_enter Tryz.func78, Tryz.ntmps78
 go_wp2_with fail
 obtain ⟨W2, hW2⟩ : ∃ w, w = (W.alloc (.cells (pidC x).toArray 39)).alloc (.cells (pidC y).toArray 39) := ⟨_, rfl⟩
 rw [← hW2] at G1 G2 ⊢
 have HW2 := Lib.hid hW2
 clear hW2
 have HS : Hid (W2.drew.cell? ⟨W.heap.size, 0, none⟩ = some (.string (strB x.1)) ∧ W2.drew.cell? ⟨W.heap.size, 1, none⟩ = some (.int .i64 x.2) ∧ W2.drew.cell? ⟨W.heap.size + 1, 0, none⟩ = some (.string (strB y.1)) ∧ W2.drew.cell? ⟨W.heap.size + 1, 1, none⟩ = some (.int .i64 y.2)) := Lib.hid
  ⟨G1.out.get (j := 0) rfl, G1.out.get (j := 1) rfl, G2.out.get (j := 0) rfl, G2.out.get (j := 1) rfl⟩
 refine Text.wp_region_text (fun w' => w'.cell? ⟨W.heap.size, 0, none⟩ = some (.string (strB x.1)) ∧ w'.cell? ⟨W.heap.size, 1, none⟩ = some (.int .i64 x.2) ∧ w'.cell? ⟨W.heap.size + 1, 0, none⟩ = some (.string (strB y.1)) ∧ w'.cell? ⟨W.heap.size + 1, 1, none⟩ = some (.int .i64 y.2)) [(0, 4), (2, 4), (5, 4), (7, 4), (1, 0), (3, 0), (6, 0), (8, 0), (4, 2), (9, 2), (10, 2), (11, 2), (12, 4)] (by kernel_rfl) (by kernel_rfl) (fun _ _ _ _ _ h => h) (HS.out) ?_
 iterate 4 (refine Text.purek rfl rfl (fun K hK => ⟨_, fun w' => by go_simp <;> rfl, ?_⟩); go_simp; refine hK _ ?_; clear hK K)
 iterate 4 (refine Text.heldk rfl rfl (fun K hK => ⟨_, fun w' hw' => by go_simp <;> rfl, ?_⟩); go_simp; refine hK _ ?_; clear hK K)
 refine Text.eff rfl rfl (fun K hK => ?_)
 go_simp
 refine (Compare_str x.1 y.1 _).mono ?_
 rintro e w3 ⟨rfl, hw⟩
 rw [hw, ← H1.out]
 clear hw w3
 refine hK _ _ HS.out ?_
 clear hK K
 refine Text.eff rfl rfl (fun K hK => ?_)
 go_simp
 refine (Compare_int x.2 y.2 _).mono ?_
 rintro e w3 ⟨rfl, hw⟩
 rw [hw, ← H2.out]
 clear hw w3
 refine hK _ _ HS.out ?_
 clear hK K
 refine Text.eff rfl rfl (fun K hK => ?_)
 refine Text.bag_run (show (execOp _ _).run Tryz.prog W2.drew = .ok (.value _) _ from exec_bsl rfl (ps := #[(0, .int .i64 r1), (1, .int .i64 r2)]) (by rw [List.map_toArray]; rfl) (bslI2 r1 r2 _)) ?_
 have HA : Hid (BL (W2.drew.alloc (.cells [.int .i64 r1, .int .i64 r2].toArray 3)) W2.drew.heap.size 3 [.int .i64 r1, .int .i64 r2]) := Lib.hid (BL.new _ _ _)
 have HS3 : Hid ((W2.drew.alloc (.cells [.int .i64 r1, .int .i64 r2].toArray 3)).cell? ⟨W.heap.size, 0, none⟩ = some (.string (strB x.1)) ∧ (W2.drew.alloc (.cells [.int .i64 r1, .int .i64 r2].toArray 3)).cell? ⟨W.heap.size, 1, none⟩ = some (.int .i64 x.2) ∧ (W2.drew.alloc (.cells [.int .i64 r1, .int .i64 r2].toArray 3)).cell? ⟨W.heap.size + 1, 0, none⟩ = some (.string (strB y.1)) ∧ (W2.drew.alloc (.cells [.int .i64 r1, .int .i64 r2].toArray 3)).cell? ⟨W.heap.size + 1, 1, none⟩ = some (.int .i64 y.2)) := Lib.hid
  ⟨(G1.out.drew.alloc _).get (j := 0) rfl, (G1.out.drew.alloc _).get (j := 1) rfl, (G2.out.drew.alloc _).get (j := 0) rfl, (G2.out.drew.alloc _).get (j := 1) rfl⟩
 refine hK _ _ HS3.out ?_
 clear hK K
 refine Text.eff rfl rfl (fun K hK => ?_)
 go_simp
 refine (or_int r1 r2 _ _ HA.out).mono ?_
 rintro e w3 ⟨rfl, hw⟩
 rw [hw, ← H3.out]
 clear hw w3
 refine hK _ _ HS3.out ?_
 clear hK K
 (refine Text.purek rfl rfl (fun K hK => ⟨_, fun w' => by go_simp <;> rfl, ?_⟩); go_simp; refine hK _ ?_; clear hK K)
 refine Text.done ?_
 go_wp2_with fail
 go_ret
 rw [HC.out]
 exact ⟨rfl, 1, _, by rw [HW2.out, alloc_eq_grow, alloc_eq_grow, alloc_eq_grow, drew_grow, drew_grow, grow_grow, grow_grow]; rfl⟩
/-- Is a piece ID ahead of another? -/
def ltI (p q : Pid) : Bool := decide (p.1 < q.1) || (p.1 == q.1 && decide (p.2 < q.2))
theorem ltI_iff (p q : Pid) : ltI p q = true ↔ p.1 < q.1 ∨ (p.1 = q.1 ∧ p.2 < q.2) := by
 simp [ltI]
theorem cf_lt (p q : Pid) : decide (cfI p q < 0) = ltI p q := by
 apply Bool.eq_iff_iff.2
 rw [decide_eq_true_eq, ltI_iff]
 unfold cfI cmpS compareInt
 by_cases h1 : p.1 < q.1
 ·
  simp [h1]
 ·
  by_cases h2 : q.1 < p.1
  ·
   have h3 : ¬ p.1 = q.1 := fun e => by rw [e] at h2; exact List.lt_irrefl _ h2
   simp [h1, h2, h3]
  ·
   have h3 : p.1 = q.1 := by
    rcases List.le_iff_lt_or_eq.1 (List.not_lt.1 h1) with h | h
    ·
     exact absurd h h2
    ·
     exact h.symm
   by_cases h4 : p.2 < q.2
   ·
    simp [h3, h4, List.lt_irrefl]
   ·
    by_cases h5 : q.2 < p.2 <;> simp [h3, h4, h5, List.lt_irrefl]
theorem ltI_irr (p : Pid) : ltI p p = false := by
 rw [← Bool.not_eq_true, ltI_iff]
 rintro (h | h)
 ·
  exact List.lt_irrefl _ h
 ·
  omega
theorem ltI_tr {p q r : Pid} (h1 : ltI p q = true) (h2 : ltI q r = true) : ltI p r = true := by
 rw [ltI_iff] at *
 rcases h1 with h1 | ⟨h1, h1'⟩ <;> rcases h2 with h2 | ⟨h2, h2'⟩
 ·
  exact .inl (List.lt_trans h1 h2)
 ·
  rw [← h2]; exact .inl h1
 ·
  rw [h1]; exact .inl h2
 ·
  exact .inr ⟨h1.trans h2, by omega⟩
theorem ltI_tot {p q : Pid} (h1 : ltI p q = false) (h2 : ltI q p = false) : p = q := by
 rw [← Bool.not_eq_true, ltI_iff] at *
 have e : p.1 = q.1 := by
  rcases List.le_iff_lt_or_eq.1 (List.not_lt.1 (fun h => h1 (.inl h))) with h | h
  ·
   exact absurd (.inl h) h2
  ·
   exact h.symm
 have e2 : p.2 = q.2 := by
  have h3 : ¬ p.2 < q.2 := fun h => h1 (.inr ⟨e, h⟩)
  have h4 : ¬ q.2 < p.2 := fun h => h2 (.inr ⟨e.symm, h⟩)
  omega
 exact Prod.ext e e2
theorem swoI : SWO (ltOf fun x y : Pid => cfI x y) := by
 have e : ∀ x y : Pid, ltOf (fun x y : Pid => cfI x y) x y = ltI x y := fun x y => cf_lt _ _
 refine ⟨fun x => ?_, fun x y z h1 h2 => ?_, fun x y z h1 h2 => ?_⟩
 ·
  rw [e]; exact ltI_irr x
 ·
  rw [e] at *; exact ltI_tr h1 h2
 ·
  rw [e] at *
  cases h : ltI x z with
  | false => rfl
  | true =>
   exfalso
   cases h3 : ltI y x with
   | true => rw [ltI_tr h3 h] at h2; cases h2
   | false => rw [ltI_tot h1 h3] at h; rw [h] at h2; cases h2
theorem pidAgg (w : World) : (isAgg 39).run Tryz.prog w = .ok true w := agg_isAgg w (show Agg Tryz.prog 39 2 = true by kernel_rfl)
theorem pidSize (w : World) : (sizeOf 39).run Tryz.prog w = .ok 2 w := agg_size w (show Agg Tryz.prog 39 2 = true by kernel_rfl)
theorem flatK_flat (vs : List Pid) : flatK pidC 2 vs.toArray = (vs.flatMap pidC).toArray := by
 apply Array.ext
 ·
  rw [size_flatK, List.size_toArray, List.size_toArray, pids_len]
 ·
  intro i h1 h2
  rw [size_flatK] at h1
  have h1' : i < vs.length * 2 := by simpa using h1
  have h3 : i / 2 < vs.length := by omega
  have h4 := get_flatK pidC 2 vs.toArray i (by simpa using h1)
  rw [getElem!_pos _ i (by rw [size_flatK]; exact h1)] at h4
  rw [h4]
  have h5 : (vs.toArray)[i / 2]! = vs[i / 2] := by rw [getElem!_pos _ _ (by simpa using h3)]; simp
  rw [h5]
  have h6 := flat_split (f := pidC) vs (i / 2) h3
  have h7 : i % 2 < (pidC vs[i / 2]).length := by rw [pidC_len]; omega
  rw [getElem!_pos (pidC vs[i / 2]) (i % 2) h7]
  have h8 : (vs.flatMap pidC)[i]? = some ((pidC vs[i / 2])[i % 2]) := by
   rw [h6, List.append_assoc, List.getElem?_append_right (by rw [pids_len, List.length_take]; omega), List.getElem?_append_left (by rw [pids_len, List.length_take, pidC_len]; omega), pids_len, List.length_take, Nat.min_eq_left (by omega), show i - i / 2 * 2 = i % 2 by omega, List.getElem?_eq_getElem h7]
  have h9 : i < (vs.flatMap pidC).length := by rw [pids_len]; exact h1'
  rw [List.getElem?_eq_getElem h9] at h8
  injection h8 with h8
  simp [h8]
theorem putCells_sz {α : Type} [Inhabited α] (enc : α → Value) (o : Nat) (d : Array α) (cur : Array Value) : (putCells enc o d cur).size = cur.size := by simp [putCells]
theorem putCells_id (cur : Array Value) (o : Nat) (ts : List Value) (h : o + ts.length ≤ cur.size) : ((putCells id o ts.toArray cur).toList.drop o).take ts.length = ts := by
 apply List.ext_getElem?
 intro i
 by_cases hi : i < ts.length
 ·
  rw [List.getElem?_take_of_lt hi, List.getElem?_drop]
  have h1 : o + i < cur.size := by omega
  have h2 : (putCells id o ts.toArray cur)[o + i]? = some ts[i] := by
   rw [putCells, Array.getElem?_mapIdx, Array.getElem?_eq_getElem h1]
   simp [show o + i < o + ts.length by omega, hi]
  rw [Array.getElem?_toList, h2, List.getElem?_eq_getElem hi]
 ·
  rw [List.getElem?_eq_none (by rw [List.length_take]; omega), List.getElem?_eq_none (by omega)]
/-- The row of a list behind a sort. -/
theorem RW.putK {w : World} {te : TypeId} {g o n c s : Nat} {l ts : List Value} {os : Array Obj} {q : Nat} (h : RW w te s (.slice (some ⟨g, o, none⟩) n c) n l) (hl : ts.length = n * s) :
  RW (grow (putRow id (Sort.ahead w q) g o ts.toArray) os) te s (.slice (some ⟨g, o, none⟩) n c) n ts ∧ Kp (· = g) w (grow (putRow id (Sort.ahead w q) g o ts.toArray) os) := by
 rcases h.2 with ⟨e, _⟩ | ⟨g', o', c', cs, e, hb, h1, h2, h3, h4⟩
 ·
  cases e
 ·
  cases e
  have h5 : n * s ≤ c * s := Nat.mul_le_mul_right _ h1
  have hsz : o + ts.length ≤ cs.toArray.size := by simp; omega
  have hgl := hb.lt
  refine ⟨⟨hl, .inr ⟨g, o, c, (putCells id o ts.toArray cs.toArray).toList, rfl, ?_, h1, h2, ?_, ?_⟩⟩, ⟨rfl, rfl, rfl, by simp, fun k hk hne => ?_⟩⟩
  ·
   show (grow (putRow id (Sort.ahead w q) g o ts.toArray) os).heap[g]? = some _
   rw [heap_grow_old _ _ (by simpa using hgl)]
   have hb' : w.heap[g]? = some (.cells cs.toArray te) := hb
   simp [putRow, mapBlock, Sort.ahead, Array.getElem?_modify, hb', onCells]
  ·
   rw [Array.length_toList, putCells_sz]
   simpa using h3
  ·
   rw [← hl]
   exact putCells_id _ _ _ hsz
  ·
   rw [heap_grow_old _ _ (by simpa using hk)]
   have : g ≠ k := fun e => hne e.symm
   simp [putRow, mapBlock, Sort.ahead, Array.getElem?_modify, this]
/-- slices.SortFunc of piece IDs. -/
theorem sort_pid (v : Value) (l : List Pid) (w : World) (h : RW w 39 2 v l.length (l.flatMap pidC)) (hn : l.length < 1000000) :
  Calls Tryz.prog 77 #[v, .func (.func 78) #[] #[]] w fun e w' => e = .returned (.tuple #[]) ∧ ∃ l' : List Pid, l'.Perm l ∧ l'.Pairwise (fun x y => ltI y x = false) ∧ RW w' 39 2 v l.length (l'.flatMap pidC) ∧ Kp (fun b => v.ownBlock = some b) w w' := by
 have eg : ∀ args w, (callFunc 78 args).run Tryz.prog w = .ok (.enter 78 args) w := enters_of Tryz.func78 (by kernel_rfl) rfl
 rcases h.2 with ⟨rfl, h0⟩ | ⟨g, o, c, cs, rfl, hb, h1, h2, h3, h4⟩
 ·
  obtain rfl : l = [] := List.eq_nil_of_length_eq_zero h0
  refine (Tryz.slices_SortFunc_none (α := Pid) none 0 _ w).mono ?_
  rintro e w' ⟨rfl, rfl⟩
  exact ⟨rfl, [], List.Perm.refl _, List.Pairwise.nil, h, Kp.refl _ _⟩
 ·
  have hH : HoldsK pidC 2 w g o l.toArray := by
   show Holds id w g o _
   rw [flatK_flat]
   intro j hj
   have hj' : j < (l.flatMap pidC).length := by simpa using hj
   refine ⟨?_, hb.frozen _⟩
   obtain ⟨u, h5⟩ : ∃ u, (l.flatMap pidC)[j]? = some u := ⟨_, List.getElem?_eq_getElem hj'⟩
   have h7 : (l.flatMap pidC).toArray[j]! = u := by rw [getElem!_def, List.getElem?_toArray, h5]
   rw [pids_len] at hj'
   rw [← h4, List.getElem?_take_of_lt hj', List.getElem?_drop] at h5
   have h6 := hb.get h5
   rw [h6, h7]
   rfl
  have hs := Tryz.slices_SortFunc 2 pidAgg pidSize pidC pidC_len one_pid (fun x y => cfI x y) swoI 78 #[] g o c l.toArray w eg (fun _ _ _ _ x y => less_any x y _) hH hb.lt (by simp; omega)
  rw [List.size_toArray] at hs
  refine hs.mono ?_
  rintro e w' ⟨rfl, d', n, os, hp, hso, rfl⟩
  obtain ⟨p1, p2, p3⟩ := hp
  rw [List.size_toArray] at p1
  have hperm : d'.toList.Perm l := by
   have h9 := p3
   have a1 : d'.extract 0 l.length = d' := by
    have h8 := Array.extract_size (xs := d')
    rwa [show d'.size = l.length by simpa using p1] at h8
   have a2 : l.toArray.extract 0 l.length = l.toArray := by
    have h8 := Array.extract_size (xs := l.toArray)
    rwa [show l.toArray.size = l.length by simp] at h8
   rw [a1, a2] at h9
   exact h9
  have hlen : d'.toList.length = l.length := hperm.length_eq
  have hput := h.putK (os := os) (q := n) (ts := d'.toList.flatMap pidC) (by rw [pids_len, hlen])
  have ew : sortWorldK pidC 2 w g o n d' os = grow (putRow id (Sort.ahead w n) g o (d'.toList.flatMap pidC).toArray) os := by
   rw [← flatK_flat, Array.toArray_toList]; rfl
  rw [ew]
  refine ⟨rfl, d'.toList, hperm, ?_, hput.1, hput.2.mono (fun k _ e => by rw [e]; rfl)⟩
  rw [List.pairwise_iff_getElem]
  intro i j hi hj hij
  have h9 := hso i j (Nat.zero_le _) hij (by omega)
  have e1 : ∀ k (hk : k < d'.toList.length), d'[k]! = d'.toList[k] := fun k hk => by rw [getElem!_pos d' k (by simpa using hk)]; simp
  rw [e1 i hi, e1 j hj, show ltOf (fun x y : Pid => cfI x y) d'.toList[j] d'.toList[i] = ltI d'.toList[j] d'.toList[i] from cf_lt _ _] at h9
  exact h9
end Go.Proofs.YtheijpjfpaghfaaGreatDoor
/- Purses of many pieces in memory; a range over a map, entry by entry; New, size, Left. -/
namespace Go.Proofs.YtheijpjfpaghfaaGreatDoor
open Go Go.RowKit Go.ChangeMaps Go.MapKept Gf Sha

theorem setBlock_at {w : World} {r : Nat} (o : Obj) (h : r < w.heap.size) : (setBlock w r o).heap[r]? = some o := by
 show (w.heap.setIfInBounds r o)[r]? = some o
 simp [h]
theorem left_none {es : Array MapEntry} {seen : Array Nat} (h : (leftOf es seen).size = 0) : ∀ x ∈ es.toList, seen.contains x.born = true := fun x hx => by
 have h1 : leftOf es seen = #[] := Array.eq_empty_of_size_eq_zero h
 unfold leftOf at h1
 rw [Array.filter_eq_empty_iff] at h1
 have := h1 x (by simpa using hx)
 simpa using this
/-- The entries that came out so far, each with what it stands for. -/
structure Vis {α : Type} (Z : List (MapEntry × α)) (seen : Array Nat) (vl : List (MapEntry × α)) : Prop where
 sub : ∀ q ∈ vl, q ∈ Z
 born : ∀ n, seen.contains n = true ↔ ∃ q ∈ vl, q.1.born = n
 nd : vl.Nodup
theorem Vis.nil {α : Type} (Z : List (MapEntry × α)) : Vis Z #[] [] := ⟨fun _ h => (by cases h), fun n => by simp, List.nodup_nil⟩
theorem nodup_of_map {α β : Type} (f : α → β) {l : List α} (h : (l.map f).Nodup) : l.Nodup :=
 (List.pairwise_map.1 h).imp (fun h e => h (by rw [e]))
theorem born_inj {α : Type} {Z : List (MapEntry × α)} (h : (Z.map fun q => q.1.born).Nodup) {p q : MapEntry × α} (hp : p ∈ Z) (hq : q ∈ Z) (e : p.1.born = q.1.born) : p = q := by
 obtain ⟨i, hi, rfl⟩ := List.getElem_of_mem hp
 obtain ⟨j, hj, rfl⟩ := List.getElem_of_mem hq
 have hw := List.pairwise_iff_getElem.1 (show (Z.map fun q => q.1.born).Pairwise (· ≠ ·) from h)
 rcases Nat.lt_trichotomy i j with hlt | rfl | hlt
 ·
  exact absurd (by rw [List.getElem_map, List.getElem_map]; exact e) (hw i j (by simpa using hi) (by simpa using hj) hlt)
 ·
  rfl
 ·
  exact absurd (by rw [List.getElem_map, List.getElem_map]; exact e.symm) (hw j i (by simpa using hj) (by simpa using hi) hlt)
theorem nodup_len {α : Type} : ∀ {l m : List α}, l.Nodup → (∀ x ∈ l, x ∈ m) → l.length ≤ m.length
 | [], _, _, _ => Nat.zero_le _
 | x :: l, m, h, hs => by
  obtain ⟨a, b, rfl⟩ := List.append_of_mem (hs x (List.mem_cons_self ..))
  have h2 := List.nodup_cons.1 h
  have := nodup_len h2.2 (m := a ++ b) (fun y hy => by
   have h3 := hs y (List.mem_cons_of_mem _ hy)
   rcases List.mem_append.1 h3 with h4 | h4
   ·
    exact List.mem_append_left _ h4
   ·
    rcases List.mem_cons.1 h4 with h5 | h5
    ·
     rw [h5] at hy; exact absurd hy h2.1
    ·
     exact List.mem_append_right _ h5)
  simp only [List.length_append, List.length_cons] at *
  omega
/-- One step of a range over a map: it is at its end, or an entry comes out that had not come out. -/
theorem next_vis {α : Type} {P : Program} {es : Array MapEntry} {clock : Nat} {seen : Array Nat} {Z vl : List (MapEntry × α)} {w0 wy : World} {gm gr b0 : Nat} (hZ : Z.map (·.1) = es.toList) (hst : Stamped es clock)
  (hi : wy.heap[gr]? = some (.mapIter (some gm) clock seen clock)) (hm : wy.heap[gm]? = some (.map es clock)) (hne : gm ≠ gr) (hv : Vis Z seen vl) (hb : Below b0 w0 wy) (hs : b0 ≤ w0.heap.size) (hg : w0.heap.size ≤ gr) :
  (vl.Perm Z ∧ (Instr.next (.pointer (some ⟨gr, 0, none⟩)) false 0).run P wy = .ok (.tuple #[.bool false]) wy) ∨
  ∃ e x w2, (e, x) ∈ Z ∧ (Instr.next (.pointer (some ⟨gr, 0, none⟩)) false 0).run P wy = .ok (.tuple #[.bool true, e.key, e.val]) w2 ∧ (Instr.entry (.pointer (some ⟨gr, 0, none⟩))).run P w2 = .ok (.tuple #[e.key, e.val]) w2 ∧ w2.heap[gr]? = some (.mapIter (some gm) clock (seen.push e.born) clock) ∧ Below b0 w0 w2 ∧ Kp (fun b => b = gr) wy w2 ∧ w2.heap.size = wy.heap.size ∧ Vis Z (seen.push e.born) (vl ++ [(e, x)]) ∧ (leftOf es (w2.iterSeen gr)).size < (leftOf es (wy.iterSeen gr)).size := by
 have hnd : (Z.map fun q => q.1.born).Nodup := by
  have h9 := hst.2.1
  rw [← hZ, List.map_map] at h9
  exact h9
 have e1 : wy.iterSeen gr = seen := by unfold World.iterSeen; rw [hi]
 rcases run_next_at (P := P) wy 0 gr gm clock clock seen es clock hi hm hst.1 (Nat.le_refl _) with ⟨h0, hrun⟩ | ⟨e, he, wq, hq, hrun⟩
 ·
  refine .inl ⟨(List.perm_ext_iff_of_nodup hv.nd (nodup_of_map _ hnd)).2 (fun q => ⟨hv.sub q, fun hq => ?_⟩), hrun⟩
  have h1 : q.1 ∈ es.toList := by rw [← hZ]; exact List.mem_map.2 ⟨q, hq, rfl⟩
  obtain ⟨q', hq', e'⟩ := (hv.born _).1 (left_none h0 q.1 h1)
  rw [← born_inj hnd (hv.sub q' hq') hq e']
  exact hq'
 ·
  have hmem := mem_left he
  have hshr := left_shrinks es seen e he
  have h1 : e ∈ Z.map (·.1) := by rw [hZ]; exact hmem.1
  obtain ⟨⟨e', x⟩, hx, rfl⟩ := List.mem_map.1 h1
  have hgl : gr < wq.heap.size := by
   have h8 := (Array.getElem?_eq_some_iff.1 hi).1
   rcases hq with rfl | rfl <;> exact h8
  have hb2 : Below b0 w0 wq := by
   rcases hq with rfl | rfl
   ·
    exact hb
   ·
    exact hb.drew
  have hk : Kp (fun b => b = gr) wy wq := by
   rcases hq with rfl | rfl
   ·
    exact Kp.refl _ _
   ·
    exact (Kp.refl _ _).drew
  have hsz : wq.heap.size = wy.heap.size := by rcases hq with rfl | rfl <;> rfl
  have hi2 := setBlock_at (w := wq) (.mapIter (some gm) clock (seen.push e'.born) clock) hgl
  have hm2 : (setBlock wq gr (.mapIter (some gm) clock (seen.push e'.born) clock)).heap[gm]? = some (.map es clock) := by
   show (wq.heap.setIfInBounds gr _)[gm]? = _
   rw [Array.getElem?_setIfInBounds_ne (fun e => hne e.symm)]
   rcases hq with rfl | rfl <;> exact hm
  have hent := run_entry_at (P := P) _ gr gm clock seen es clock e' hi2 hm2 hmem.1 hst.2.1
  refine .inr ⟨e', x, _, hx, hrun, hent, hi2, ?_, ?_, by show (wq.heap.setIfInBounds _ _).size = _; rw [Array.size_setIfInBounds]; exact hsz, ⟨fun q hq9 => ?_, fun n => ?_, ?_⟩, ?_⟩
  ·
   have h9 := (Kp.setBlock (S := fun b => b0 ≤ b) (⟨hb2.os, hb2.tape, hb2.output, hb2.size, fun k hk1 hk2 => hb2.block k (Nat.lt_of_not_le hk2)⟩ : Kp (fun b => b0 ≤ b) w0 wq) (.mapIter (some gm) clock (seen.push e'.born) clock) (.inr hg))
   exact ⟨h9.os, h9.tape, h9.output, h9.size, fun k hk1 => h9.block k (Nat.lt_of_lt_of_le hk1 hs) (Nat.not_le.2 hk1)⟩
  ·
   exact Kp.setBlock hk _ (.inl rfl)
  ·
   rcases List.mem_append.1 hq9 with h9 | h9
   ·
    exact hv.sub q h9
   ·
    rw [List.mem_singleton.1 h9]; exact hx
  ·
   rw [Array.contains_push, Bool.or_eq_true, hv.born n, beq_iff_eq]
   constructor
   ·
    rintro (h9 | h9)
    ·
     obtain ⟨q, h8, h7⟩ := h9
     exact ⟨q, List.mem_append_left _ h8, h7⟩
    ·
     exact ⟨(e', x), List.mem_append_right _ (List.mem_singleton_self _), h9.symm⟩
   ·
    rintro ⟨q, h8, h7⟩
    rcases List.mem_append.1 h8 with h9 | h9
    ·
     exact .inl ⟨q, h9, h7⟩
    ·
     rw [List.mem_singleton.1 h9] at h7; exact .inr h7.symm
  ·
   refine List.nodup_append.2 ⟨hv.nd, by simp, fun q hq9 r hr => ?_⟩
   rw [List.mem_singleton.1 hr]
   intro e9
   have h8 := (hv.born e'.born).2 ⟨q, hq9, by rw [e9]⟩
   rw [hmem.2] at h8
   cases h8
  ·
   rw [e1]
   unfold World.iterSeen
   rw [hi2]
   exact hshr

/-- The blocks of a purse. -/
def PgB (gp gm : Nat) (L : List Se) (b : Nat) : Prop := b = gp ∨ b = gm ∨ ∃ x ∈ L, x.has b
def seKV (x : Se) : Value × Value := (pidV x.e.s x.e.i, stV x.tv x.uv)
/-- A purse with these entries, in the map's order. -/
structure PG (w : World) (gp gm : Nat) (L : List Se) : Prop where
 p : BL w gp 94 [.map (some gm)]
 m : MB Tryz.prog 39 w gm (L.map seKV)
 ok : ∀ x ∈ L, SOk w x
 ap : L.Pairwise (fun x y => ∀ b, x.has b → ¬ y.has b)
 far : ∀ x ∈ L, ¬ x.has gp ∧ ¬ x.has gm
 ne : gp ≠ gm
section
variable {w w' : World} {gp gm : Nat} {L : List Se}
theorem PG.kept (h : PG w gp gm L) (hb : Below w.heap.size w w') : PG w' gp gm L := ⟨h.p.kept hb, h.m.kept hb, fun x hx => (h.ok x hx).kept hb, h.ap, h.far, h.ne⟩
theorem PG.drew (h : PG w gp gm L) : PG w.drew gp gm L := h.kept (Below.refl _ _).drew
theorem PG.kp {S : Nat → Prop} (h : PG w gp gm L) (hk : Kp S w w') (hn : ∀ b, PgB gp gm L b → ¬ S b) : PG w' gp gm L :=
 ⟨h.p.kp hk (hn gp (.inl rfl)), h.m.kp hk (hn gm (.inr (.inl rfl))), fun x hx => (h.ok x hx).kp hk (fun b hb => hn b (.inr (.inr ⟨x, hx, hb⟩))), h.ap, h.far, h.ne⟩
theorem PG.lt (h : PG w gp gm L) {b : Nat} (hb : PgB gp gm L b) : b < w.heap.size := by
 rcases hb with rfl | rfl | ⟨x, hx, hb⟩
 ·
  exact h.p.lt
 ·
  exact h.m.lt
 ·
  exact (h.ok x hx).lt hb
theorem pidV_inj {s s' : List UInt8} {i i' : Int} (h : pidV s i = pidV s' i') : s = s' ∧ i = i' := by
 unfold pidV at h
 injection h with h
 have h1 := congrArg Array.toList h
 simp only [List.cons.injEq, Value.string.injEq, Value.int.injEq, true_and, and_true] at h1
 exact ⟨strB_inj h1.1, h1.2⟩
theorem PG.nodup (h : PG w gp gm L) : (L.map fun x => ((x.e.s, x.e.i) : Pid)).Nodup := by
 have h9 := h.m.nodup
 rw [List.map_map] at h9
 refine List.pairwise_map.2 ((List.pairwise_map.1 h9).imp (fun hne e => hne ?_))
 simp only [Prod.mk.injEq] at e
 show pidV _ _ = pidV _ _
 rw [e.1, e.2]
end
def sizeS (L : List Se) : Nat := (L.map fun x => x.e.tk.length + x.e.us.length).sum
/-- The entries with the stocks they stand for. -/
theorem PG.zip {w : World} {gp gm : Nat} {L : List Se} (h : PG w gp gm L) : ∃ (es : Array MapEntry) (clock : Nat) (Z : List (MapEntry × Se)), w.heap[gm]? = some (.map es clock) ∧ Stamped es clock ∧ Z.map (·.1) = es.toList ∧ Z.map (·.2) = L ∧ ∀ q ∈ Z, (q.1.key, q.1.val) = seKV q.2 := by
 obtain ⟨es, clock, hb, hst, _, hes⟩ := h.m
 have hl : es.toList.length = L.length := by have := congrArg List.length hes; simpa using this
 refine ⟨es, clock, es.toList.zip L, hb, hst, List.map_fst_zip (by omega), List.map_snd_zip (by omega), fun q hq => ?_⟩
 obtain ⟨k, hk, rfl⟩ := List.getElem_of_mem hq
 rw [List.length_zip] at hk
 rw [List.getElem_zip]
 have h1 : (es.toList.map fun e => (e.key, e.val))[k]'(by rw [List.length_map]; omega) = (L.map seKV)[k]'(by rw [List.length_map]; omega) := by simp only [hes]
 rw [List.getElem_map, List.getElem_map] at h1
 exact h1
set_option maxRecDepth 100000 in
set_option maxHeartbeats 1000000 in
theorem psize_any (w : World) (gp gm : Nat) (L : List Se) (h : PG w gp gm L) (hn : L.length ≤ 1000000) :
  Calls Tryz.prog 40 #[.pointer (some ⟨gp, 0, none⟩)] w fun e w' => e = .returned (.int .i64 (sizeS L : Int)) ∧ Below w.heap.size w w' := by
 have HP := Lib.hid h
 obtain ⟨es, clock, Z, hb, hst, hZ, hZ2, hkv⟩ := h.zip
 have HB := Lib.hid hb
 have HST := Lib.hid hst
 have HZ := Lib.hid hZ
 have HZ2 := Lib.hid hZ2
 have HKV := Lib.hid hkv
 have HN := Lib.hid hn
 have q0 := h.p.get (j := 0) rfl
 have HGM := Lib.hid h.m.lt
 clear h hb hst hZ hZ2 hkv hn
 go_enter Tryz.func40, Tryz.ntmps40
 go_wp2_with (first
  | ((with_reducible show OpW 10); refine wpList_range _ rfl 92 39 80 (.tmp 9) rfl stMap gm clock es rfl HB.out ?_; intro w1 a1 a2 a3; have HI1 := Lib.hid a1; have HB1 := Lib.hid a2; clear a1 a2 a3))
 go_simp
 obtain ⟨gr, hgr⟩ : ∃ gr, gr = w.heap.size := ⟨_, rfl⟩
 have HGR := Lib.hid hgr
 rw [← hgr] at HI1 ⊢
 clear hgr
 go_loopw [3] (fun nv wr => ∃ (seen : Array Nat) (vl : List (MapEntry × Se)), nv = .int .i64 (sizeS (vl.map (·.2)) : Int) ∧ Hid (wr.heap[gr]? = some (.mapIter (some gm) clock seen clock)) ∧ Hid (Vis Z seen vl) ∧ Hid (Below w.heap.size w wr)) (fun _ wr => (leftOf es (wr.iterSeen gr)).size)
 case atStart => exact ⟨#[], [], rfl, HI1, Lib.hid (Vis.nil Z), HB1⟩
 case round =>
  obtain ⟨seen, vl, rfl, hi, hv, hbr⟩ := hrel
  obtain ⟨wy, hwy⟩ : ∃ x, x = wr := ⟨_, rfl⟩
  rw [← hwy] at hi hbr ⊢
  clear hwy
  rcases next_vis (P := Tryz.prog) HZ.out HST.out hi.out ((hbr.out.block gm HGM.out).trans HB.out) (by have := HGR.out; have := HGM.out; omega) hv.out hbr.out (Nat.le_refl _) (by have := HGR.out; omega) with ⟨hperm, hrun⟩ | ⟨e, x, w2, hx, hrun, hent, hi2, hb2, hk2, hs2, hv2, hsh⟩
  ·
   have HR : Hid (sizeS (vl.map (·.2)) = sizeS L) := Lib.hid (by
    have h9 := hperm.map (·.2)
    rw [HZ2.out] at h9
    unfold sizeS
    exact (h9.map _).sum_nat)
   go_wp2_with (first
    | ((with_reducible show OpW 11); refine wpList_run _ rfl _ _ (exec_next (x := .tmp 10) rfl hrun) ?_))
   go_ret
   exact ⟨by rw [← HR.out]; rfl, hbr.out⟩
  ·
   have hxL : x ∈ L := by rw [← HZ2.out]; exact List.mem_map.2 ⟨_, hx, rfl⟩
   have HSX := Lib.hid (HP.out.ok x hxL)
   have hkv := HKV.out _ hx
   simp only [seKV, Prod.mk.injEq] at hkv
   rw [hkv.1, hkv.2] at hrun hent
   have HSUM : Hid (sizeS ((vl ++ [(e, x)]).map (·.2)) = sizeS (vl.map (·.2)) + (x.e.tk.length + x.e.us.length)) := Lib.hid (by simp [sizeS])
   have HV2 := Lib.hid hv2
   have HI2 := Lib.hid hi2
   have HB2 := Lib.hid hb2
   have HVL : Hid (sizeS (vl.map (·.2)) ≤ 200000 * 1000000) := Lib.hid (by
    have h1 : ∀ (l : List Se), (∀ y ∈ l, SOk w y) → sizeS l ≤ 200000 * l.length := by
     intro l
     induction l with
     | nil => intro _; simp [sizeS]
     | cons y l ih =>
      intro hl
      have h2 := ih (fun z hz => hl z (List.mem_cons_of_mem _ hz))
      have h3 := (hl y (List.mem_cons_self ..)).st.bt
      have h4 := (hl y (List.mem_cons_self ..)).st.bu
      simp only [sizeS, List.map_cons, List.sum_cons, List.length_cons] at *
      omega
    have h2 := h1 (vl.map (·.2)) (fun y hy => by
     obtain ⟨q, hq, rfl⟩ := List.mem_map.1 hy
     exact HP.out.ok _ (by rw [← HZ2.out]; exact List.mem_map.2 ⟨q, hv.out.sub q hq, rfl⟩))
    have h3 : (vl.map (·.2)).length ≤ 1000000 := by
     have hnd : vl.Nodup := hv.out.nd
     have h4 : vl.length ≤ Z.length := nodup_len hnd (fun q hq => hv.out.sub q hq)
     have h5 : Z.length = L.length := by rw [← HZ2.out, List.length_map]
     have := HN.out
     rw [List.length_map]
     omega
    omega)
   obtain ⟨A1, c1, x1, _⟩ := HSX.out.st.t.form
   obtain ⟨A2, c2, x2, _⟩ := HSX.out.st.u.form
   have HO : Hid (∀ v ∈ [x.tv, x.uv], v.oneCell' = true) := Lib.hid (by
    intro v hv
    simp only [List.mem_cons, List.not_mem_nil, or_false] at hv
    rcases hv with rfl | rfl
    ·
     rw [x1]; rfl
    ·
     rw [x2]; rfl)
   have HSH := Lib.hid hsh
   obtain ⟨tt, htt⟩ : ∃ tt, tt = x.e.tk.length + x.e.us.length := ⟨_, rfl⟩
   obtain ⟨sv, hsv⟩ : ∃ sv, sv = sizeS (vl.map (·.2)) := ⟨_, rfl⟩
   rw [← hsv] at HSUM HVL ⊢
   rw [← htt] at HSUM
   have HTT := Lib.hid htt
   have htl : (tt : Int) ≤ 200000 := by have := HSX.out.st.bt; have := HSX.out.st.bu; omega
   have hsl : (sv : Int) ≤ 200000000000 := by have := HVL.out; omega
   clear htt hsv hkv hx hxL hv2 hi2 hb2 hsh hs2 hk2 x1 x2
   go_wp2_with (first
    | ((with_reducible show OpW 11); refine wpList_run _ rfl _ w2 (exec_next (x := .tmp 10) rfl hrun) ?_)
    | ((with_reducible show OpW 13); refine wpList_run _ rfl _ w2 (exec_entry (x := .tmp 10) rfl hent) ?_)
    | ((with_reducible show OpW 5); refine wpList_alloc _ rfl 80 rfl [nilV, nilV] stZero' ?_; intro w3 a1 a2 a3; have HS3 := Lib.hid a1; have HX3 := Lib.hid a2; clear a1 a2 a3)
    | ((with_reducible show OpN); refine wpList_storev _ rfl 80 (.tmp 5) (.tmp 14) rfl 2 (by kernel_rfl) w2.heap.size 0 _ [nilV, nilV] [x.tv, x.uv] rfl rfl HS3.out rfl HO.out (by decide) ?_; intro w4 a1 a2 a3; have HS4 : Hid (BL w4 w2.heap.size 80 [x.tv, x.uv]) := Lib.hid a1; have HX4 : Hid (Below w2.heap.size w2 w4) := Lib.hid (((Kp.of_below (S := fun _ => False) HX3.out).after a2 (fun i hi e => by omega)).below (Nat.le_refl _) (fun _ h => h.elim)); clear a1 a2 a3)
    | ((with_reducible show OpW 16); refine wpList_loadv _ rfl 80 (.tmp 5) rfl 2 (by kernel_rfl) w2.heap.size 0 [x.tv, x.uv] rfl (BL.all HS4.out) rfl ?_)
    | (go_at_call 34; have HB4 := Lib.hid (below_thenB HB2.out HB2.out.size HX4.out); refine (stsize_any w4 x.tv x.uv x.e.tk x.e.us (HSX.out.st.kept HB4.out)).mono ?_; rintro e w5 ⟨rfl, b1⟩; rw [← HTT.out]; have HX5 := Lib.hid (below_thenB HX4.out HX4.out.size b1); clear b1))
   have hgl : gr < w2.heap.size := (Array.getElem?_eq_some_iff.1 HI2.out).1
   go_roundw
   case rel => exact ⟨_, _, by rw [HSUM.out]; go_num, Lib.hid ((HX5.out.block gr hgl).trans HI2.out), HV2, Lib.hid (below_thenB HB2.out HB2.out.size HX5.out)⟩
   case measure =>
    have e5 : w5.iterSeen gr = w2.iterSeen gr := by unfold World.iterSeen; rw [HX5.out.block gr hgl]
    rw [e5]; exact HSH.out
theorem pnew_any (w : World) : Calls Tryz.prog 10 #[] w fun e w' => ∃ gp gm, e = .returned (.pointer (some ⟨gp, 0, none⟩)) ∧ PG w' gp gm [] ∧ Below w.heap.size w w' ∧ w.heap.size ≤ gp ∧ w.heap.size ≤ gm := by
 go_enter Tryz.func10, Tryz.ntmps10
 go_wp2_with (first
  | ((with_reducible show OpW 1); refine wpList_makeMap _ rfl 92 39 rfl ?_; intro w1 a1 a2 a3; have HM1 := Lib.hid a1; have HB1 := Lib.hid a2; have HZ1 := Lib.hid a3; clear a1 a2 a3)
  | ((with_reducible show OpW 3); refine wpList_box _ rfl 94 (.tmp 2) rfl [.map (some w.heap.size)] rfl ?_; intro w2 a1 a2 a3; have HP2 := Lib.hid a1; have HB2 := Lib.hid (below_then HB1.out (a2.mono (Nat.le_refl _))); have HM2 := Lib.hid (HM1.out.kept a2); clear a1 a2 a3))
 go_ret
 exact ⟨w1.heap.size, w.heap.size, rfl, ⟨HP2.out, HM2.out, fun _ h => (by cases h), List.Pairwise.nil, fun _ h => (by cases h), by have := HZ1.out; omega⟩, HB2.out, HB1.out.size, Nat.le_refl _⟩
end Go.Proofs.YtheijpjfpaghfaaGreatDoor
