/- Several texts in one: En, Eo. -/
import Derived.Test.YtgoefpbicohkfaaGreatDoorC21
/- The order of proposals; slices.SortFunc of proposals. -/
namespace Go.Proofs.YtgoefpbicohkfaaGreatDoor
open Go Go.RowKit Go.Lib Go.Sort Gf Sha

theorem Compare_int (x y : Int) (w : World) : Calls Tryz.prog 53 #[.int .i64 x, .int .i64 y] w fun e w' => e = .returned (.int .i64 (compareInt x y)) ∧ w' = w := Tryz.cmp_Compare_int x y w
set_option maxRecDepth 100000 in
set_option maxHeartbeats 2000000 in
theorem or_int (x y : Int) (w : World) (g : Nat) (h : BL w g 3 [.int .i64 x, .int .i64 y]) :
    Calls Tryz.prog 52 #[.slice (some ⟨g, 0, none⟩) 2 2] w fun e w' => e = .returned (.int .i64 (if x = 0 then y else x)) ∧ w' = w := by
  have q0 := h.get (j := 0) rfl
  have q1 := h.get (j := 1) rfl
  by_cases h0 : x = 0
  · rw [if_pos h0]
    have f0 : (x != 0) = false := by rw [h0]; rfl
    clear h h0
    by_cases h1 : y = 0
    · have f1 : (y != 0) = false := by rw [h1]; rfl
      have HY := Lib.hid h1
      clear h1
      go_enter Tryz.func52, Tryz.ntmps52
      go_wp2_with fail
      go_loopw [8] (fun iv wr => w = wr ∧ ∃ k : Nat, k ≤ 2 ∧ iv = .int .i64 (k : Int)) (fun iv _ => 2 - (intOf iv).toNat)
      case atStart => exact ⟨rfl, 0, by omega, rfl⟩
      case round =>
        obtain ⟨rfl, k, hk, rfl⟩ := hrel
        rcases (show k = 0 ∨ k = 1 ∨ k = 2 by omega) with rfl | rfl | rfl
        · go_wp2_with fail
          go_roundw
          case rel => exact ⟨trivial, 1, by omega, by go_num⟩
          case measure => simp [intOf]
        · go_wp2_with fail
          go_roundw
          case rel => exact ⟨trivial, 2, by omega, by go_num⟩
          case measure => simp [intOf]
        · go_wp2_with fail
          go_ret
          exact ⟨by rw [HY.out]; rfl, rfl⟩
    · have f1 : (y != 0) = true := by rw [bne_iff_ne]; exact h1
      clear h1
      go_enter Tryz.func52, Tryz.ntmps52
      go_wp2_with fail
      go_loopw [8] (fun iv wr => w = wr ∧ ∃ k : Nat, k ≤ 1 ∧ iv = .int .i64 (k : Int)) (fun iv _ => 2 - (intOf iv).toNat)
      case atStart => exact ⟨rfl, 0, by omega, rfl⟩
      case round =>
        obtain ⟨rfl, k, hk, rfl⟩ := hrel
        rcases (show k = 0 ∨ k = 1 by omega) with rfl | rfl
        · go_wp2_with fail
          go_roundw
          case rel => exact ⟨trivial, 1, by omega, by go_num⟩
          case measure => simp [intOf]
        · go_wp2_with fail
          go_ret
          exact ⟨rfl, rfl⟩
  · rw [if_neg h0]
    have f0 : (x != 0) = true := by rw [bne_iff_ne]; exact h0
    clear h h0
    go_enter Tryz.func52, Tryz.ntmps52
    go_wp2_with fail
    go_loopw [8] (fun iv wr => w = wr ∧ iv = .int .i64 0) (fun iv _ => 2 - (intOf iv).toNat)
    case atStart => exact ⟨rfl, rfl⟩
    case round =>
      obtain ⟨rfl, rfl⟩ := hrel
      go_wp2_with fail
      go_ret
      exact ⟨rfl, rfl⟩
section
variable {P : Program} {o : Oper} {a : Act}
theorem exec_bsl {t : TypeId} {n : Nat} {parts : Array (Nat × Operand)} (hop : o.op = .buildSlice t n parts) {ps : Array (Nat × Value)} (hps : (parts.map fun (i, x) => (i, a.eval x)) = ps) {v : Value} {w w' : World}
    (hr : (Instr.buildSlice t n ps).run P w = .ok v w') : (execOp a.eval o).run P w = .ok (.value v) w' := by
  unfold execOp
  simp only [hop, hps]
  simp [hr, Result.andThen]
end
/-- How two proposals compare. -/
def cfP (p q : Pp) : Int := if compareInt p.dev q.dev = 0 then compareInt p.seq q.seq else compareInt p.dev q.dev
theorem bslI2 (x y : Int) (w : World) : (Instr.buildSlice 31 2 #[(0, .int .i64 x), (1, .int .i64 y)]).run Tryz.prog w = .ok (.slice (some ⟨w.heap.size, 0, none⟩) 2 2) (w.alloc (.cells [.int .i64 x, .int .i64 y].toArray 3)) := by kernel_rfl
set_option maxRecDepth 100000 in
set_option maxHeartbeats 4000000 in
theorem less_any (x y : PpV) (W : World) :
    Calls Tryz.prog 51 #[.agg (pvC x).toArray, .agg (pvC y).toArray] W fun e w' => e = .returned (.int .i64 (cfP x.p y.p)) ∧ ∃ q os', w' = grow (W.drewN q) os' := by
  obtain ⟨r1, h1⟩ : ∃ r, r = compareInt x.p.dev y.p.dev := ⟨_, rfl⟩
  obtain ⟨r2, h2⟩ : ∃ r, r = compareInt x.p.seq y.p.seq := ⟨_, rfl⟩
  have H1 := Lib.hid h1
  have H2 := Lib.hid h2
  obtain ⟨r3, h3⟩ : ∃ r, r = (if r1 = 0 then r2 else r1) := ⟨_, rfl⟩
  have H3 := Lib.hid h3
  have HC : Hid (cfP x.p y.p = r3) := Lib.hid (by rw [cfP, ← h1, ← h2, h3])
  clear h1 h2 h3
  have g1 : BL (W.alloc (.cells (pvC x).toArray 34)) W.heap.size 34 (pvC x) := BL.new W _ _
  have g2 : BL ((W.alloc (.cells (pvC x).toArray 34)).alloc (.cells (pvC y).toArray 34)) (W.heap.size + 1) 34 (pvC y) := by
    have h9 := BL.new (W.alloc (.cells (pvC x).toArray 34)) 34 (pvC y)
    rwa [show (W.alloc (.cells (pvC x).toArray 34)).heap.size = W.heap.size + 1 by simp] at h9
  have G1 := Lib.hid (g1.alloc (.cells (pvC y).toArray 34))
  have G2 := Lib.hid g2
  clear g1 g2
  go_enter Tryz.func51, Tryz.ntmps51
  go_wp2_with fail
  obtain ⟨W2, hW2⟩ : ∃ w, w = (W.alloc (.cells (pvC x).toArray 34)).alloc (.cells (pvC y).toArray 34) := ⟨_, rfl⟩
  rw [← hW2] at G1 G2 ⊢
  have HW2 := Lib.hid hW2
  clear hW2
  have HS : Hid (W2.drew.cell? ⟨W.heap.size, 0, none⟩ = some (.int .i64 x.p.dev) ∧ W2.drew.cell? ⟨W.heap.size, 1, none⟩ = some (.int .i64 x.p.seq) ∧ W2.drew.cell? ⟨W.heap.size + 1, 0, none⟩ = some (.int .i64 y.p.dev) ∧ W2.drew.cell? ⟨W.heap.size + 1, 1, none⟩ = some (.int .i64 y.p.seq)) := Lib.hid
    ⟨G1.out.get (j := 0) rfl, G1.out.get (j := 1) rfl, G2.out.get (j := 0) rfl, G2.out.get (j := 1) rfl⟩
  refine Text.wp_region_text (fun w' => w'.cell? ⟨W.heap.size, 0, none⟩ = some (.int .i64 x.p.dev) ∧ w'.cell? ⟨W.heap.size, 1, none⟩ = some (.int .i64 x.p.seq) ∧ w'.cell? ⟨W.heap.size + 1, 0, none⟩ = some (.int .i64 y.p.dev) ∧ w'.cell? ⟨W.heap.size + 1, 1, none⟩ = some (.int .i64 y.p.seq)) [(0, 4), (2, 4), (5, 4), (7, 4), (1, 0), (3, 0), (6, 0), (8, 0), (4, 2), (9, 2), (10, 2), (11, 2), (12, 4)] (by kernel_rfl) (by kernel_rfl) (fun _ _ _ _ _ h => h) (HS.out) ?_
  iterate 4 (refine Text.purek rfl rfl (fun K hK => ⟨_, fun w' => by go_simp <;> rfl, ?_⟩); go_simp; refine hK _ ?_; clear hK K)
  iterate 4 (refine Text.heldk rfl rfl (fun K hK => ⟨_, fun w' hw' => by go_simp <;> rfl, ?_⟩); go_simp; refine hK _ ?_; clear hK K)
  refine Text.eff rfl rfl (fun K hK => ?_)
  go_simp
  refine (Compare_int x.p.dev y.p.dev _).mono ?_
  rintro e w3 ⟨rfl, hw⟩
  rw [hw, ← H1.out]
  clear hw w3
  refine hK _ _ HS.out ?_
  clear hK K
  refine Text.eff rfl rfl (fun K hK => ?_)
  go_simp
  refine (Compare_int x.p.seq y.p.seq _).mono ?_
  rintro e w3 ⟨rfl, hw⟩
  rw [hw, ← H2.out]
  clear hw w3
  refine hK _ _ HS.out ?_
  clear hK K
  refine Text.eff rfl rfl (fun K hK => ?_)
  refine Text.bag_run (show (execOp _ _).run Tryz.prog W2.drew = .ok (.value _) _ from exec_bsl rfl (ps := #[(0, .int .i64 r1), (1, .int .i64 r2)]) (by rw [List.map_toArray]; rfl) (bslI2 r1 r2 _)) ?_
  have HA : Hid (BL (W2.drew.alloc (.cells [.int .i64 r1, .int .i64 r2].toArray 3)) W2.drew.heap.size 3 [.int .i64 r1, .int .i64 r2]) := Lib.hid (BL.new _ _ _)
  have HS3 : Hid ((W2.drew.alloc (.cells [.int .i64 r1, .int .i64 r2].toArray 3)).cell? ⟨W.heap.size, 0, none⟩ = some (.int .i64 x.p.dev) ∧ (W2.drew.alloc (.cells [.int .i64 r1, .int .i64 r2].toArray 3)).cell? ⟨W.heap.size, 1, none⟩ = some (.int .i64 x.p.seq) ∧ (W2.drew.alloc (.cells [.int .i64 r1, .int .i64 r2].toArray 3)).cell? ⟨W.heap.size + 1, 0, none⟩ = some (.int .i64 y.p.dev) ∧ (W2.drew.alloc (.cells [.int .i64 r1, .int .i64 r2].toArray 3)).cell? ⟨W.heap.size + 1, 1, none⟩ = some (.int .i64 y.p.seq)) := Lib.hid
    ⟨(G1.out.drew.alloc _).get (j := 0) rfl, (G1.out.drew.alloc _).get (j := 1) rfl, (G2.out.drew.alloc _).get (j := 0) rfl, (G2.out.drew.alloc _).get (j := 1) rfl⟩
  refine hK _ _ HS3.out ?_
  clear hK K
  refine Text.eff rfl rfl (fun K hK => ?_)
  go_simp
  refine (or_int r1 r2 _ _ HA.out).mono ?_
  rintro e w3 ⟨rfl, hw⟩
  rw [hw, ← H3.out]
  clear hw w3
  refine hK _ _ HS3.out ?_
  clear hK K
  (refine Text.purek rfl rfl (fun K hK => ⟨_, fun w' => by go_simp <;> rfl, ?_⟩); go_simp; refine hK _ ?_; clear hK K)
  refine Text.done ?_
  go_wp2_with fail
  go_ret
  rw [HC.out]
  exact ⟨rfl, 1, _, by rw [HW2.out, alloc_eq_grow, alloc_eq_grow, alloc_eq_grow, drew_grow, drew_grow, grow_grow, grow_grow]; rfl⟩
/-- Is a proposal ahead of another? -/
def ltP (p q : Pp) : Bool := decide (p.dev < q.dev) || (p.dev == q.dev && decide (p.seq < q.seq))
theorem cf_lt (p q : Pp) : decide (cfP p q < 0) = ltP p q := by
  unfold cfP ltP compareInt
  by_cases h1 : p.dev < q.dev
  · simp [h1]
  · by_cases h2 : q.dev < p.dev
    · have h3 : ¬ p.dev = q.dev := by omega
      simp [h1, h2, h3]
    · have h3 : p.dev = q.dev := by omega
      by_cases h4 : p.seq < q.seq
      · simp [h3, h4]
      · by_cases h5 : q.seq < p.seq <;> simp [h3, h4, h5]
theorem ltP_iff (p q : Pp) : ltP p q = true ↔ p.dev < q.dev ∨ (p.dev = q.dev ∧ p.seq < q.seq) := by
  simp [ltP]
theorem swoP : SWO (ltOf fun x y : PpV => cfP x.p y.p) := by
  have e : ∀ x y : PpV, ltOf (fun x y : PpV => cfP x.p y.p) x y = ltP x.p y.p := fun x y => cf_lt _ _
  refine ⟨fun x => ?_, fun x y z h1 h2 => ?_, fun x y z h1 h2 => ?_⟩
  · rw [e, ← Bool.not_eq_true, ltP_iff]; omega
  · rw [e, ltP_iff] at *; omega
  · rw [e, ← Bool.not_eq_true, ltP_iff] at *; omega
theorem ppAgg (w : World) : (isAgg 34).run Tryz.prog w = .ok true w := agg_isAgg w (show Agg Tryz.prog 34 5 = true by kernel_rfl)
theorem ppSize (w : World) : (sizeOf 34).run Tryz.prog w = .ok 5 w := agg_size w (show Agg Tryz.prog 34 5 = true by kernel_rfl)
theorem flatK_flat (vs : List PpV) : flatK pvC 5 vs.toArray = (vs.flatMap pvC).toArray := by
  apply Array.ext
  · rw [size_flatK, List.size_toArray, List.size_toArray, pvs_len]
  · intro i h1 h2
    rw [size_flatK] at h1
    have h1' : i < vs.length * 5 := by simpa using h1
    have h3 : i / 5 < vs.length := by omega
    have h4 := get_flatK pvC 5 vs.toArray i (by simpa using h1)
    rw [getElem!_pos _ i (by rw [size_flatK]; exact h1)] at h4
    rw [h4]
    have h5 : (vs.toArray)[i / 5]! = vs[i / 5] := by rw [getElem!_pos _ _ (by simpa using h3)]; simp
    rw [h5]
    have h6 := flat_split (f := pvC) vs (i / 5) h3
    have h7 : i % 5 < (pvC vs[i / 5]).length := by rw [pvC_len]; omega
    rw [getElem!_pos (pvC vs[i / 5]) (i % 5) h7]
    have h8 : (vs.flatMap pvC)[i]? = some ((pvC vs[i / 5])[i % 5]) := by
      rw [h6, List.append_assoc, List.getElem?_append_right (by rw [pvs_len, List.length_take]; omega), List.getElem?_append_left (by rw [pvs_len, List.length_take, pvC_len]; omega), pvs_len, List.length_take, Nat.min_eq_left (by omega), show i - i / 5 * 5 = i % 5 by omega, List.getElem?_eq_getElem h7]
    have h9 : i < (vs.flatMap pvC).length := by rw [pvs_len]; exact h1'
    rw [List.getElem?_eq_getElem h9] at h8
    injection h8 with h8
    simp [h8]
theorem putCells_sz {α : Type} [Inhabited α] (enc : α → Value) (o : Nat) (d : Array α) (cur : Array Value) : (putCells enc o d cur).size = cur.size := by simp [putCells]
theorem putCells_id (cur : Array Value) (o : Nat) (ts : List Value) (h : o + ts.length ≤ cur.size) : ((putCells id o ts.toArray cur).toList.drop o).take ts.length = ts := by
  apply List.ext_getElem?
  intro i
  by_cases hi : i < ts.length
  · rw [List.getElem?_take_of_lt hi, List.getElem?_drop]
    have h1 : o + i < cur.size := by omega
    have h2 : (putCells id o ts.toArray cur)[o + i]? = some ts[i] := by
      rw [putCells, Array.getElem?_mapIdx, Array.getElem?_eq_getElem h1]
      simp [show o + i < o + ts.length by omega, hi]
    rw [Array.getElem?_toList, h2, List.getElem?_eq_getElem hi]
  · rw [List.getElem?_eq_none (by rw [List.length_take]; omega), List.getElem?_eq_none (by omega)]
/-- The row of a list behind a sort. -/
theorem RW.putK {w : World} {te : TypeId} {g o n c s : Nat} {l ts : List Value} {os : Array Obj} {q : Nat} (h : RW w te s (.slice (some ⟨g, o, none⟩) n c) n l) (hl : ts.length = n * s) :
    RW (grow (putRow id (Sort.ahead w q) g o ts.toArray) os) te s (.slice (some ⟨g, o, none⟩) n c) n ts ∧ Kp (· = g) w (grow (putRow id (Sort.ahead w q) g o ts.toArray) os) := by
  rcases h.2 with ⟨e, _⟩ | ⟨g', o', c', cs, e, hb, h1, h2, h3, h4⟩
  · cases e
  · cases e
    have h5 : n * s ≤ c * s := Nat.mul_le_mul_right _ h1
    have hsz : o + ts.length ≤ cs.toArray.size := by simp; omega
    have hgl := hb.lt
    refine ⟨⟨hl, .inr ⟨g, o, c, (putCells id o ts.toArray cs.toArray).toList, rfl, ?_, h1, h2, ?_, ?_⟩⟩, ⟨rfl, rfl, rfl, by simp, fun k hk hne => ?_⟩⟩
    · show (grow (putRow id (Sort.ahead w q) g o ts.toArray) os).heap[g]? = some _
      rw [heap_grow_old _ _ (by simpa using hgl)]
      have hb' : w.heap[g]? = some (.cells cs.toArray te) := hb
      simp [putRow, mapBlock, Sort.ahead, Array.getElem?_modify, hb', onCells]
    · rw [Array.length_toList, putCells_sz]
      simpa using h3
    · rw [← hl]
      exact putCells_id _ _ _ hsz
    · rw [heap_grow_old _ _ (by simpa using hk)]
      have : g ≠ k := fun e => hne e.symm
      simp [putRow, mapBlock, Sort.ahead, Array.getElem?_modify, this]
/-- slices.SortFunc of proposals. -/
theorem sort_pv (v : Value) (vs : List PpV) (w : World) (h : PvL w v vs) (hn : vs.length < 1000000) :
    Calls Tryz.prog 50 #[v, .func (.func 51) #[] #[]] w fun e w' => e = .returned (.tuple #[]) ∧ ∃ vs' : List PpV, vs'.Perm vs ∧ vs'.Pairwise (fun x y => ltP y.p x.p = false) ∧ PvL w' v vs' ∧ Kp (fun b => v.ownBlock = some b) w w' := by
  have eg : ∀ args w, (callFunc 51 args).run Tryz.prog w = .ok (.enter 51 args) w := enters_of Tryz.func51 (by kernel_rfl) rfl
  rcases h.row.2 with ⟨rfl, h0⟩ | ⟨g, o, c, cs, rfl, hb, h1, h2, h3, h4⟩
  · obtain rfl : vs = [] := List.eq_nil_of_length_eq_zero h0
    refine (Tryz.slices_SortFunc_none (α := PpV) none 0 _ w).mono ?_
    rintro e w' ⟨rfl, rfl⟩
    exact ⟨rfl, [], List.Perm.refl _, List.Pairwise.nil, h, Kp.refl _ _⟩
  · have hH : HoldsK pvC 5 w g o vs.toArray := by
      show Holds id w g o _
      rw [flatK_flat]
      intro j hj
      have hj' : j < (vs.flatMap pvC).length := by simpa using hj
      refine ⟨?_, hb.frozen _⟩
      obtain ⟨u, h5⟩ : ∃ u, (vs.flatMap pvC)[j]? = some u := ⟨_, List.getElem?_eq_getElem hj'⟩
      have h7 : (vs.flatMap pvC).toArray[j]! = u := by rw [getElem!_def, List.getElem?_toArray, h5]
      rw [pvs_len] at hj'
      rw [← h4, List.getElem?_take_of_lt hj', List.getElem?_drop] at h5
      have h6 := hb.get h5
      rw [h6, h7]
      rfl
    have hs := Tryz.slices_SortFunc 5 ppAgg ppSize pvC pvC_len one_pv (fun x y => cfP x.p y.p) swoP 51 #[] g o c vs.toArray w eg (fun _ _ _ _ x y => less_any x y _) hH hb.lt (by simp; omega)
    rw [List.size_toArray] at hs
    refine hs.mono ?_
    rintro e w' ⟨rfl, d', n, os, hp, hso, rfl⟩
    obtain ⟨p1, p2, p3⟩ := hp
    rw [List.size_toArray] at p1
    have hperm : d'.toList.Perm vs := by
      have h9 := p3
      have a1 : d'.extract 0 vs.length = d' := by
        have h8 := Array.extract_size (xs := d')
        rwa [show d'.size = vs.length by simpa using p1] at h8
      have a2 : vs.toArray.extract 0 vs.length = vs.toArray := by
        have h8 := Array.extract_size (xs := vs.toArray)
        rwa [show vs.toArray.size = vs.length by simp] at h8
      rw [a1, a2] at h9
      exact h9
    have hlen : d'.toList.length = vs.length := hperm.length_eq
    have hput := h.row.putK (os := os) (q := n) (ts := d'.toList.flatMap pvC) (by rw [pvs_len, hlen])
    have ew : sortWorldK pvC 5 w g o n d' os = grow (putRow id (Sort.ahead w n) g o (d'.toList.flatMap pvC).toArray) os := by
      rw [← flatK_flat, Array.toArray_toList]; rfl
    rw [ew]
    refine ⟨rfl, d'.toList, hperm, ?_, ⟨by rw [hlen]; exact hput.1, fun x hx => (h.each x (hperm.mem_iff.1 hx)).kp hput.2 (fun i t l hl ht => hl.ne hb (by rcases ht with rfl | rfl <;> decide))⟩, hput.2.mono (fun k _ e => by rw [e]; rfl)⟩
    rw [List.pairwise_iff_getElem]
    intro i j hi hj hij
    have h9 := hso i j (Nat.zero_le _) hij (by omega)
    have e1 : ∀ k (hk : k < d'.toList.length), d'[k]! = d'.toList[k] := fun k hk => by rw [getElem!_pos d' k (by simpa using hk)]; simp
    rw [e1 i hi, e1 j hj, show ltOf (fun x y : PpV => cfP x.p y.p) d'.toList[j] d'.toList[i] = ltP d'.toList[j].p d'.toList[i].p from cf_lt _ _] at h9
    exact h9
end Go.Proofs.YtgoefpbicohkfaaGreatDoor
/- A view under construction, in memory. -/
namespace Go.Proofs.YtgoefpbicohkfaaGreatDoor
open Go Go.RowKit Go.ChangeMaps Gf Sha

theorem MB.ne_bl {P : Program} {k : TypeId} {w : World} {b i : Nat} {L : List (Value × Value)} {t : TypeId} {l : List Value} (h : MB P k w b L) (hl : BL w i t l) : i ≠ b := fun e => by
  subst e
  obtain ⟨es, clock, h1, _⟩ := h
  have h2 : w.heap[i]? = some (.cells l.toArray t) := hl
  rw [h1] at h2
  cases h2
theorem MF.ne_bl {κ : Type} {P : Program} {k : TypeId} {enc : κ → Value} {w : World} {b i : Nat} {f : κ → Option Value} {t : TypeId} {l : List Value} (h : MF P k enc w b f) (hl : BL w i t l) : i ≠ b := let ⟨_, h1, _⟩ := h; h1.ne_bl hl
theorem MG.ne_bl {κ : Type} {P : Program} {k : TypeId} {enc : κ → Value} {z : Value} {w : World} {b i : Nat} {g : κ → Value} {t : TypeId} {l : List Value} (h : MG P k enc z w b g) (hl : BL w i t l) : i ≠ b := let ⟨_, h1, _⟩ := h; h1.ne_bl hl
/-- The view's struct, its proposals, its replies, the numbers that were seen; and variables of other types. -/
structure NV (w0 w : World) (gv bm bs : Nat) (u v : Value) (vs : List PpV) (f : Int × List UInt8 → Option Value) (sn : Int × Int → Bool) (X : List (Nat × TypeId × List Value)) : Prop where
  bl : BL w gv 60 [u, .map (some bm)]
  pv : PvL w v vs
  own : ∀ b, v.ownBlock = some b → w0.heap.size ≤ b
  mf : MF Tryz.prog 87 ansV w bm f
  mg : MG Tryz.prog 82 numV (.bool false) w bs (fun k => .bool (sn k))
  low : Below w0.heap.size w0 w
  hb : w0.heap.size ≤ gv ∧ w0.heap.size ≤ bm ∧ w0.heap.size ≤ bs ∧ bm ≠ bs
  ex : ∀ q ∈ X, BL w q.1 q.2.1 q.2.2 ∧ q.2.1 ≠ 34 ∧ q.2.1 ≠ 60
section
variable {w0 w w' : World} {gv bm bs : Nat} {u v : Value} {vs : List PpV} {f : Int × List UInt8 → Option Value} {sn : Int × Int → Bool} {X : List (Nat × TypeId × List Value)}
theorem NV.kept (h : NV w0 w gv bm bs u v vs f sn X) (hb : Below w.heap.size w w') : NV w0 w' gv bm bs u v vs f sn X :=
  ⟨h.bl.kept hb, h.pv.kept hb, h.own, h.mf.kept hb, h.mg.kept hb, below_thenB h.low h.low.size hb, h.hb, fun q hq => ⟨(h.ex q hq).1.kept hb, (h.ex q hq).2⟩⟩
theorem NV.drop (h : NV w0 w gv bm bs u v vs f sn X) : NV w0 w gv bm bs u v vs f sn [] := ⟨h.bl, h.pv, h.own, h.mf, h.mg, h.low, h.hb, fun q hq => by cases hq⟩
theorem NV.add (h : NV w0 w gv bm bs u v vs f sn X) {g : Nat} {t : TypeId} {l : List Value} (hl : BL w g t l) (h1 : t ≠ 34) (h2 : t ≠ 60) : NV w0 w gv bm bs u v vs f sn ((g, t, l) :: X) :=
  ⟨h.bl, h.pv, h.own, h.mf, h.mg, h.low, h.hb, fun q hq => by
    rcases List.mem_cons.1 hq with rfl | hq
    · exact ⟨hl, h1, h2⟩
    · exact h.ex q hq⟩
/-- A new variable. -/
theorem NV.var (h : NV w0 w gv bm bs u v vs f sn X) {w1 : World} {t : TypeId} {l : List Value} (b1 : Below w.heap.size w w1) (hk : Kp (· = w.heap.size) w1 w') (hl : BL w' w.heap.size t l) (h1 : t ≠ 34) (h2 : t ≠ 60) : NV w0 w' gv bm bs u v vs f sn ((w.heap.size, t, l) :: X) :=
  (h.kept (low_kp b1 hk (fun i hi e => by omega))).add hl h1 h2
theorem NV.seen (h : NV w0 w gv bm bs u v vs f sn X) {sn' : Int × Int → Bool} (hk : Kp (· = bs) w w') (hg : MG Tryz.prog 82 numV (.bool false) w' bs (fun k => .bool (sn' k))) : NV w0 w' gv bm bs u v vs f sn' X :=
  ⟨hk.bl h.bl (h.mg.ne_bl h.bl), h.pv.kp hk (fun b e1 e2 => by
      obtain ⟨_, hl⟩ := h.pv.row.ty e1
      exact h.mg.ne_bl hl e2) (fun i t l hl _ => h.mg.ne_bl hl), h.own, h.mf.kp hk h.hb.2.2.2, hg, low_kp h.low hk (fun i hi e => by have := h.hb; omega), h.hb, fun q hq => ⟨hk.bl (h.ex q hq).1 (h.mg.ne_bl (h.ex q hq).1), (h.ex q hq).2⟩⟩
theorem MG.kp' {κ : Type} {P : Program} {k : TypeId} {enc : κ → Value} {z : Value} {b : Nat} {g : κ → Value} {S : Nat → Prop} (h : MG P k enc z w b g) (hk : Kp S w w') (hn : ¬ S b) : MG P k enc z w' b g := let ⟨f, h1, h2⟩ := h; ⟨f, h1.kp hk hn, h2⟩
theorem NV.rep (h : NV w0 w gv bm bs u v vs f sn X) {f' : Int × List UInt8 → Option Value} (hk : Kp (· = bm) w w') (hg : MF Tryz.prog 87 ansV w' bm f') : NV w0 w' gv bm bs u v vs f' sn X :=
  ⟨hk.bl h.bl (h.mf.ne_bl h.bl), h.pv.kp hk (fun b e1 e2 => by
      obtain ⟨_, hl⟩ := h.pv.row.ty e1
      exact h.mf.ne_bl hl e2) (fun i t l hl _ => h.mf.ne_bl hl), h.own, hg, h.mg.kp' hk (fun e => h.hb.2.2.2 e.symm), low_kp h.low hk (fun i hi e => by have := h.hb; omega), h.hb, fun q hq => ⟨hk.bl (h.ex q hq).1 (h.mf.ne_bl (h.ex q hq).1), (h.ex q hq).2⟩⟩
theorem MB.ne_own {P : Program} {k : TypeId} {b : Nat} {L : List (Value × Value)} {te : TypeId} {s n : Nat} {l : List Value} (h : MB P k w b L) (hr : RW w te s v n l) : ¬ v.ownBlock = some b := fun e => by
  obtain ⟨_, hl⟩ := hr.ty e
  exact h.ne_bl hl rfl
theorem MF.ne_own {κ : Type} {P : Program} {k : TypeId} {enc : κ → Value} {b : Nat} {f : κ → Option Value} {te : TypeId} {s n : Nat} {l : List Value} (h : MF P k enc w b f) (hr : RW w te s v n l) : ¬ v.ownBlock = some b := let ⟨_, h1, _⟩ := h; h1.ne_own hr
theorem MG.ne_own {κ : Type} {P : Program} {k : TypeId} {enc : κ → Value} {z : Value} {b : Nat} {g : κ → Value} {te : TypeId} {s n : Nat} {l : List Value} (h : MG P k enc z w b g) (hr : RW w te s v n l) : ¬ v.ownBlock = some b := let ⟨_, h1, _⟩ := h; h1.ne_own hr
/-- A proposal more. -/
theorem NV.push (h : NV w0 w gv bm bs u v vs f sn X) {v' : Value} {x : PpV} (hx : rPpT w (pvC x) x.p) (ap : AppR w 34 5 v vs.length 1 (vs.flatMap pvC) (pvC x) v' w') : NV w0 w' gv bm bs u v' (vs ++ [x]) f sn X :=
  ⟨ap.kp.bl h.bl (own_ty h.pv.row h.bl (by decide)), h.pv.push hx ap, fun b e => (ap.own b e).elim (h.own b) (fun h9 => Nat.le_trans h.low.size h9), h.mf.kp ap.kp (h.mf.ne_own h.pv.row), h.mg.kp' ap.kp (h.mg.ne_own h.pv.row), low_kp h.low ap.kp (fun i hi e => by have := h.own i e; omega), h.hb,
    fun q hq => ⟨ap.kp.bl (h.ex q hq).1 (own_ty h.pv.row (h.ex q hq).1 (h.ex q hq).2.1), (h.ex q hq).2⟩⟩
/-- The struct is written. -/
theorem NV.put (h : NV w0 w gv bm bs u v vs f sn X) {u' : Value} (hk : Kp (· = gv) w w') (hb : BL w' gv 60 [u', .map (some bm)]) : NV w0 w' gv bm bs u' v vs f sn X :=
  ⟨hb, h.pv.kp hk (fun b e1 e2 => own_ty h.pv.row h.bl (by decide) (by rw [e1]; exact congrArg some e2)) (fun i t l hl ht => hl.ne h.bl (by rcases ht with rfl | rfl <;> decide)), h.own, h.mf.kp hk (fun e => h.mf.ne_bl h.bl e.symm), h.mg.kp' hk (fun e => h.mg.ne_bl h.bl e.symm), low_kp h.low hk (fun i hi e => by have := h.hb; omega), h.hb,
    fun q hq => ⟨hk.bl (h.ex q hq).1 ((h.ex q hq).1.ne h.bl (h.ex q hq).2.2), (h.ex q hq).2⟩⟩
end
theorem bestS_eq (key : Int × List UInt8) (b : Option En) (x : En) : bestS key b x = if okRep x && keyA x == key then (match b with | none => some x | some y => if x.seq < y.seq then some x else some y) else b := rfl
/-- A map holds the best replies. -/
def RepF (f : Int × List UInt8 → Option Value) (D : List En) : Prop :=
  ∀ key, match best D key with | none => f key = none | some x => ∃ A n c, f key = some (.agg (enC x A n c).toArray)
theorem RepF.no {f : Int × List UInt8 → Option Value} {D : List En} (h : RepF f D) {key : Int × List UInt8} (hb : best D key = none) : f key = none := by
  have := h key; rw [hb] at this; exact this
theorem RepF.yes {f : Int × List UInt8 → Option Value} {D : List En} (h : RepF f D) {key : Int × List UInt8} {x : En} (hb : best D key = some x) : ∃ A n c, f key = some (.agg (enC x A n c).toArray) := by
  have := h key; rw [hb] at this; exact this
theorem RepF.same {f : Int × List UInt8 → Option Value} {D : List En} {x : En} (h : RepF f D) (hs : ∀ key, best (D ++ [x]) key = best D key) : RepF f (D ++ [x]) := fun key => by rw [hs]; exact h key
theorem RepF.upd {f : Int × List UInt8 → Option Value} {D : List En} {x : En} {A : Option Addr} {n c : Nat} (h : RepF f D) (hs : best (D ++ [x]) (keyA x) = some x) : RepF (fun y => if y = keyA x then some (.agg (enC x A n c).toArray) else f y) (D ++ [x]) := fun key => by
  by_cases hk : key = keyA x
  · subst hk
    rw [hs]
    exact ⟨A, n, c, if_pos rfl⟩
  · have h1 : best (D ++ [x]) key = best D key := by
      rw [best_snoc, bestS_eq, if_neg]
      simp only [Bool.and_eq_true, beq_iff_eq, not_and]
      exact fun _ e => hk e.symm
    rw [h1]
    have h2 := h key
    cases hb : best D key with
    | none => rw [hb] at h2; exact (if_neg hk).trans h2
    | some y => rw [hb] at h2; obtain ⟨A', n', c', h3⟩ := h2; exact ⟨A', n', c', (if_neg hk).trans h3⟩
theorem best_not {D : List En} {x : En} (h : okRep x = false) (key : Int × List UInt8) : best (D ++ [x]) key = best D key := by rw [best_snoc, bestS_eq, h]; rfl
theorem best_new {D : List En} {x : En} (h : okRep x = true) (hb : best D (keyA x) = none) : best (D ++ [x]) (keyA x) = some x := by rw [best_snoc, bestS_eq, h, hb]; simp
theorem best_less {D : List En} {x y : En} (h : okRep x = true) (hb : best D (keyA x) = some y) (hl : x.seq < y.seq) : best (D ++ [x]) (keyA x) = some x := by rw [best_snoc, bestS_eq, h, hb]; simp [hl]
theorem best_more {D : List En} {x y : En} (h : okRep x = true) (hb : best D (keyA x) = some y) (hl : ¬ x.seq < y.seq) (key : Int × List UInt8) : best (D ++ [x]) key = best D key := by
  rw [best_snoc, bestS_eq]
  by_cases hk : keyA x = key
  · subst hk; rw [hb]; simp [h, hl]
  · rw [if_neg]; simp [hk]
theorem dd_dup {es : List En} {k : Nat} {x : En} (h : es[k]? = some x) (hd : ((dd (es.take k)).any fun y => keyE y == keyE x) = true) : dd (es.take (k + 1)) = dd (es.take k) := by rw [dd_step h, ddS, if_pos hd]
theorem dd_new {es : List En} {k : Nat} {x : En} (h : es[k]? = some x) (hd : ((dd (es.take k)).any fun y => keyE y == keyE x) = false) : dd (es.take (k + 1)) = dd (es.take k) ++ [x] := by rw [dd_step h, ddS, if_neg (by rw [hd]; simp)]
def snF (D : List En) (k : Int × Int) : Bool := D.any fun y => keyE y == k
theorem snF_snoc (D : List En) (x : En) (k : Int × Int) : snF (D ++ [x]) k = if k = keyE x then true else snF D k := by
  rw [snF, snF, List.any_append]
  by_cases h : k = keyE x
  · subst h; simp
  · rw [if_neg h]; simp [show (keyE x == k) = false from by simpa using fun e => h e.symm]
end Go.Proofs.YtgoefpbicohkfaaGreatDoor
