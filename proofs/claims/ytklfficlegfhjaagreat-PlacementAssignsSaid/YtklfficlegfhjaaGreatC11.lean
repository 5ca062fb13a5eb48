/- Several texts in one: Qt, Kb, Qu. -/
import Derived.Test.YtklfficlegfhjaaGreatC10
import Derived.Test.YtklfficlegfhjaaGreatShelf
import Derived.Test.YtklfficlegfhjaaGreatC3
/- Exact worlds; the order of holders; slices.SortFunc of holders and places. (Printed by wip/bin/mk34.py.) -/
namespace Go.Proofs.YtklfficlegfhjaaGreat
open Go Go.RowKit Go.Lib Go.Sort Gf Sha

instance : Inhabited Hd := ⟨⟨0, 0, 0⟩⟩
instance : Inhabited Pl := ⟨⟨[], 0, 0⟩⟩
theorem drewN_grow (w : World) (os : Array Obj) (n : Nat) : (grow w os).drewN n = grow (w.drewN n) os := rfl
/-- Only new blocks, and draws. -/
def Gw (w w' : World) : Prop := ∃ q os, w' = grow (w.drewN q) os
theorem Gw.refl (w : World) : Gw w w := ⟨0, #[], by rw [grow_empty]; rfl⟩
theorem Gw.trans {a b c : World} (h : Gw a b) (k : Gw b c) : Gw a c := by
 obtain ⟨q, os, rfl⟩ := h
 obtain ⟨q', os', rfl⟩ := k
 exact ⟨q + q', os ++ os', by rw [drewN_grow, grow_grow, World.drewN_drewN]⟩
theorem Gw.alloc (w : World) (o : Obj) : Gw w (w.alloc o) := ⟨0, #[o], by rw [alloc_eq_grow]; rfl⟩
theorem Gw.drew (w : World) : Gw w w.drew := ⟨1, #[], by rw [grow_empty]; rfl⟩
theorem Gw.below {w w' : World} (h : Gw w w') : Below w.heap.size w w' := by
 obtain ⟨q, os, rfl⟩ := h
 exact ⟨rfl, rfl, rfl, by simp, fun k hk => Go.Sort.heap_grow_old _ _ (by simpa using hk)⟩
theorem Compare_int (x y : Int) (w : World) : Calls Tryz.prog 70 #[.int .i64 x, .int .i64 y] w fun e w' => e = .returned (.int .i64 (compareInt x y)) ∧ w' = w := Tryz.cmp_Compare_int x y w
set_option maxRecDepth 100000 in
set_option maxHeartbeats 2000000 in
theorem or_int (x y : Int) (w : World) (g : Nat) (h : BL w g 3 [.int .i64 x, .int .i64 y]) :
  Calls Tryz.prog 69 #[.slice (some ⟨g, 0, none⟩) 2 2] w fun e w' => e = .returned (.int .i64 (if x = 0 then y else x)) ∧ w' = w := by
 have q0 := h.get (j := 0) rfl
 have q1 := h.get (j := 1) rfl
 by_cases h0 : x = 0
 ·
  rw [if_pos h0]
  have f0 : (x != 0) = false := by rw [h0]; rfl
  clear h h0
  by_cases h1 : y = 0
  ·
   have f1 : (y != 0) = false := by rw [h1]; rfl
   have HY := Lib.hid h1
   clear h1
   go_enter Tryz.func69, Tryz.ntmps69
   go_wp2_with fail
   go_loopw [8] (fun iv wr => w = wr ∧ ∃ k : Nat, k ≤ 2 ∧ iv = .int .i64 (k : Int)) (fun iv _ => 2 - (intOf iv).toNat)
   case atStart => exact ⟨rfl, 0, by omega, rfl⟩
   case round =>
    obtain ⟨rfl, k, hk, rfl⟩ := hrel
    rcases (show k = 0 ∨ k = 1 ∨ k = 2 by omega) with rfl | rfl | rfl
    ·
     go_wp2_with fail
     go_roundw
     case rel => exact ⟨trivial, 1, by omega, by go_num⟩
     case measure => simp [intOf]
    ·
     go_wp2_with fail
     go_roundw
     case rel => exact ⟨trivial, 2, by omega, by go_num⟩
     case measure => simp [intOf]
    ·
     go_wp2_with fail
     go_ret
     exact ⟨by rw [HY.out]; rfl, rfl⟩
  ·
   have f1 : (y != 0) = true := by rw [bne_iff_ne]; exact h1
   clear h1
   go_enter Tryz.func69, Tryz.ntmps69
   go_wp2_with fail
   go_loopw [8] (fun iv wr => w = wr ∧ ∃ k : Nat, k ≤ 1 ∧ iv = .int .i64 (k : Int)) (fun iv _ => 2 - (intOf iv).toNat)
   case atStart => exact ⟨rfl, 0, by omega, rfl⟩
   case round =>
    obtain ⟨rfl, k, hk, rfl⟩ := hrel
    rcases (show k = 0 ∨ k = 1 by omega) with rfl | rfl
    ·
     go_wp2_with fail
     go_roundw
     case rel => exact ⟨trivial, 1, by omega, by go_num⟩
     case measure => simp [intOf]
    ·
     go_wp2_with fail
     go_ret
     exact ⟨rfl, rfl⟩
 ·
  rw [if_neg h0]
  have f0 : (x != 0) = true := by rw [bne_iff_ne]; exact h0
  clear h h0
  go_enter Tryz.func69, Tryz.ntmps69
  go_wp2_with fail
  go_loopw [8] (fun iv wr => w = wr ∧ iv = .int .i64 0) (fun iv _ => 2 - (intOf iv).toNat)
  case atStart => exact ⟨rfl, rfl⟩
  case round =>
   obtain ⟨rfl, rfl⟩ := hrel
   go_wp2_with fail
   go_ret
   exact ⟨rfl, rfl⟩
section
variable {P : Program} {o : Oper} {a : Act}
theorem exec_bsl {t : TypeId} {n : Nat} {parts : Array (Nat × Operand)} (hop : o.op = .buildSlice t n parts) {ps : Array (Nat × Value)} (hps : (parts.map fun (i, x) => (i, a.eval x)) = ps) {v : Value} {w w' : World}
  (hr : (Instr.buildSlice t n ps).run P w = .ok v w') : (execOp a.eval o).run P w = .ok (.value v) w' := by
 unfold execOp
 simp only [hop, hps]
 simp [hr, Result.andThen]
end
theorem bslI2 (x y : Int) (w : World) : (Instr.buildSlice 39 2 #[(0, .int .i64 x), (1, .int .i64 y)]).run Tryz.prog w = .ok (.slice (some ⟨w.heap.size, 0, none⟩) 2 2) (w.alloc (.cells [.int .i64 x, .int .i64 y].toArray 3)) := by kernel_rfl
theorem putCells_sz {α : Type} [Inhabited α] (enc : α → Value) (o : Nat) (d : Array α) (cur : Array Value) : (putCells enc o d cur).size = cur.size := by simp [putCells]
theorem putCells_id (cur : Array Value) (o : Nat) (ts : List Value) (h : o + ts.length ≤ cur.size) : ((putCells id o ts.toArray cur).toList.drop o).take ts.length = ts := by
 apply List.ext_getElem?
 intro i
 by_cases hi : i < ts.length
 ·
  rw [List.getElem?_take_of_lt hi, List.getElem?_drop]
  have h1 : o + i < cur.size := by omega
  have h2 : (putCells id o ts.toArray cur)[o + i]? = some ts[i] := by
   rw [putCells, Array.getElem?_mapIdx, Array.getElem?_eq_getElem h1]
   simp [show o + i < o + ts.length by omega, hi]
  rw [Array.getElem?_toList, h2, List.getElem?_eq_getElem hi]
 ·
  rw [List.getElem?_eq_none (by rw [List.length_take]; omega), List.getElem?_eq_none (by omega)]
/-- The row of a list behind a sort. -/
theorem RW.putK {w : World} {te : TypeId} {g o n c s : Nat} {l ts : List Value} {os : Array Obj} {q : Nat} (h : RW w te s (.slice (some ⟨g, o, none⟩) n c) n l) (hl : ts.length = n * s) :
  RW (grow (putRow id (Sort.ahead w q) g o ts.toArray) os) te s (.slice (some ⟨g, o, none⟩) n c) n ts ∧ Kp (· = g) w (grow (putRow id (Sort.ahead w q) g o ts.toArray) os) := by
 rcases h.2 with ⟨e, _⟩ | ⟨g', o', c', cs, e, hb, h1, h2, h3, h4⟩
 ·
  cases e
 ·
  cases e
  have h5 : n * s ≤ c * s := Nat.mul_le_mul_right _ h1
  have hsz : o + ts.length ≤ cs.toArray.size := by simp; omega
  have hgl := hb.lt
  refine ⟨⟨hl, .inr ⟨g, o, c, (putCells id o ts.toArray cs.toArray).toList, rfl, ?_, h1, h2, ?_, ?_⟩⟩, ⟨rfl, rfl, rfl, by simp, fun k hk hne => ?_⟩⟩
  ·
   show (grow (putRow id (Sort.ahead w q) g o ts.toArray) os).heap[g]? = some _
   rw [heap_grow_old _ _ (by simpa using hgl)]
   have hb' : w.heap[g]? = some (.cells cs.toArray te) := hb
   simp [putRow, mapBlock, Sort.ahead, Array.getElem?_modify, hb', onCells]
  ·
   rw [Array.length_toList, putCells_sz]
   simpa using h3
  ·
   rw [← hl]
   exact putCells_id _ _ _ hsz
  ·
   rw [heap_grow_old _ _ (by simpa using hk)]
   have : g ≠ k := fun e => hne e.symm
   simp [putRow, mapBlock, Sort.ahead, Array.getElem?_modify, this]

theorem hdL_len (x : Hd) : (hdL x).length = 3 := rfl
theorem plL_len (x : Pl) : (plL x).length = 3 := rfl
theorem hds_len (vs : List Hd) : (vs.flatMap hdL).length = vs.length * 3 := flat_length hdL_len vs
theorem flatK_hd (vs : List Hd) : flatK hdL 3 vs.toArray = (vs.flatMap hdL).toArray := by
 apply Array.ext
 ·
  rw [size_flatK, List.size_toArray, List.size_toArray, hds_len]
 ·
  intro i h1 h2
  rw [size_flatK] at h1
  have h1' : i < vs.length * 3 := by simpa using h1
  have h3 : i / 3 < vs.length := by omega
  have h4 := get_flatK hdL 3 vs.toArray i (by simpa using h1)
  rw [getElem!_pos _ i (by rw [size_flatK]; exact h1)] at h4
  rw [h4]
  have h5 : (vs.toArray)[i / 3]! = vs[i / 3] := by rw [getElem!_pos _ _ (by simpa using h3)]; simp
  rw [h5]
  have h6 := flat_split (f := hdL) vs (i / 3) h3
  have h7 : i % 3 < (hdL vs[i / 3]).length := by rw [hdL_len]; omega
  rw [getElem!_pos (hdL vs[i / 3]) (i % 3) h7]
  have h8 : (vs.flatMap hdL)[i]? = some ((hdL vs[i / 3])[i % 3]) := by
   rw [h6, List.append_assoc, List.getElem?_append_right (by rw [hds_len, List.length_take]; omega), List.getElem?_append_left (by rw [hds_len, List.length_take, hdL_len]; omega), hds_len, List.length_take, Nat.min_eq_left (by omega), show i - i / 3 * 3 = i % 3 by omega, List.getElem?_eq_getElem h7]
  have h9 : i < (vs.flatMap hdL).length := by rw [hds_len]; exact h1'
  rw [List.getElem?_eq_getElem h9] at h8
  injection h8 with h8
  simp [h8]

theorem hdAgg (w : World) : (isAgg 76).run Tryz.prog w = .ok true w := agg_isAgg w (show Agg Tryz.prog 76 3 = true by kernel_rfl)
theorem hdSize (w : World) : (sizeOf 76).run Tryz.prog w = .ok 3 w := agg_size w (show Agg Tryz.prog 76 3 = true by kernel_rfl)
theorem sort_hd (cf : Hd → Hd → Int) (hO : SWO (ltOf cf)) (gf : Nat) (cb : Array Value) (eg : ∀ args w, (callFunc gf args).run Tryz.prog w = .ok (.enter gf args) w) (v : Value) (vs : List Hd) (w : World) (h : RW w 76 3 v vs.length (vs.flatMap hdL)) (hn : vs.length < 1000000)
  (hcmp : ∀ (W : World) (x y : Hd), Kp (fun b => v.ownBlock = some b) w W → Calls Tryz.prog gf (#[.agg (hdL x).toArray, .agg (hdL y).toArray] ++ cb) W fun e W' => e = .returned (.int .i64 (cf x y)) ∧ Gw W W') :
  Calls Tryz.prog 78 #[v, .func (.func gf) #[] cb] w fun e w' => e = .returned (.tuple #[]) ∧ ∃ vs' : List Hd, vs'.Perm vs ∧ vs'.Pairwise (fun x y => decide (cf y x < 0) = false) ∧ RW w' 76 3 v vs'.length (vs'.flatMap hdL) ∧ Kp (fun b => v.ownBlock = some b) w w' := by
 rcases h.2 with ⟨rfl, h0⟩ | ⟨g, o, c, cs, rfl, hb, h1, h2, h3, h4⟩
 ·
  obtain rfl : vs = [] := List.eq_nil_of_length_eq_zero h0
  refine (Tryz.slices_SortFunc_none_f78 (α := Hd) none 0 _ w).mono ?_
  rintro e w' ⟨rfl, rfl⟩
  exact ⟨rfl, [], List.Perm.refl _, List.Pairwise.nil, h, Kp.refl _ _⟩
 ·
  have hH : HoldsK hdL 3 w g o vs.toArray := by
   show Holds id w g o _
   rw [flatK_hd]
   intro j hj
   have hj' : j < (vs.flatMap hdL).length := by simpa using hj
   refine ⟨?_, hb.frozen _⟩
   obtain ⟨u, h5⟩ : ∃ u, (vs.flatMap hdL)[j]? = some u := ⟨_, List.getElem?_eq_getElem hj'⟩
   have h7 : (vs.flatMap hdL).toArray[j]! = u := by rw [getElem!_def, List.getElem?_toArray, h5]
   rw [hds_len] at hj'
   rw [← h4, List.getElem?_take_of_lt hj', List.getElem?_drop] at h5
   have h6 := hb.get h5
   rw [h6, h7]
   rfl
  have ew : ∀ (d' : Array Hd) (n : Nat) (os : Array Obj), sortWorldK hdL 3 w g o n d' os = grow (putRow id (Sort.ahead w n) g o (d'.toList.flatMap hdL).toArray) os := fun d' n os => by
   rw [← flatK_hd, Array.toArray_toList]; rfl
  have hlay : CmpLays Tryz.prog gf cb hdL 3 cf g o vs.toArray.size w := fun m os dk hs x y => by
   refine (hcmp _ x y ?_).mono (fun e W' hh => hh)
   rw [ew]
   have hput := h.putK (os := os) (q := m) (ts := dk.toList.flatMap hdL) (by rw [hds_len, show dk.toList.length = vs.length by simpa using hs])
   exact hput.2.mono (fun k _ e => by rw [e]; rfl)
  have hs := Tryz.slices_SortFunc_f78 3 hdAgg hdSize hdL hdL_len one_hd cf hO gf cb g o c vs.toArray w eg hlay hH hb.lt (by simp; omega)
  rw [List.size_toArray] at hs
  refine hs.mono ?_
  rintro e w' ⟨rfl, d', n, os, hp, hso, rfl⟩
  obtain ⟨p1, p2, p3⟩ := hp
  rw [List.size_toArray] at p1
  have hperm : d'.toList.Perm vs := by
   have h9 := p3
   have a1 : d'.extract 0 vs.length = d' := by
    have h8 := Array.extract_size (xs := d')
    rwa [show d'.size = vs.length by simpa using p1] at h8
   have a2 : vs.toArray.extract 0 vs.length = vs.toArray := by
    have h8 := Array.extract_size (xs := vs.toArray)
    rwa [show vs.toArray.size = vs.length by simp] at h8
   rw [a1, a2] at h9
   exact h9
  have hlen : d'.toList.length = vs.length := hperm.length_eq
  have hput := h.putK (os := os) (q := n) (ts := d'.toList.flatMap hdL) (by rw [hds_len, hlen])
  rw [ew]
  refine ⟨rfl, d'.toList, hperm, ?_, by rw [hlen]; exact hput.1, hput.2.mono (fun k _ e => by rw [e]; rfl)⟩
  rw [List.pairwise_iff_getElem]
  intro i j hi hj hij
  have h9 := hso i j (Nat.zero_le _) hij (by omega)
  have e1 : ∀ k (hk : k < d'.toList.length), d'[k]! = d'.toList[k] := fun k hk => by rw [getElem!_pos d' k (by simpa using hk)]; simp
  rw [e1 i hi, e1 j hj] at h9
  exact h9
theorem pls_len (vs : List Pl) : (vs.flatMap plL).length = vs.length * 3 := flat_length plL_len vs
theorem flatK_pl (vs : List Pl) : flatK plL 3 vs.toArray = (vs.flatMap plL).toArray := by
 apply Array.ext
 ·
  rw [size_flatK, List.size_toArray, List.size_toArray, pls_len]
 ·
  intro i h1 h2
  rw [size_flatK] at h1
  have h1' : i < vs.length * 3 := by simpa using h1
  have h3 : i / 3 < vs.length := by omega
  have h4 := get_flatK plL 3 vs.toArray i (by simpa using h1)
  rw [getElem!_pos _ i (by rw [size_flatK]; exact h1)] at h4
  rw [h4]
  have h5 : (vs.toArray)[i / 3]! = vs[i / 3] := by rw [getElem!_pos _ _ (by simpa using h3)]; simp
  rw [h5]
  have h6 := flat_split (f := plL) vs (i / 3) h3
  have h7 : i % 3 < (plL vs[i / 3]).length := by rw [plL_len]; omega
  rw [getElem!_pos (plL vs[i / 3]) (i % 3) h7]
  have h8 : (vs.flatMap plL)[i]? = some ((plL vs[i / 3])[i % 3]) := by
   rw [h6, List.append_assoc, List.getElem?_append_right (by rw [pls_len, List.length_take]; omega), List.getElem?_append_left (by rw [pls_len, List.length_take, plL_len]; omega), pls_len, List.length_take, Nat.min_eq_left (by omega), show i - i / 3 * 3 = i % 3 by omega, List.getElem?_eq_getElem h7]
  have h9 : i < (vs.flatMap plL).length := by rw [pls_len]; exact h1'
  rw [List.getElem?_eq_getElem h9] at h8
  injection h8 with h8
  simp [h8]

theorem plAgg (w : World) : (isAgg 85).run Tryz.prog w = .ok true w := agg_isAgg w (show Agg Tryz.prog 85 3 = true by kernel_rfl)
theorem plSize (w : World) : (sizeOf 85).run Tryz.prog w = .ok 3 w := agg_size w (show Agg Tryz.prog 85 3 = true by kernel_rfl)
theorem sort_pl (cf : Pl → Pl → Int) (hO : SWO (ltOf cf)) (gf : Nat) (cb : Array Value) (eg : ∀ args w, (callFunc gf args).run Tryz.prog w = .ok (.enter gf args) w) (v : Value) (vs : List Pl) (w : World) (h : RW w 85 3 v vs.length (vs.flatMap plL)) (hn : vs.length < 1000000)
  (hcmp : ∀ (W : World) (x y : Pl), Kp (fun b => v.ownBlock = some b) w W → Calls Tryz.prog gf (#[.agg (plL x).toArray, .agg (plL y).toArray] ++ cb) W fun e W' => e = .returned (.int .i64 (cf x y)) ∧ Gw W W') :
  Calls Tryz.prog 67 #[v, .func (.func gf) #[] cb] w fun e w' => e = .returned (.tuple #[]) ∧ ∃ vs' : List Pl, vs'.Perm vs ∧ vs'.Pairwise (fun x y => decide (cf y x < 0) = false) ∧ RW w' 85 3 v vs'.length (vs'.flatMap plL) ∧ Kp (fun b => v.ownBlock = some b) w w' := by
 rcases h.2 with ⟨rfl, h0⟩ | ⟨g, o, c, cs, rfl, hb, h1, h2, h3, h4⟩
 ·
  obtain rfl : vs = [] := List.eq_nil_of_length_eq_zero h0
  refine (Tryz.slices_SortFunc_none_f67 (α := Pl) none 0 _ w).mono ?_
  rintro e w' ⟨rfl, rfl⟩
  exact ⟨rfl, [], List.Perm.refl _, List.Pairwise.nil, h, Kp.refl _ _⟩
 ·
  have hH : HoldsK plL 3 w g o vs.toArray := by
   show Holds id w g o _
   rw [flatK_pl]
   intro j hj
   have hj' : j < (vs.flatMap plL).length := by simpa using hj
   refine ⟨?_, hb.frozen _⟩
   obtain ⟨u, h5⟩ : ∃ u, (vs.flatMap plL)[j]? = some u := ⟨_, List.getElem?_eq_getElem hj'⟩
   have h7 : (vs.flatMap plL).toArray[j]! = u := by rw [getElem!_def, List.getElem?_toArray, h5]
   rw [pls_len] at hj'
   rw [← h4, List.getElem?_take_of_lt hj', List.getElem?_drop] at h5
   have h6 := hb.get h5
   rw [h6, h7]
   rfl
  have ew : ∀ (d' : Array Pl) (n : Nat) (os : Array Obj), sortWorldK plL 3 w g o n d' os = grow (putRow id (Sort.ahead w n) g o (d'.toList.flatMap plL).toArray) os := fun d' n os => by
   rw [← flatK_pl, Array.toArray_toList]; rfl
  have hlay : CmpLays Tryz.prog gf cb plL 3 cf g o vs.toArray.size w := fun m os dk hs x y => by
   refine (hcmp _ x y ?_).mono (fun e W' hh => hh)
   rw [ew]
   have hput := h.putK (os := os) (q := m) (ts := dk.toList.flatMap plL) (by rw [pls_len, show dk.toList.length = vs.length by simpa using hs])
   exact hput.2.mono (fun k _ e => by rw [e]; rfl)
  have hs := Tryz.slices_SortFunc_f67 3 plAgg plSize plL plL_len one_pl cf hO gf cb g o c vs.toArray w eg hlay hH hb.lt (by simp; omega)
  rw [List.size_toArray] at hs
  refine hs.mono ?_
  rintro e w' ⟨rfl, d', n, os, hp, hso, rfl⟩
  obtain ⟨p1, p2, p3⟩ := hp
  rw [List.size_toArray] at p1
  have hperm : d'.toList.Perm vs := by
   have h9 := p3
   have a1 : d'.extract 0 vs.length = d' := by
    have h8 := Array.extract_size (xs := d')
    rwa [show d'.size = vs.length by simpa using p1] at h8
   have a2 : vs.toArray.extract 0 vs.length = vs.toArray := by
    have h8 := Array.extract_size (xs := vs.toArray)
    rwa [show vs.toArray.size = vs.length by simp] at h8
   rw [a1, a2] at h9
   exact h9
  have hlen : d'.toList.length = vs.length := hperm.length_eq
  have hput := h.putK (os := os) (q := n) (ts := d'.toList.flatMap plL) (by rw [pls_len, hlen])
  rw [ew]
  refine ⟨rfl, d'.toList, hperm, ?_, by rw [hlen]; exact hput.1, hput.2.mono (fun k _ e => by rw [e]; rfl)⟩
  rw [List.pairwise_iff_getElem]
  intro i j hi hj hij
  have h9 := hso i j (Nat.zero_le _) hij (by omega)
  have e1 : ∀ k (hk : k < d'.toList.length), d'[k]! = d'.toList[k] := fun k hk => by rw [getElem!_pos d' k (by simpa using hk)]; simp
  rw [e1 i hi, e1 j hj] at h9
  exact h9
end Go.Proofs.YtklfficlegfhjaaGreat
/- find: only new blocks; the order of places. -/
namespace Go.Proofs.YtklfficlegfhjaaGreat
open Go Go.RowKit Go.Lib Go.Sort Gf Sha

set_option maxRecDepth 100000 in
set_option maxHeartbeats 2000000 in
theorem idx_gw (A : Option Addr) (n c gc : Nat) (L : List Wt) (p : Wt → Bool) (w : World) (C : World → Prop) (hL : LS rWt 4 40 w A n c L) (hC : C w) (hCk : ∀ w1 w2, C w1 → Below w1.heap.size w1 w2 → C w2)
  (hf : ∀ w1 x, C w1 → Calls Tryz.prog 62 #[.agg (wtL x).toArray, .pointer (some ⟨gc, 0, none⟩)] w1 fun e w2 => e = .returned (.bool (p x)) ∧ Gw w1 w2) :
  Calls Tryz.prog 61 #[.slice A n c, .func (.func 62) #[] #[.pointer (some ⟨gc, 0, none⟩)]] w fun e w' => ∃ r, e = .returned (.int .i64 r) ∧ idxP p L r ∧ Gw w w' := by
 have hn := hL.len_le
 have H := Lib.hid hL
 have HL := Lib.hid hL.1
 have HC := Lib.hid hC
 have HCK := Lib.hid hCk
 have HF := Lib.hid hf
 clear hL hC hCk hf
 go_enter Tryz.func61, Tryz.ntmps61
 go_wp2_with fail
 go_loopw [8] (fun iv wr => ∃ k : Nat, k ≤ n ∧ iv = .int .i64 (k : Int) ∧ Hid (∀ x ∈ L.take k, p x = false) ∧ Hid (Gw w wr)) (fun iv _ => n - (intOf iv).toNat)
 case atStart => exact ⟨0, by omega, rfl, Lib.hid (fun x hx => by simp at hx), Lib.hid (Gw.refl _)⟩
 case round =>
  obtain ⟨k, hk, rfl, hall, hb⟩ := hrel
  obtain ⟨wx, hwx⟩ : ∃ x, x = wr := ⟨_, rfl⟩
  rw [← hwx] at hb ⊢
  clear hwx
  by_cases hlt : k < n
  ·
   obtain ⟨x, g, o, cs, hs, ea, hat, hr⟩ := H.out.at_ stay_wt hb.out.below hlt
   obtain ⟨rfl, _⟩ := hr
   have HX := Lib.hid hs
   have HA := Lib.hid hat
   subst ea
   clear hs hat
   cases h1 : p x with
   | true =>
    go_wp2_with (first
     | ((with_reducible show OpW 15); refine wpList_loadv _ rfl 74 (.tmp 14) rfl 4 (by kernel_rfl) g (o + k * 4) (wtL x) (by go_simp) HA.out rfl ?_)
     | (go_at_call 62; refine (HF.out wx x (HCK.out _ _ HC.out hb.out.below)).mono ?_; rintro e w2 ⟨rfl, bl⟩; rw [h1]; have HX2 := Lib.hid bl; clear bl))
    go_ret
    exact ⟨(k : Int), rfl, .inr ⟨k, x, rfl, HX.out, h1, hall.out⟩, hb.out.trans HX2.out⟩
   | false =>
    have HALL : Hid (∀ x ∈ L.take (k + 1), p x = false) := Lib.hid (fun y hy => by
     rw [take_next HX.out] at hy
     rcases List.mem_append.1 hy with h | h
     ·
      exact hall.out y h
     ·
      rw [List.mem_singleton.1 h]; exact h1)
    go_wp2_with (first
     | ((with_reducible show OpW 15); refine wpList_loadv _ rfl 74 (.tmp 14) rfl 4 (by kernel_rfl) g (o + k * 4) (wtL x) (by go_simp) HA.out rfl ?_)
     | (go_at_call 62; refine (HF.out wx x (HCK.out _ _ HC.out hb.out.below)).mono ?_; rintro e w2 ⟨rfl, bl⟩; rw [h1]; have HX2 := Lib.hid bl; clear bl))
    go_roundw
    case rel => exact ⟨k + 1, by omega, by go_num, HALL, Lib.hid (hb.out.trans HX2.out)⟩
    case measure => simp [intOf]; omega
  ·
   obtain rfl : k = n := by omega
   go_wp2_with fail
   go_ret
   exact ⟨-1, rfl, .inl ⟨rfl, fun x hx => hall.out x (by rw [take_end HL.out]; exact hx)⟩, hb.out⟩
section
set_option maxRecDepth 100000
set_option maxHeartbeats 4000000
theorem find1_gw (x : Wt) (gc : Nat) (s : List UInt8) (w : World) (hg : w.cell? ⟨gc, 0, none⟩ = some (.string (strB s))) :
  Calls Tryz.prog 62 #[.agg (wtL x).toArray, .pointer (some ⟨gc, 0, none⟩)] w fun e w' => e = .returned (.bool (decide (x.st = s))) ∧ Gw w w' := by
 have e1 : ((strB x.st).toList == (strB s).toList) = decide (x.st = s) := strB_eq _ _
 have q0 : (w.alloc (.cells (wtL x).toArray 74)).cell? ⟨w.heap.size, 0, none⟩ = some (.string (strB x.st)) := (BL.new w 74 (wtL x)).get (j := 0) rfl
 have qs : (w.alloc (.cells (wtL x).toArray 74)).cell? ⟨gc, 0, none⟩ = some (.string (strB s)) := cell_kept ((Below.refl _ w).alloc (Nat.le_refl _) _) hg
 have HG := Lib.hid hg
 clear hg
 go_enter Tryz.func62, Tryz.ntmps62
 go_wp2_with fail
 go_ret
 exact ⟨rfl, Gw.alloc _ _⟩
theorem find_gw (A : Option Addr) (n c : Nat) (ws : List Wt) (s : List UInt8) (w : World) (h : LS rWt 4 40 w A n c ws) :
  Calls Tryz.prog 44 #[.slice A n c, .string (strB s)] w fun e w' => e = .returned (.int .i64 (fdI ws s)) ∧ Gw w w' := by
 have H := Lib.hid h
 clear h
 have HG : Hid (BL (w.alloc (.cells #[.string (strB s)] 9)) w.heap.size 9 [.string (strB s)]) := Lib.hid (BL.new w 9 [.string (strB s)])
 have HL : Hid (LS rWt 4 40 (w.alloc (.cells #[.string (strB s)] 9)) A n c ws) := Lib.hid (H.out.kept stay_wt ((Below.refl _ w).alloc (Nat.le_refl _) _))
 go_enter Tryz.func44, Tryz.ntmps44
 go_wp2_with (first
  | (go_at_call 61; refine (idx_gw A n c w.heap.size ws (fun x => decide (x.st = s)) _ (fun w1 => w1.cell? ⟨w.heap.size, 0, none⟩ = some (.string (strB s))) HL.out (HG.out.get (j := 0) rfl) (fun w1 w2 h1 h2 => cell_kept h2 h1) (fun w1 x h1 => find1_gw x _ s w1 h1)).mono ?_; rintro e w2 ⟨r, rfl, hr, b1⟩; have HR := Lib.hid hr; have HB2 := Lib.hid ((Gw.alloc _ _).trans b1); clear hr b1))
 go_ret
 exact ⟨by rw [idx_of _ _ _ HR.out]; rfl, HB2.out⟩
end

/-! ### the order of places -/
def cfP (ws : List Wt) (a b : Pl) : Int := if compareInt (fdI ws a.st) (fdI ws b.st) = 0 then compareInt a.ix b.ix else compareInt (fdI ws a.st) (fdI ws b.st)
theorem cfP_lt (ws : List Wt) (a b : Pl) : decide (cfP ws a b < 0) = plLt ws a b := by
 unfold cfP plLt compareInt
 by_cases h1 : fdI ws a.st < fdI ws b.st
 ·
  simp [h1]
 ·
  by_cases h2 : fdI ws b.st < fdI ws a.st
  ·
   have h3 : ¬ fdI ws a.st = fdI ws b.st := by omega
   simp [h1, h2, h3]
  ·
   have h3 : fdI ws a.st = fdI ws b.st := by omega
   by_cases h4 : a.ix < b.ix
   ·
    simp [h3, h4]
   ·
    by_cases h5 : b.ix < a.ix <;> simp [h3, h4, h5]
theorem swoP (ws : List Wt) : SWO (ltOf (cfP ws)) := by
 have e : ∀ x y : Pl, ltOf (cfP ws) x y = plLt ws x y := fun x y => cfP_lt _ _ _
 have ht : ∀ x y : Pl, plLt ws x y = true ↔ fdI ws x.st < fdI ws y.st ∨ fdI ws x.st = fdI ws y.st ∧ x.ix < y.ix := fun x y => by unfold plLt; rw [decide_eq_true_eq]
 have hf : ∀ x y : Pl, plLt ws x y = false ↔ ¬ (fdI ws x.st < fdI ws y.st ∨ fdI ws x.st = fdI ws y.st ∧ x.ix < y.ix) := fun x y => by unfold plLt; rw [decide_eq_false_iff_not]
 refine ⟨fun x => ?_, fun x y z h1 h2 => ?_, fun x y z h1 h2 => ?_⟩
 ·
  rw [e, hf]; omega
 ·
  rw [e, ht] at *; omega
 ·
  rw [e, hf] at *; omega
set_option maxRecDepth 100000 in
set_option maxHeartbeats 4000000 in
theorem placed1_any (sb g : Nat) (A : Option Addr) (n c : Nat) (ws : List Wt) (x y : Pl) (W : World) (hs : W.cell? ⟨sb, 0, none⟩ = some (.pointer (some ⟨g, 0, none⟩))) (hg : W.cell? ⟨g, 0, none⟩ = some (.slice A n c)) (hw : LS rWt 4 40 W A n c ws) :
  Calls Tryz.prog 68 #[.agg (plL x).toArray, .agg (plL y).toArray, .pointer (some ⟨sb, 0, none⟩)] W fun e W' => e = .returned (.int .i64 (cfP ws x y)) ∧ Gw W W' := by
 obtain ⟨r0, h0⟩ : ∃ r, r = fdI ws x.st := ⟨_, rfl⟩
 obtain ⟨s0, h9⟩ : ∃ r, r = fdI ws y.st := ⟨_, rfl⟩
 have HF0 := Lib.hid h0
 have HF9 := Lib.hid h9
 obtain ⟨r1, h1⟩ : ∃ r, r = compareInt r0 s0 := ⟨_, rfl⟩
 obtain ⟨r2, h2⟩ : ∃ r, r = compareInt x.ix y.ix := ⟨_, rfl⟩
 have H1 := Lib.hid h1
 have H2 := Lib.hid h2
 obtain ⟨r3, h3⟩ : ∃ r, r = (if r1 = 0 then r2 else r1) := ⟨_, rfl⟩
 have H3 := Lib.hid h3
 have HC : Hid (cfP ws x y = r3) := Lib.hid (by rw [cfP, ← h0, ← h9, ← h1, ← h2, h3])
 clear h0 h9 h1 h2 h3
 have g1 : BL (W.alloc (.cells (plL x).toArray 85)) W.heap.size 85 (plL x) := BL.new W _ _
 have g2 : BL ((W.alloc (.cells (plL x).toArray 85)).alloc (.cells (plL y).toArray 85)) (W.heap.size + 1) 85 (plL y) := by
  have h9 := BL.new (W.alloc (.cells (plL x).toArray 85)) 85 (plL y)
  rwa [show (W.alloc (.cells (plL x).toArray 85)).heap.size = W.heap.size + 1 by simp] at h9
 have G1 := Lib.hid (g1.alloc (.cells (plL y).toArray 85))
 have G2 := Lib.hid g2
 have HS0 := Lib.hid hs
 have HG0 := Lib.hid hg
 have HW0 := Lib.hid hw
 clear g1 g2 hs hg hw
 go_enter Tryz.func68, Tryz.ntmps68
 go_wp2_with fail
 obtain ⟨W2, hW2⟩ : ∃ w, w = (W.alloc (.cells (plL x).toArray 85)).alloc (.cells (plL y).toArray 85) := ⟨_, rfl⟩
 rw [← hW2] at G1 G2 ⊢
 have HW2 : Hid (Gw W W2) := Lib.hid (by rw [hW2]; exact (Gw.alloc _ _).trans (Gw.alloc _ _))
 clear hW2
 have HS : ∀ W3, Gw W2 W3 → Hid (W3.cell? ⟨sb, 0, none⟩ = some (.pointer (some ⟨g, 0, none⟩)) ∧ W3.cell? ⟨g, 0, none⟩ = some (.slice A n c) ∧ W3.cell? ⟨W.heap.size, 0, none⟩ = some (.string (strB x.st)) ∧ W3.cell? ⟨W.heap.size, 1, none⟩ = some (.int .i64 x.ix) ∧ W3.cell? ⟨W.heap.size + 1, 0, none⟩ = some (.string (strB y.st)) ∧ W3.cell? ⟨W.heap.size + 1, 1, none⟩ = some (.int .i64 y.ix)) := fun W3 hW3 => Lib.hid
  ⟨cell_kept (HW2.out.trans hW3).below HS0.out, cell_kept (HW2.out.trans hW3).below HG0.out, cell_kept hW3.below (G1.out.get (j := 0) rfl), cell_kept hW3.below (G1.out.get (j := 1) rfl), cell_kept hW3.below (G2.out.get (j := 0) rfl), cell_kept hW3.below (G2.out.get (j := 1) rfl)⟩
 refine Text.wp_region_text (fun w' => w'.cell? ⟨sb, 0, none⟩ = some (.pointer (some ⟨g, 0, none⟩)) ∧ w'.cell? ⟨g, 0, none⟩ = some (.slice A n c) ∧ w'.cell? ⟨W.heap.size, 0, none⟩ = some (.string (strB x.st)) ∧ w'.cell? ⟨W.heap.size, 1, none⟩ = some (.int .i64 x.ix) ∧ w'.cell? ⟨W.heap.size + 1, 0, none⟩ = some (.string (strB y.st)) ∧ w'.cell? ⟨W.heap.size + 1, 1, none⟩ = some (.int .i64 y.ix)) [(4, 4), (5, 4), (12, 4), (13, 4), (17, 4), (18, 4), (20, 4), (21, 4), (0, 0), (1, 4), (2, 4), (3, 0), (6, 0), (8, 0), (9, 4), (10, 4), (11, 0), (14, 0), (19, 0), (22, 0), (7, 2), (15, 2), (16, 2), (23, 2), (24, 2), (25, 2), (26, 4)] (by kernel_rfl) (by kernel_rfl) (fun _ _ _ _ _ h => h) ((HS _ (Gw.drew _)).out) ?_
 iterate 8 (refine Text.purek rfl rfl (fun K hK => ⟨_, fun w' => by go_simp <;> rfl, ?_⟩); go_simp; refine hK _ ?_; clear hK K)
 (refine Text.heldk rfl rfl (fun K hK => ⟨_, fun w' hw' => by go_simp <;> rfl, ?_⟩); go_simp; refine hK _ ?_; clear hK K)
 iterate 2 (refine Text.purek rfl rfl (fun K hK => ⟨_, fun w' => by go_simp <;> rfl, ?_⟩); go_simp; refine hK _ ?_; clear hK K)
 iterate 3 (refine Text.heldk rfl rfl (fun K hK => ⟨_, fun w' hw' => by go_simp <;> rfl, ?_⟩); go_simp; refine hK _ ?_; clear hK K)
 iterate 2 (refine Text.purek rfl rfl (fun K hK => ⟨_, fun w' => by go_simp <;> rfl, ?_⟩); go_simp; refine hK _ ?_; clear hK K)
 iterate 4 (refine Text.heldk rfl rfl (fun K hK => ⟨_, fun w' hw' => by go_simp <;> rfl, ?_⟩); go_simp; refine hK _ ?_; clear hK K)
 refine Text.eff rfl rfl (fun K hK => ?_)
 go_simp
 refine (find_gw A n c ws x.st _ (HW0.out.kept stay_wt (HW2.out.trans (Gw.drew _)).below)).mono ?_
 rintro e w3 ⟨rfl, hw⟩
 rw [← HF0.out]
 have HG3 : Hid (Gw W2 w3) := Lib.hid ((Gw.drew _).trans hw)
 clear hw
 refine hK _ _ (HS _ HG3.out).out ?_
 clear hK K
 refine Text.eff rfl rfl (fun K hK => ?_)
 go_simp
 refine (find_gw A n c ws y.st _ (HW0.out.kept stay_wt (HW2.out.trans HG3.out).below)).mono ?_
 rintro e w4 ⟨rfl, hw⟩
 rw [← HF9.out]
 have HG4 : Hid (Gw W2 w4) := Lib.hid (HG3.out.trans hw)
 clear hw
 refine hK _ _ (HS _ HG4.out).out ?_
 clear hK K
 refine Text.eff rfl rfl (fun K hK => ?_)
 go_simp
 refine (Compare_int r0 s0 _).mono ?_
 rintro e w5 ⟨rfl, hw⟩
 rw [hw, ← H1.out]
 clear hw w5
 refine hK _ _ (HS _ HG4.out).out ?_
 clear hK K
 refine Text.eff rfl rfl (fun K hK => ?_)
 go_simp
 refine (Compare_int x.ix y.ix _).mono ?_
 rintro e w5 ⟨rfl, hw⟩
 rw [hw, ← H2.out]
 clear hw w5
 refine hK _ _ (HS _ HG4.out).out ?_
 clear hK K
 refine Text.eff rfl rfl (fun K hK => ?_)
 refine Text.bag_run (show (execOp _ _).run Tryz.prog w4 = .ok (.value _) _ from exec_bsl rfl (ps := #[(0, .int .i64 r1), (1, .int .i64 r2)]) (by rw [List.map_toArray]; rfl) (bslI2 r1 r2 _)) ?_
 have HA : Hid (BL (w4.alloc (.cells [.int .i64 r1, .int .i64 r2].toArray 3)) w4.heap.size 3 [.int .i64 r1, .int .i64 r2]) := Lib.hid (BL.new _ _ _)
 refine hK _ _ (HS _ (HG4.out.trans (Gw.alloc _ _))).out ?_
 clear hK K
 refine Text.eff rfl rfl (fun K hK => ?_)
 go_simp
 refine (or_int r1 r2 _ _ HA.out).mono ?_
 rintro e w5 ⟨rfl, hw⟩
 rw [hw, ← H3.out]
 clear hw w5
 refine hK _ _ (HS _ (HG4.out.trans (Gw.alloc _ _))).out ?_
 clear hK K
 (refine Text.purek rfl rfl (fun K hK => ⟨_, fun w' => by go_simp <;> rfl, ?_⟩); go_simp; refine hK _ ?_; clear hK K)
 refine Text.done ?_
 go_wp2_with fail
 go_ret
 rw [HC.out]
 exact ⟨rfl, (HW2.out.trans HG4.out).trans (Gw.alloc _ _)⟩
end Go.Proofs.YtklfficlegfhjaaGreat
/- preferred; slices.SortedFunc of holders: the order of preference. -/
namespace Go.Proofs.YtklfficlegfhjaaGreat
open Go Go.RowKit Go.Lib Go.Sort Gf Sha

def cfH (a b : Hd) : Int := if compareInt b.wt a.wt = 0 then compareInt a.dv b.dv else compareInt b.wt a.wt
theorem cfH_lt (a b : Hd) : decide (cfH a b < 0) = pref a b := by
 unfold cfH pref compareInt
 by_cases h1 : b.wt < a.wt
 ·
  simp [h1]
 ·
  by_cases h2 : a.wt < b.wt
  ·
   have h3 : ¬ a.wt = b.wt := by omega
   simp [h1, h2, h3]
  ·
   have h3 : a.wt = b.wt := by omega
   by_cases h4 : a.dv < b.dv
   ·
    simp [h3, h4]
   ·
    by_cases h5 : b.dv < a.dv <;> simp [h3, h4, h5]
theorem swoH : SWO (ltOf cfH) := by
 have e : ∀ x y : Hd, ltOf cfH x y = pref x y := fun x y => cfH_lt _ _
 refine ⟨fun x => ?_, fun x y z h1 h2 => ?_, fun x y z h1 h2 => ?_⟩
 ·
  rw [e, pref_ff]; omega
 ·
  rw [e, pref_tt] at *; omega
 ·
  rw [e, pref_ff] at *; omega
set_option maxRecDepth 100000 in
set_option maxHeartbeats 4000000 in
theorem preferred_any (x y : Hd) (W : World) :
  Calls Tryz.prog 65 #[.agg (hdL x).toArray, .agg (hdL y).toArray] W fun e W' => e = .returned (.int .i64 (cfH x y)) ∧ Gw W W' := by
 obtain ⟨r1, h1⟩ : ∃ r, r = compareInt y.wt x.wt := ⟨_, rfl⟩
 obtain ⟨r2, h2⟩ : ∃ r, r = compareInt x.dv y.dv := ⟨_, rfl⟩
 have H1 := Lib.hid h1
 have H2 := Lib.hid h2
 obtain ⟨r3, h3⟩ : ∃ r, r = (if r1 = 0 then r2 else r1) := ⟨_, rfl⟩
 have H3 := Lib.hid h3
 have HC : Hid (cfH x y = r3) := Lib.hid (by rw [cfH, ← h1, ← h2, h3])
 clear h1 h2 h3
 have g1 : BL (W.alloc (.cells (hdL x).toArray 76)) W.heap.size 76 (hdL x) := BL.new W _ _
 have g2 : BL ((W.alloc (.cells (hdL x).toArray 76)).alloc (.cells (hdL y).toArray 76)) (W.heap.size + 1) 76 (hdL y) := by
  have h9 := BL.new (W.alloc (.cells (hdL x).toArray 76)) 76 (hdL y)
  rwa [show (W.alloc (.cells (hdL x).toArray 76)).heap.size = W.heap.size + 1 by simp] at h9
 have G1 := Lib.hid (g1.alloc (.cells (hdL y).toArray 76))
 have G2 := Lib.hid g2
 clear g1 g2
 go_enter Tryz.func65, Tryz.ntmps65
 go_wp2_with fail
 obtain ⟨W2, hW2⟩ : ∃ w, w = (W.alloc (.cells (hdL x).toArray 76)).alloc (.cells (hdL y).toArray 76) := ⟨_, rfl⟩
 rw [← hW2] at G1 G2 ⊢
 have HW2 : Hid (Gw W W2) := Lib.hid (by rw [hW2]; exact (Gw.alloc _ _).trans (Gw.alloc _ _))
 clear hW2
 have HS : Hid (W2.drew.cell? ⟨W.heap.size + 1, 2, none⟩ = some (.int .i64 y.wt) ∧ W2.drew.cell? ⟨W.heap.size, 2, none⟩ = some (.int .i64 x.wt) ∧ W2.drew.cell? ⟨W.heap.size, 0, none⟩ = some (.int .i64 x.dv) ∧ W2.drew.cell? ⟨W.heap.size + 1, 0, none⟩ = some (.int .i64 y.dv)) := Lib.hid
  ⟨G2.out.get (j := 2) rfl, G1.out.get (j := 2) rfl, G1.out.get (j := 0) rfl, G2.out.get (j := 0) rfl⟩
 refine Text.wp_region_text (fun w' => w'.cell? ⟨W.heap.size + 1, 2, none⟩ = some (.int .i64 y.wt) ∧ w'.cell? ⟨W.heap.size, 2, none⟩ = some (.int .i64 x.wt) ∧ w'.cell? ⟨W.heap.size, 0, none⟩ = some (.int .i64 x.dv) ∧ w'.cell? ⟨W.heap.size + 1, 0, none⟩ = some (.int .i64 y.dv)) [(0, 4), (2, 4), (5, 4), (7, 4), (1, 0), (3, 0), (6, 0), (8, 0), (4, 2), (9, 2), (10, 2), (11, 2), (12, 4)] (by kernel_rfl) (by kernel_rfl) (fun _ _ _ _ _ h => h) (HS.out) ?_
 iterate 4 (refine Text.purek rfl rfl (fun K hK => ⟨_, fun w' => by go_simp <;> rfl, ?_⟩); go_simp; refine hK _ ?_; clear hK K)
 iterate 4 (refine Text.heldk rfl rfl (fun K hK => ⟨_, fun w' hw' => by go_simp <;> rfl, ?_⟩); go_simp; refine hK _ ?_; clear hK K)
 refine Text.eff rfl rfl (fun K hK => ?_)
 go_simp
 refine (Compare_int y.wt x.wt _).mono ?_
 rintro e w3 ⟨rfl, hw⟩
 rw [hw, ← H1.out]
 clear hw w3
 refine hK _ _ HS.out ?_
 clear hK K
 refine Text.eff rfl rfl (fun K hK => ?_)
 go_simp
 refine (Compare_int x.dv y.dv _).mono ?_
 rintro e w3 ⟨rfl, hw⟩
 rw [hw, ← H2.out]
 clear hw w3
 refine hK _ _ HS.out ?_
 clear hK K
 refine Text.eff rfl rfl (fun K hK => ?_)
 refine Text.bag_run (show (execOp _ _).run Tryz.prog W2.drew = .ok (.value _) _ from exec_bsl rfl (ps := #[(0, .int .i64 r1), (1, .int .i64 r2)]) (by rw [List.map_toArray]; rfl) (bslI2 r1 r2 _)) ?_
 have HA : Hid (BL (W2.drew.alloc (.cells [.int .i64 r1, .int .i64 r2].toArray 3)) W2.drew.heap.size 3 [.int .i64 r1, .int .i64 r2]) := Lib.hid (BL.new _ _ _)
 have HS3 : Hid ((W2.drew.alloc (.cells [.int .i64 r1, .int .i64 r2].toArray 3)).cell? ⟨W.heap.size + 1, 2, none⟩ = some (.int .i64 y.wt) ∧ (W2.drew.alloc (.cells [.int .i64 r1, .int .i64 r2].toArray 3)).cell? ⟨W.heap.size, 2, none⟩ = some (.int .i64 x.wt) ∧ (W2.drew.alloc (.cells [.int .i64 r1, .int .i64 r2].toArray 3)).cell? ⟨W.heap.size, 0, none⟩ = some (.int .i64 x.dv) ∧ (W2.drew.alloc (.cells [.int .i64 r1, .int .i64 r2].toArray 3)).cell? ⟨W.heap.size + 1, 0, none⟩ = some (.int .i64 y.dv)) := Lib.hid
  ⟨(G2.out.drew.alloc _).get (j := 2) rfl, (G1.out.drew.alloc _).get (j := 2) rfl, (G1.out.drew.alloc _).get (j := 0) rfl, (G2.out.drew.alloc _).get (j := 0) rfl⟩
 refine hK _ _ HS3.out ?_
 clear hK K
 refine Text.eff rfl rfl (fun K hK => ?_)
 go_simp
 refine (or_int r1 r2 _ _ HA.out).mono ?_
 rintro e w3 ⟨rfl, hw⟩
 rw [hw, ← H3.out]
 clear hw w3
 refine hK _ _ HS3.out ?_
 clear hK K
 (refine Text.purek rfl rfl (fun K hK => ⟨_, fun w' => by go_simp <;> rfl, ?_⟩); go_simp; refine hK _ ?_; clear hK K)
 refine Text.done ?_
 go_wp2_with fail
 go_ret
 rw [HC.out]
 exact ⟨rfl, (HW2.out.trans (Gw.drew _)).trans (Gw.alloc _ _)⟩
theorem hd_ls {w : World} {A : Option Addr} {n c b : Nat} {L : List Hd} (h : RW w 76 3 (.slice A n c) n (L.flatMap hdL)) (hl : L.length = n) (hok : ∀ x ∈ L, okHd x) (hb : n * b ≤ lim) : LS rHd 3 b w A n c L := by
 obtain ⟨A', c', e, hnc⟩ := h.form
 cases e
 refine ⟨hl, hnc, hb, fun k hk => ?_⟩
 obtain ⟨g, o, c', e, _, hat⟩ := h.at_ (by omega)
 cases e
 exact ⟨g, o, hdL L[k], rfl, hat.elem hdL_len hk, rfl, hok _ (List.getElem_mem hk)⟩
end Go.Proofs.YtklfficlegfhjaaGreat
