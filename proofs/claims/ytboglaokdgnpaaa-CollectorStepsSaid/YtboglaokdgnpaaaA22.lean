/- Several texts in one: Tc, Td, Te, Va. -/
import Derived.Test.YtboglaokdgnpaaaA21
import Derived.Test.YtboglaokdgnpaaaShelf
import Derived.Sort.OwnSorted
/- slices.Sort and slices.Compact of strings of the call's own. -/
namespace Go.Proofs.Ytboglaokdgnpaaa
open Go Go.RowKit Gf Sha Go.Sort

/-- The sorted list. -/
def ssort (z : List (List UInt8)) : List (List UInt8) := z.mergeSort fun x y => decide (x ≤ y)
theorem ssort_length (z : List (List UInt8)) : (ssort z).length = z.length := by simp [ssort]
theorem ssort_mem (z : List (List UInt8)) (x : List UInt8) : x ∈ ssort z ↔ x ∈ z := by simp [ssort]
theorem putCells_size {α : Type} [Inhabited α] (enc : α → Value) (o : Nat) (d : Array α) (cur : Array Value) : (putCells enc o d cur).size = cur.size := by simp [putCells]
theorem putCells_row (cur : Array Value) (o : Nat) (ts : List (List UInt8)) (h : o + ts.length ≤ cur.size) : ((putCells encStr o ts.toArray cur).toList.drop o).take ts.length = ts.map usC := by
 apply List.ext_getElem?
 intro j
 by_cases hj : j < ts.length
 ·
  rw [List.getElem?_take_of_lt hj, List.getElem?_drop, Array.getElem?_toList]
  have h1 : o + j < cur.size := by omega
  simp [putCells, hj, h1, usC, strB]
 ·
  rw [List.getElem?_take_eq_none (by omega), List.getElem?_eq_none (by simp; omega)]
section
variable {w : World} {g o n c : Nat} {z ts : List (List UInt8)}
theorem RW.holds (h : RW w 9 1 (.slice (some ⟨g, o, none⟩) n c) n (z.map usC)) : Holds encStr w g o z.toArray ∧ g < w.heap.size := by
 have hl := h.1
 rcases h.2 with ⟨e, _⟩ | ⟨g', o', c', cs, e, hb, h1, h2, h3, h4⟩
 ·
  cases e
 ·
  cases e
  refine ⟨fun j hj => ?_, hb.lt⟩
  have hj' : j < z.length := by simpa using hj
  refine ⟨?_, hb.frozen _⟩
  have h5 : (z.map usC)[j]? = some (usC z[j]) := by rw [List.getElem?_map, List.getElem?_eq_getElem hj']; rfl
  rw [← h4, List.getElem?_take_of_lt (by simp at hl; omega), List.getElem?_drop] at h5
  have := hb.get h5
  rw [this]
  simp [usC, strB, hj']
theorem RW.put {os : Array Obj} {q : Nat} (h : RW w 9 1 (.slice (some ⟨g, o, none⟩) n c) n (z.map usC)) (hl : ts.length = n) :
  RW (grow (putRow encStr (Sort.ahead w q) g o ts.toArray) os) 9 1 (.slice (some ⟨g, o, none⟩) n c) n (ts.map usC) ∧ Kp (fun b => (Value.slice (some ⟨g, o, none⟩) n c).ownBlock = some b) w (grow (putRow encStr (Sort.ahead w q) g o ts.toArray) os) := by
 rcases h.2 with ⟨e, _⟩ | ⟨g', o', c', cs, e, hb, h1, h2, h3, h4⟩
 ·
  cases e
 ·
  cases e
  have hsz : o + ts.length ≤ cs.toArray.size := by simp; omega
  have hgl := hb.lt
  refine ⟨⟨by simp [hl], .inr ⟨g, o, c, (putCells encStr o ts.toArray cs.toArray).toList, rfl, ?_, h1, h2, ?_, ?_⟩⟩, ⟨rfl, rfl, rfl, by simp, fun k hk hne => ?_⟩⟩
  ·
   show (grow (putRow encStr (Sort.ahead w q) g o ts.toArray) os).heap[g]? = some _
   rw [heap_grow_old _ _ (by simpa using hgl)]
   have hb' : w.heap[g]? = some (.cells cs.toArray 9) := hb
   simp [putRow, mapBlock, Sort.ahead, Array.getElem?_modify, hb', onCells]
  ·
   rw [Array.length_toList, putCells_size]
   simpa using h3
  ·
   rw [Nat.mul_one, ← hl]
   exact putCells_row _ _ _ hsz
  ·
   rw [heap_grow_old _ _ (by simpa using hk)]
   have : g ≠ k := fun e => hne (by rw [e]; rfl)
   simp [putRow, mapBlock, Sort.ahead, Array.getElem?_modify, this]
theorem RW.cut {te : TypeId} {s k : Nat} {A : Option Addr} {l : List Value} (h : RW w te s (.slice A n c) n l) (hk : k ≤ n) : RW w te s (.slice A k c) k (l.take (k * s)) := by
 have hks : k * s ≤ n * s := Nat.mul_le_mul_right _ hk
 rcases h.2 with ⟨e, h0⟩ | ⟨g', o', c', cs, e, hb, h1, h2, h3, h4⟩
 ·
  cases e
  obtain rfl : k = 0 := by omega
  simpa using RW.nil w te s
 ·
  cases e
  refine ⟨by rw [List.length_take, h.1]; omega, .inr ⟨g', o', c, cs, rfl, hb, by omega, h2, h3, ?_⟩⟩
  rw [← h4, List.take_take, Nat.min_eq_left hks]
end
theorem sort_rw (v : Value) (n : Nat) (z : List (List UInt8)) (w : World) (h : RW w 9 1 v n (z.map usC)) (hn : n < 4611686018427387904) :
  Calls Try.prog 61 #[v] w fun e w' => e = .returned (.tuple #[]) ∧ RW w' 9 1 v n ((ssort z).map usC) ∧ Kp (fun b => v.ownBlock = some b) w w' := by
 have hl := h.1
 simp only [List.length_map, Nat.mul_one] at hl
 rcases h.2 with ⟨rfl, h0⟩ | ⟨g, o, c, cs, rfl, hb, h1, h2, h3, h4⟩
 ·
  subst h0
  refine (Try.slices_Sort_string_none none 0 w).mono ?_
  rintro e w' ⟨rfl, rfl⟩
  obtain rfl : z = [] := List.length_eq_zero_iff.1 hl
  exact ⟨rfl, by simpa [ssort] using h, Kp.refl _ _⟩
 ·
  obtain ⟨hh, hg⟩ := h.holds
  have := Try.slices_Sort_string g o c z w hh hg (by omega)
  rw [hl] at this
  refine this.mono ?_
  rintro e w' ⟨rfl, q, os, rfl⟩
  exact ⟨rfl, h.put (by rw [← hl]; exact ssort_length z)⟩
theorem compact_len_le (z : List (List UInt8)) : (Lib.compact z).length ≤ z.length := by
 unfold Lib.compact Lib.compactUpTo
 rw [List.length_map]
 exact Nat.le_trans (List.length_filter_le _ _) (by simp)
theorem compact_rw (v : Value) (n : Nat) (z : List (List UInt8)) (w : World) (h : RW w 9 1 v n (z.map usC)) (hn : n < 4611686018427387904) :
  Calls Try.prog 62 #[v] w fun e w' => ∃ v', e = .returned v' ∧ RW w' 9 1 v' (Lib.compact z).length ((Lib.compact z).map usC) ∧ v'.ownBlock = v.ownBlock ∧ Kp (fun b => v.ownBlock = some b) w w' := by
 have hl := h.1
 simp only [List.length_map, Nat.mul_one] at hl
 rcases h.2 with ⟨rfl, h0⟩ | ⟨g, o, c, cs, rfl, hb, h1, h2, h3, h4⟩
 ·
  subst h0
  refine (Try.slices_Compact_string_empty none 0 w).mono ?_
  rintro e w' ⟨rfl, rfl⟩
  obtain rfl : z = [] := List.length_eq_zero_iff.1 hl
  exact ⟨_, rfl, h, rfl, Kp.refl _ _⟩
 ·
  obtain ⟨hh, hg⟩ := h.holds
  have := Try.slices_Compact_string g o c z w hh (by omega) (by omega)
  rw [hl] at this
  refine this.mono ?_
  rintro e w' ⟨rfl, q, rfl⟩
  have hc : (Lib.compact z).length ≤ n := by rw [← hl]; exact compact_len_le z
  have h9 := h.put (os := #[]) (q := q) (ts := Lib.compact z ++ List.replicate (n - (Lib.compact z).length) []) (by simp; omega)
  rw [grow_empty] at h9
  refine ⟨_, rfl, ?_, rfl, h9.2⟩
  have h10 := h9.1.cut hc
  rw [Nat.mul_one, List.map_append, List.take_left' (by simp)] at h10
  exact h10

/-- A list of strings that was built is a row of strings, and the other way round. -/
theorem OL.to_rw {w0 w : World} {v : Value} {L : List (List UInt8)} (h : OL rStr 1 9 w0 w v L) : RW w 9 1 v L.length (L.map usC) ∧ (∀ x ∈ L, x.length ≤ reachBytes) ∧ ∀ b, v.ownBlock = some b → w0.heap.size ≤ b := by
 obtain ⟨css, h1, h2, h3, h4, h5⟩ := h
 have e : ∀ (css : List (List Value)) (L : List (List UInt8)), css.length = L.length → (∀ k (h : k < L.length) (h' : k < css.length), rStr w0 css[k] L[k]) → css.flatten = L.map usC := by
  intro css
  induction css with
  | nil => intro L hl _; cases L with
   | nil => rfl
   | cons a r => simp at hl
  | cons a r ih =>
   intro L hl h3
   cases L with
   | nil => simp at hl
   | cons b t =>
    have h0 := (h3 0 (by simp) (by simp)).1
    simp only [List.getElem_cons_zero] at h0
    rw [List.flatten_cons, h0, List.map_cons, ih t (by simpa using hl) (fun k h h' => h3 (k + 1) (by simpa using h) (by simpa using h'))]
    rfl
 rw [e css L h1 h3] at h4
 refine ⟨h4, fun x hx => ?_, h5⟩
 obtain ⟨k, hk, rfl⟩ := List.getElem_of_mem hx
 exact (h3 k hk (by omega)).2
theorem OL.of_rw {w0 w : World} {v : Value} {L : List (List UInt8)} (h : RW w 9 1 v L.length (L.map usC)) (h1 : ∀ x ∈ L, x.length ≤ reachBytes) (h2 : ∀ b, v.ownBlock = some b → w0.heap.size ≤ b) : OL rStr 1 9 w0 w v L := by
 refine ⟨L.map fun x => [usC x], by simp, fun cs hcs => ?_, fun k hk hk' => ?_, ?_, h2⟩
 ·
  obtain ⟨x, _, rfl⟩ := List.mem_map.1 hcs; rfl
 ·
  rw [List.getElem_map]
  exact ⟨rfl, h1 _ (List.getElem_mem hk)⟩
 ·
  have : (L.map fun x => [usC x]).flatten = L.map usC := by
   clear h h1
   induction L with
   | nil => rfl
   | cons a r ih => rw [List.map_cons, List.flatten_cons, ih]; rfl
  rw [this]; exact h
end Go.Proofs.Ytboglaokdgnpaaa
/- The closure of propose: it counts the refs of a carried stripe. -/
namespace Go.Proofs.Ytboglaokdgnpaaa
open Go Go.RowKit Gf Sha

section
variable {P : Program} (w : World) {ops : Array Oper} {rest : List Oper} {o : Oper} {a : Act} {Q : Exit → Act → World → Prop}
/-- A variable of one cell that holds a value. -/
theorem wpList_box1 (hg : o.guard = none) (t : TypeId) (x : Operand) (hop : o.op = .box t x) (v : Value) (hx : a.eval x = v) (hc : v.cells = #[v])
  (h : ∀ w', BL w' w.heap.size t [v] → Below w.heap.size w w' → w'.heap.size = w.heap.size + 1 → wpList P ops Q rest (a.put o.dst (.pointer (some ⟨w.heap.size, 0, none⟩))) w') : wpList P ops Q (o :: rest) a w :=
 wpList_plain hg fun K hK => by
  unfold Oper.wp execOp
  simp only [hop, hx]
  simp [Instr.box, newVar, newRow, hc, Result.andThen]
  exact hK _ _ (h _ (BL.new w t [v]) ((Below.refl _ _).alloc (Nat.le_refl _) _) (by simp))
end
/-- Counts of names far from the ends of an int. -/
def SmallF (f : List UInt8 → Int) : Prop := ∀ n, -1000000 ≤ f n ∧ f n ≤ 1000000
def addF (f : List UInt8 → Int) (l : List Rf) (d : Int) : List UInt8 → Int := fun n => f n + d * cntN l n
theorem addF_nil (f : List UInt8 → Int) (d : Int) : addF f [] d = f := by
 funext n; simp [addF, cntN]
set_option maxRecDepth 100000 in
set_option maxHeartbeats 2000000 in
theorem pcount_any (w : World) (b : Nat) (m0 m1 m2 m3 m4 m5 m6 m7 : Nat) (a0 : Option Addr) (n0 c0 : Nat) (a1 : Option Addr) (n1 c1 : Nat) (a2 : Option Addr) (n2 c2 : Nat) (a3 : Option Addr) (n3 c3 : Nat) (a4 : Option Addr) (n4 c4 : Nat) (a5 : Option Addr) (n5 c5 : Nat) (p : Int) (st : St) (h : StM w b m0 m1 m2 m3 m4 m5 m6 m7 a0 n0 c0 a1 n1 c1 a2 n2 c2 a3 n3 c3 a4 n4 c4 a5 n5 c5 p st)
  (g1 g2 ms : Nat) (f : List UInt8 → Int) (hc1 : BL w g1 74 [.pointer (some ⟨b, 0, none⟩)]) (hc2 : BL w g2 77 [.map (some ms)]) (hf : MG Try.prog 9 usC (.int .i64 0) w ms (fun x => .int .i64 (f x))) (hsm : SmallF f)
  (s : Sp) (hid : s.id.length ≤ reachBytes) (A : Option Addr) (n c : Nat) (hl : LS rRf 3 32 w A n c s.refs) (hn8 : n ≤ 1000000) (d : Int) (hd1 : -1 ≤ d) (hd2 : d ≤ 1) :
  Calls Try.prog 81 #[.agg (spC s A n c).toArray, .int .i64 d, .pointer (some ⟨g1, 0, none⟩), .pointer (some ⟨g2, 0, none⟩)] w fun e w' => e = .returned (.tuple #[]) ∧ MG Try.prog 9 usC (.int .i64 0) w' ms (fun x => .int .i64 ((if st.carr s.id then addF f s.refs d else f) x)) ∧ Kp (· = ms) w w' := by
 have hn := hl.len_le
 have H := Lib.hid hl
 have HL := Lib.hid hl.1
 have HS := Lib.hid h
 have HM := Lib.hid hsm
 have HN8 := Lib.hid hn8
 have HC1 := Lib.hid hc1
 have HC2 := Lib.hid hc2
 have HF := Lib.hid hf
 have HKI := Lib.hid (keyS s.id (reach_key hid))
 clear h hl hsm hn8 hc1 hc2 hf hid
 cases h1 : st.carr s.id with
 | false =>
  go_enter Try.func81, Try.ntmps81
  go_wp2_with (first
   | ((with_reducible show OpW 4); refine wpList_box _ rfl 61 (.tmp 0) rfl (spC s A n c) rfl ?_; intro w1 a1 a2 a3; have HB1 := Lib.hid a2; have HT1 := Lib.hid a1; have r0 := a1.get (j := 0) rfl; have q0 := (HC1.out.kept a2).get (j := 0) rfl; have q11 := (HS.out.blk.kept a2).get (j := 11) rfl; clear a1 a2 a3))
  refine Text.wp_region_text (fun _ => True) [(4, 4), (0, 1), (1, 4), (2, 4), (3, 1), (5, 1), (6, 2)] (by kernel_rfl) (by kernel_rfl) (fun _ _ _ _ _ h => h) (trivial) ?_
  (refine Text.purek rfl rfl (fun K hK => ⟨_, fun w' => by go_simp <;> rfl, ?_⟩); go_simp; refine hK _ ?_; clear hK K)
  (refine Text.readk rfl rfl (fun K hK => ⟨_, by go_simp <;> rfl, ?_⟩); go_simp; refine hK _ ?_; clear hK K)
  iterate 2 (refine Text.purek rfl rfl (fun K hK => ⟨_, fun w' => by go_simp <;> rfl, ?_⟩); go_simp; refine hK _ ?_; clear hK K)
  iterate 2 (refine Text.readk rfl rfl (fun K hK => ⟨_, by go_simp <;> rfl, ?_⟩); go_simp; refine hK _ ?_; clear hK K)
  refine Text.eff rfl rfl (fun K hK => ?_)
  refine wp_lookG _ (.tmp 11) (.tmp 13) 78 9 4 rfl strKeyed mapSB (.bool false) boolZero m4 _ rfl (HS.out.maps.kept HB1.out.drew).carr s.id rfl HKI.out ?_
  rw [h1]
  go_simp
  refine hK _ _ trivial ?_
  clear hK K
  refine Text.done ?_
  go_wp2_with fail
  refine bodyPost_end (v := .tuple #[]) (by simp [results, Try.results81]) rfl ?_
  exact ⟨rfl, HF.out.kept HB1.out.drew, Kp.of_below HB1.out.drew⟩
 | true =>
  go_enter Try.func81, Try.ntmps81
  go_wp2_with (first
   | ((with_reducible show OpW 4); refine wpList_box _ rfl 61 (.tmp 0) rfl (spC s A n c) rfl ?_; intro w1 a1 a2 a3; have HB1 := Lib.hid a2; have HT1 := Lib.hid a1; have r0 := a1.get (j := 0) rfl; have q0 := (HC1.out.kept a2).get (j := 0) rfl; have q11 := (HS.out.blk.kept a2).get (j := 11) rfl; clear a1 a2 a3))
  refine Text.wp_region_text (fun _ => True) [(4, 4), (0, 1), (1, 4), (2, 4), (3, 1), (5, 1), (6, 2)] (by kernel_rfl) (by kernel_rfl) (fun _ _ _ _ _ h => h) (trivial) ?_
  (refine Text.purek rfl rfl (fun K hK => ⟨_, fun w' => by go_simp <;> rfl, ?_⟩); go_simp; refine hK _ ?_; clear hK K)
  (refine Text.readk rfl rfl (fun K hK => ⟨_, by go_simp <;> rfl, ?_⟩); go_simp; refine hK _ ?_; clear hK K)
  iterate 2 (refine Text.purek rfl rfl (fun K hK => ⟨_, fun w' => by go_simp <;> rfl, ?_⟩); go_simp; refine hK _ ?_; clear hK K)
  iterate 2 (refine Text.readk rfl rfl (fun K hK => ⟨_, by go_simp <;> rfl, ?_⟩); go_simp; refine hK _ ?_; clear hK K)
  refine Text.eff rfl rfl (fun K hK => ?_)
  refine wp_lookG _ (.tmp 11) (.tmp 13) 78 9 4 rfl strKeyed mapSB (.bool false) boolZero m4 _ rfl (HS.out.maps.kept HB1.out.drew).carr s.id rfl HKI.out ?_
  rw [h1]
  go_simp
  refine hK _ _ trivial ?_
  clear hK K
  refine Text.done ?_
  have r5 := (HT1.out.kept (Below.refl _ _).drew).get (j := 5) rfl
  go_wp2_with fail
  clear r5
  go_loopw [18] (fun iv wr => ∃ k : Nat, k ≤ n ∧ iv = .int .i64 (k : Int) ∧ Hid (MG Try.prog 9 usC (.int .i64 0) wr ms (fun x => .int .i64 (addF f (s.refs.take k) d x))) ∧ Hid (Kp (· = ms) w wr)) (fun iv _ => n - (intOf iv).toNat)
  case atStart => exact ⟨0, by omega, rfl, Lib.hid (by rw [List.take_zero, addF_nil]; exact HF.out.kept HB1.out.drew), Lib.hid (Kp.of_below HB1.out.drew)⟩
  case round =>
   obtain ⟨k, hk, rfl, hm, hb⟩ := hrel
   obtain ⟨wx, hwx⟩ : ∃ x, x = wr := ⟨_, rfl⟩
   rw [← hwx] at hm hb ⊢
   clear hwx
   have HP : Hid (Mp w wx) := Lib.hid ⟨(· = ms), hb.out, fun i _ e => by subst e; exact HF.out.isMap⟩
   by_cases hlt : k < n
   ·
    obtain ⟨r, g, o, cs, hs, rfl, hat, rfl, hok⟩ := H.out.at_ stay_rf (Below.refl _ _) hlt
    have HA := Lib.hid (HP.out.at hat)
    have HKS := Lib.hid (keyS r.1 (reach_key hok.1))
    have HTK : Hid (s.refs.take (k + 1) = s.refs.take k ++ [r]) := Lib.hid (take_next hs)
    have HKL : Hid ((s.refs.take k).length = k) := Lib.hid (by rw [List.length_take, HL.out]; omega)
    clear hs hat hok
    obtain ⟨N, hN⟩ : ∃ N, N = addF f (s.refs.take k) d r.1 := ⟨_, rfl⟩
    have eN : IntKind.i64.wrap (N + d) = N + d := by
     rw [IntKind.wrap_i64]
     have h1 := HM.out r.1
     have h2 := cntN_le (s.refs.take k) r.1
     have h3 := mul_one_bound hd1 hd2 h2.1
     have := HKL.out
     have := HN8.out
     have : N = f r.1 + d * cntN (s.refs.take k) r.1 := hN
     omega
    have hNb : -2000000 ≤ N ∧ N ≤ 2000000 := by
     have h1 := HM.out r.1
     have h2 := cntN_le (s.refs.take k) r.1
     have h3 := mul_one_bound hd1 hd2 h2.1
     have := HKL.out
     have := HN8.out
     have : N = f r.1 + d * cntN (s.refs.take k) r.1 := hN
     omega
    have HN := Lib.hid hN
    clear hN
    go_wp2_with (first
     | ((with_reducible show OpW 21); refine wpList_loadv _ rfl 73 (.tmp 20) rfl 3 (by kernel_rfl) g (o + k * 3) (rfL r) (by go_simp) HA.out rfl ?_)
     | ((with_reducible show OpW 7); refine wpList_alloc _ rfl 73 rfl rfZ rfZero ?_; intro w3 a1 a2 a3; have HV3 := Lib.hid a1; have HX3 := Lib.hid a2; clear a1 a2 a3)
     | ((with_reducible show OpN); refine wpList_storev _ rfl 73 (.tmp 7) (.tmp 21) rfl 3 (by kernel_rfl) wx.heap.size 0 _ rfZ (rfL r) rfl rfl HV3.out rfl (one_rf r) (by decide) ?_; intro w4 a1 a2 a3; have HV4 : Hid (BL w4 wx.heap.size 73 (rfL r)) := Lib.hid a1; have HX4 : Hid (Below wx.heap.size wx w4) := Lib.hid (((Kp.of_below (S := fun _ => False) HX3.out).after a2 (fun i hi e => by omega)).below (Nat.le_refl _) (fun _ h => h.elim)); clear a1 a2 a3; have r0 := HV4.out.get (j := 0) rfl; have q2 := ((HP.out.then HX4.out).bl HC2.out).get (j := 0) rfl)
     | ((with_reducible show OpW 25); refine wpList_lookGv _ rfl (.tmp 22) (.tmp 24) 77 9 3 rfl strKeyed mapSI (.int .i64 0) intZero ms _ rfl (hm.out.kept HX4.out) r.1 rfl HKS.out (.int .i64 N) (by rw [HN.out]) ?_)
     | ((with_reducible show OpN); refine wpList_updG _ (fun x y h => usC_inj h) rfl (.tmp 22) (.tmp 24) (.tmp 27) 77 9 3 rfl strKeyed mapSI (.int .i64 0) ms _ rfl (hm.out.kept HX4.out) r.1 (.int .i64 (N + d)) rfl rfl HKS.out ?_; intro w5 a1 a2 a3; have HM5 := Lib.hid a1; have HK5 := Lib.hid a2; clear a1 a2 a3))
    have HN5 : Hid (MG Try.prog 9 usC (.int .i64 0) w5 ms (fun x => .int .i64 (addF f (s.refs.take (k + 1)) d x))) := Lib.hid (HM5.out.to (fun y => by
     rw [HTK.out]
     unfold addF
     rw [cntN_snoc, step_mul]
     by_cases h : y = r.1
     ·
      rw [if_pos h, if_pos h, HN.out, h]; rfl
     ·
      rw [if_neg h, if_neg h]))
    have HB5 : Hid (Kp (· = ms) w w5) := Lib.hid ((hb.out.then HX4.out).trans HK5.out)
    go_roundw
    case rel => exact ⟨k + 1, by omega, by go_num, HN5, HB5⟩
    case measure => simp [intOf]; omega
   ·
    obtain rfl : n = k := by omega
    go_wp2_with fail
    refine bodyPost_end (v := .tuple #[]) (by simp [results, Try.results81]) rfl ?_
    have h9 := hm.out
    rw [take_end HL.out] at h9
    exact ⟨rfl, h9, hb.out⟩
end Go.Proofs.Ytboglaokdgnpaaa
/- The situation's propose: plain facts, its memory. -/
namespace Go.Proofs.Ytboglaokdgnpaaa
open Go Go.RowKit Gf Sha

/-- The refs of carried live stripes. -/
def cfOf (x : Si) (l : List Sp) : List Rf := (l.filter fun s => liveB x s.id && hasB x.carr s.id).flatMap (·.refs)
def sf0 (x : Si) : List UInt8 → Int := cntN (cfOf x x.sp)
def pTake (x : Si) (f : List UInt8 → Int) (s : Sp) : List UInt8 → Int := if hasB x.carr s.id then addF f s.refs (-1) else f
def pOk (x : Si) (f : List UInt8 → Int) (r : Rf) : Bool := !hasB x.need r.1 || decide (0 < f r.1)
def pUp (x : Si) (f : List UInt8 → Int) (s : Sp) : Bool := s.refs.all (pOk x (pTake x f s))
def pStep (x : Si) (fg : (List UInt8 → Int) × List (List UInt8)) (s : Sp) : (List UInt8 → Int) × List (List UInt8) :=
 if unneedB x s || sparseB x s then (if pUp x fg.1 s then (pTake x fg.1 s, fg.2 ++ [s.id]) else fg) else fg
/-- The counts and the stripes given up, behind the first stripes. -/
def pRun (x : Si) (l : List Sp) : (List UInt8 → Int) × List (List UInt8) := l.foldl (pStep x) (sf0 x, [])
def prStp (x : Si) : Stp := ⟨2, ssort (pRun x x.sp).2, ([], 0), []⟩
theorem pRun_step (x : Si) (l : List Sp) (s : Sp) : pRun x (l ++ [s]) = pStep x (pRun x l) s := by
 unfold pRun; rw [List.foldl_append]; rfl
theorem cfOf_step (x : Si) (l : List Sp) (s : Sp) : cfOf x (l ++ [s]) = cfOf x l ++ (if liveB x s.id && hasB x.carr s.id then s.refs else []) := by
 unfold cfOf
 rw [List.filter_append, List.flatMap_append]
 cases h : (liveB x s.id && hasB x.carr s.id) <;> simp [h]
theorem cfOf_len (x : Si) : ∀ (l : List Sp), (∀ s ∈ l, s.refs.length ≤ 8) → (cfOf x l).length ≤ 8 * l.length
 | [], _ => by simp [cfOf]
 | s :: l, h => by
  have h1 := cfOf_len x l (fun t ht => h t (by simp [ht]))
  have h2 := h s (by simp)
  have e : cfOf x (s :: l) = (if liveB x s.id && hasB x.carr s.id then s.refs else []) ++ cfOf x l := by
   unfold cfOf
   cases hl : (liveB x s.id && hasB x.carr s.id) <;> simp [hl]
  rw [e, List.length_append, List.length_cons]
  split
  ·
   omega
  ·
   simp; omega
theorem addF_back (f : List UInt8 → Int) (l : List Rf) : addF (addF f l (-1)) l 1 = f := by
 funext n; unfold addF; omega
theorem pTake_back (x : Si) (f : List UInt8 → Int) (s : Sp) : (if hasB x.carr s.id then addF (pTake x f s) s.refs 1 else pTake x f s) = f := by
 unfold pTake
 by_cases h : hasB x.carr s.id = true
 ·
  rw [if_pos h, if_pos h, addF_back]
 ·
  rw [if_neg h, if_neg h]
theorem pTake_bound (x : Si) (f : List UInt8 → Int) (s : Sp) (h8 : s.refs.length ≤ 8) (n : List UInt8) : f n - 8 ≤ pTake x f s n ∧ pTake x f s n ≤ f n := by
 unfold pTake
 split
 ·
  have := cntN_le s.refs n
  show f n - 8 ≤ f n + -1 * cntN s.refs n ∧ f n + -1 * cntN s.refs n ≤ f n
  omega
 ·
  omega
theorem pRun_bound (x : Si) (h : ∀ s ∈ x.sp, s.refs.length ≤ 8) : ∀ k n, sf0 x n - 8 * k ≤ (pRun x (x.sp.take k)).1 n ∧ (pRun x (x.sp.take k)).1 n ≤ sf0 x n := by
 intro k
 induction k with
 | zero =>
  intro n
  show sf0 x n - 8 * ((0 : Nat) : Int) ≤ sf0 x n ∧ sf0 x n ≤ sf0 x n
  omega
 | succ k ih =>
  intro n
  have h1 := ih n
  by_cases hk : k < x.sp.length
  ·
   have hs : x.sp[k]? = some x.sp[k] := List.getElem?_eq_getElem hk
   rw [take_next hs, pRun_step]
   have h2 := pTake_bound x (pRun x (x.sp.take k)).1 x.sp[k] (h _ (List.getElem_mem hk)) n
   unfold pStep
   split
   ·
    split
    ·
     simp only; omega
    ·
     omega
   ·
    omega
  ·
   have e : x.sp.take (k + 1) = x.sp.take k := by rw [List.take_of_length_le (by omega), List.take_of_length_le (by omega)]
   rw [e]; omega
theorem sp_refs8 {x : Si} (hv : siB x = true) : ∀ s ∈ x.sp, s.refs.length ≤ 8 := fun s hs => by
 obtain ⟨j, hj⟩ := List.mem_iff_getElem?.1 hs
 exact (spB_refs (okB_at (siB_sp hv) hj)).1
theorem cf_bound {x : Si} (hv : siB x = true) (hb : x.sp.length ≤ 1000) (k : Nat) (n : List UInt8) : 0 ≤ cntN (cfOf x (x.sp.take k)) n ∧ cntN (cfOf x (x.sp.take k)) n ≤ 8000 := by
 have h1 := cfOf_len x (x.sp.take k) (fun s hs => sp_refs8 hv s (List.mem_of_mem_take hs))
 have h2 := cntN_le (cfOf x (x.sp.take k)) n
 have h3 : (x.sp.take k).length ≤ x.sp.length := by rw [List.length_take]; omega
 omega
theorem pRun_small {x : Si} (hv : siB x = true) (hb : x.sp.length ≤ 1000) (k : Nat) (hk : k ≤ 1000) (n : List UInt8) : -8000 ≤ (pRun x (x.sp.take k)).1 n ∧ (pRun x (x.sp.take k)).1 n ≤ 8000 := by
 have h1 := pRun_bound x (sp_refs8 hv) k n
 have h2 := cf_bound hv hb x.sp.length n
 rw [List.take_length] at h2
 have e : sf0 x n = cntN (cfOf x x.sp) n := rfl
 omega
theorem pRun_len (x : Si) : ∀ k, (pRun x (x.sp.take k)).2.length ≤ k := by
 intro k
 induction k with
 | zero => exact Nat.le_refl _
 | succ k ih =>
  by_cases hk : k < x.sp.length
  ·
   have hs : x.sp[k]? = some x.sp[k] := List.getElem?_eq_getElem hk
   rw [take_next hs, pRun_step]
   unfold pStep
   split
   ·
    split
    ·
     simp only [List.length_append, List.length_singleton]; omega
    ·
     omega
   ·
    omega
  ·
   have e : x.sp.take (k + 1) = x.sp.take k := by rw [List.take_of_length_le (by omega), List.take_of_length_le (by omega)]
   rw [e]; omega
theorem ptrSz (w : World) : (sizeOf 77).run Try.prog w = .ok 1 w := szOne _ _ (by kernel_rfl) w
theorem mapSIZero : (Try.prog.info? 77).map (·.zero) = some (some (.map none)) := by kernel_rfl
/-- What propose has in memory: the captured variables, the counts, the step. -/
structure PS (w wr : World) (b g1 gs g2 ms : Nat) (f : List UInt8 → Int) (A1 : Option Addr) (k1 C1 : Nat) (G : List (List UInt8)) : Prop where
 c1 : BL wr g1 74 [.pointer (some ⟨b, 0, none⟩)]
 c2 : BL wr g2 77 [.map (some ms)]
 sf : MG Try.prog 9 usC (.int .i64 0) wr ms (fun x => .int .i64 (f x))
 sb : SB w wr gs 2 A1 k1 C1 none 0 0 G []
 ge : w.heap.size ≤ g1 ∧ w.heap.size ≤ g2 ∧ w.heap.size ≤ gs ∧ w.heap.size ≤ ms
 bel : Below w.heap.size w wr
section
variable {w wr w' : World} {b g1 gs g2 ms k1 C1 : Nat} {f f' : List UInt8 → Int} {A1 : Option Addr} {G : List (List UInt8)}
theorem PS.kept (h : PS w wr b g1 gs g2 ms f A1 k1 C1 G) (hb : Below wr.heap.size wr w') : PS w w' b g1 gs g2 ms f A1 k1 C1 G :=
 ⟨h.c1.kept hb, h.c2.kept hb, h.sf.kept hb, h.sb.kept hb, h.ge, below_thenB h.bel h.bel.size hb⟩
theorem RW.ne_map {te : TypeId} {s n : Nat} {v : Value} {l : List Value} {κ : Type} {P : Program} {k : TypeId} {enc : κ → Value} {z : Value} {g : κ → Value} (h : RW wr te s v n l) (hm : MG P k enc z wr ms g) : ∀ b, v.ownBlock = some b → ¬ b = ms := fun b hv e => by
 subst e
 obtain ⟨cs', h1⟩ := h.ty hv
 exact hm.no_cells h1
theorem PS.setF (h : PS w wr b g1 gs g2 ms f A1 k1 C1 G) (hk : Kp (· = ms) wr w') (hf : MG Try.prog 9 usC (.int .i64 0) w' ms (fun x => .int .i64 (f' x))) : PS w w' b g1 gs g2 ms f' A1 k1 C1 G := by
 obtain ⟨_, r1⟩ := h.sb.s.row
 have ne : ∀ {g : Nat} {t : TypeId} {l : List Value}, BL wr g t l → ¬ g = ms := fun hb e => by subst e; exact h.sf.no_cells hb
 refine ⟨hk.bl h.c1 (ne h.c1), hk.bl h.c2 (ne h.c2), hf, ⟨hk.bl h.sb.blk (ne h.sb.blk), h.sb.s.kp hk (r1.ne_map h.sf), OL.nil _ _ _ _ _⟩, h.ge, ?_⟩
 exact (((Kp.of_below (S := fun _ => False) h.bel).after hk (fun i hi e => by have := h.ge; omega)).below (Nat.le_refl _) (fun _ h => h.elim))
theorem PS.push (h : PS w wr b g1 gs g2 ms f A1 k1 C1 G) {w9 : World} {css : List (List Value)} (hl : css.length = G.length) (h2 : ∀ cs ∈ css, cs.length = 1) (h3 : ∀ k (h : k < G.length) (h' : k < css.length), rStr w css[k] G[k]) (h5 : ∀ b, (Value.slice A1 k1 C1).ownBlock = some b → w.heap.size ≤ b)
  (hrw : RW wr 9 1 (.slice A1 k1 C1) k1 css.flatten) {r : List UInt8} (hr : r.length ≤ reachBytes) {A' : Option Addr} {C' : Nat} (ap : AppR wr 9 1 (.slice A1 k1 C1) k1 1 css.flatten [.string (strB r)] (.slice A' (k1 + 1) C') w9) (hb : BL w' gs 44 (sbC 2 A' (k1 + 1) C' none 0 0)) (hk : Kp (· = gs) w9 w') :
  PS w w' b g1 gs g2 ms f A' (k1 + 1) C' (G ++ [r]) := by
 have hg9 : BL w9 gs 44 _ := ap.bl hrw h.sb.blk (by decide)
 have c19 := ap.bl hrw h.c1 (by decide)
 have c29 := ap.bl hrw h.c2 (by decide)
 have sf9 := h.sf.kp ap.kp (fun e => hrw.ne_map h.sf ms e rfl)
 refine ⟨hk.bl c19 (c19.ne hg9 (by decide)), hk.bl c29 (c29.ne hg9 (by decide)), sf9.kp hk (fun e => sf9.no_cells (by rw [e]; exact hg9)), h.sb.pushS h.bel.size hl h2 h3 h5 hrw hr ap hb hk, h.ge, ?_⟩
 exact ((((Kp.of_below (S := fun _ => False) h.bel).after ap.kp (fun i hi e => by have := h5 i e; omega)).after hk (fun i hi e => by have := h.ge; omega)).below (Nat.le_refl _) (fun _ h => h.elim))
end
end Go.Proofs.Ytboglaokdgnpaaa
/- What the steps of a plan do to the collector's state, plainly. -/
namespace Go.Proofs.Ytboglaokdgnpaaa
open Go Gf

def refsAt (x : Si) (st : St) (id : List UInt8) : List Rf := (((st.pl id).bind fun i => x.sp[i]?).map (·.refs)).getD []
def condOn (st : St) (id : List UInt8) : St := { st with cond := fun y => if y = id then true else st.cond y }
def condStep (x : Si) (st : St) (id : List UInt8) : St := if liveT st id then (condOn st id).add (refsAt x st id) (-1) else st
def condRun (x : Si) (st : St) (ids : List (List UInt8)) : St := ids.foldl (condStep x) st
def needOk (st : St) (r : Rf) : Bool := !st.need r.1 || covT st r.1
def condOk (x : Si) (st : St) (ids : List (List UInt8)) : Bool := ids.all fun id => (refsAt x st id).all (needOk st)
def condB (x : Si) (st : St) (ids : List (List UInt8)) : Bool := ids.all (liveT st) && condOk x (condRun x st ids) ids
def forgetStep (st : St) (id : List UInt8) : St :=
 { st with pl := fun y => if y = id then none else st.pl y, cond := fun y => if y = id then false else st.cond y, carr := fun y => if y = id then false else st.carr y }
def fgOk (st : St) (id : List UInt8) : Bool := (st.pl id).isSome && st.drop id
def delHeld (st : St) (p : Pc) : St := { st with held := fun q => if q = p then false else st.held q }
/-- Is a step safe, as the maps say? -/
def takeB (x : Si) (st : St) (s : Stp) : Bool :=
 if s.kind = 3 then st.held s.pc && st.drop s.pc.1
 else if s.kind = 4 then s.sts.all (fgOk st)
 else if s.kind = 1 then s.refs.all fun r => decide (0 < st.ref r)
 else if s.kind = 2 then condB x st s.sts
 else false
/-- What a safe step makes of the maps. -/
def takeS (x : Si) (st : St) (s : Stp) : St :=
 if s.kind = 3 then delHeld st s.pc
 else if s.kind = 4 then s.sts.foldl forgetStep st
 else if s.kind = 1 then st
 else if s.kind = 2 then condRun x st s.sts
 else st
def safeRun (x : Si) (st : St) (l : List Stp) : St := l.foldl (takeS x) st
def safeB (x : Si) : St → List Stp → Bool
 | _, [] => true
 | st, s :: l => takeB x st s && safeB x (takeS x st s) l
theorem safeRun_step (x : Si) (st : St) (l : List Stp) (s : Stp) : safeRun x st (l ++ [s]) = takeS x (safeRun x st l) s := by
 unfold safeRun; rw [List.foldl_append]; rfl
theorem safeB_snoc (x : Si) : ∀ (l : List Stp) (st : St) (s : Stp), safeB x st (l ++ [s]) = (safeB x st l && takeB x (safeRun x st l) s)
 | [], st, s => by simp [safeB, safeRun]
 | a :: l, st, s => by
  show (takeB x st a && safeB x (takeS x st a) (l ++ [s])) = _
  rw [safeB_snoc x l]
  show _ = ((takeB x st a && safeB x (takeS x st a) l) && takeB x (safeRun x (takeS x st a) l) s)
  rw [Bool.and_assoc]
theorem safeB_bad (x : Si) {l : List Stp} {st : St} {k : Nat} {s : Stp} (h : l[k]? = some s) (h1 : takeB x (safeRun x st (l.take k)) s = false) : safeB x st l = false := by
 have e : l = l.take (k + 1) ++ l.drop (k + 1) := (List.take_append_drop _ _).symm
 have h2 : ∀ (r : List Stp) (m : List Stp) (st : St), safeB x st m = false → safeB x st (m ++ r) = false := by
  intro r m
  induction m with
  | nil => intro st h; simp [safeB] at h
  | cons a m ih =>
   intro st h
   show (takeB x st a && safeB x (takeS x st a) (m ++ r)) = false
   have h' : (takeB x st a && safeB x (takeS x st a) m) = false := h
   cases ha : takeB x st a with
   | false => rfl
   | true => rw [ha] at h'; exact ih _ h'
 rw [e]
 refine h2 _ _ _ ?_
 rw [take_next h, safeB_snoc, h1, Bool.and_false]
theorem condRun_step (x : Si) (st : St) (l : List (List UInt8)) (s : List UInt8) : condRun x st (l ++ [s]) = condStep x (condRun x st l) s := by
 unfold condRun; rw [List.foldl_append]; rfl
theorem condStep_same (x : Si) (st : St) (id : List UInt8) : (condStep x st id).pl = st.pl ∧ (condStep x st id).need = st.need ∧ (condStep x st id).drop = st.drop ∧ (condStep x st id).carr = st.carr ∧ (condStep x st id).held = st.held := by
 unfold condStep
 split
 ·
  exact ⟨rfl, rfl, rfl, rfl, rfl⟩
 ·
  exact ⟨rfl, rfl, rfl, rfl, rfl⟩
theorem condRun_same (x : Si) : ∀ (ids : List (List UInt8)) (st : St), (condRun x st ids).pl = st.pl ∧ (condRun x st ids).need = st.need ∧ (condRun x st ids).drop = st.drop ∧ (condRun x st ids).carr = st.carr ∧ (condRun x st ids).held = st.held
 | [], st => ⟨rfl, rfl, rfl, rfl, rfl⟩
 | a :: l, st => by
  have h1 := condStep_same x st a
  have h2 := condRun_same x l (condStep x st a)
  exact ⟨h2.1.trans h1.1, h2.2.1.trans h1.2.1, h2.2.2.1.trans h1.2.2.1, h2.2.2.2.1.trans h1.2.2.2.1, h2.2.2.2.2.trans h1.2.2.2.2⟩
theorem refsAt_run (x : Si) (st : St) (ids : List (List UInt8)) (id : List UInt8) : refsAt x (condRun x st ids) id = refsAt x st id := by
 unfold refsAt; rw [(condRun_same x ids st).1]

/-- The refs of the stripes that are live. -/
def liveRefsT (x : Si) (st : St) : List Rf := (x.sp.filter fun s => liveT st s.id).flatMap (·.refs)
/-- The places and the counts are those of the stripes. -/
structure Inv (x : Si) (st : St) : Prop where
 pl : ∀ id i, st.pl id = some i → ∃ s, x.sp[i]? = some s ∧ s.id = id
 nam : ∀ n, st.nam n = cntN (liveRefsT x st) n
 ref : ∀ r, st.ref r = cntR (liveRefsT x st) r
theorem okB_nodup {α β : Type} [BEq β] [LawfulBEq β] {p : α → Bool} {f : α → β} {l : List α} (h : okB p f l = true) : (l.map f).Nodup := by
 rw [List.Nodup, List.pairwise_iff_getElem]
 intro i j hi hj hij e
 rw [List.length_map] at hi hj
 have h1 := okB_fresh h (List.getElem?_eq_getElem hj)
 have h2 := List.any_eq_false.1 h1 (l[i]'hi) (by
  rw [List.mem_iff_getElem?]
  exact ⟨i, by rw [List.getElem?_take_of_lt hij, List.getElem?_eq_getElem hi]⟩)
 rw [List.getElem_map, List.getElem_map] at e
 exact h2 (by simp [e])
theorem siB_ids {x : Si} (h : siB x = true) : (x.sp.map (·.id)).Nodup := okB_nodup (siB_sp h)
theorem lose_one {l : List Sp} {s : Sp} {p q : Sp → Bool} (hm : s ∈ l) (hn : (l.map (·.id)).Nodup) (hp : p s = true) (hq : ∀ t, q t = (p t && !(t.id == s.id))) (c : List Rf → Int) (hc : ∀ a b, c (a ++ b) = c a + c b) :
  c ((l.filter q).flatMap (·.refs)) = c ((l.filter p).flatMap (·.refs)) + -1 * c s.refs := by
 obtain ⟨l1, l2, rfl⟩ := List.append_of_mem hm
 rw [List.map_append, List.map_cons, List.nodup_append] at hn
 obtain ⟨_, h2, h3⟩ := hn
 have g1 : l1.filter q = l1.filter p := List.filter_congr fun t ht => by
  rw [hq]
  have : ¬ t.id = s.id := h3 t.id (List.mem_map.2 ⟨t, ht, rfl⟩) s.id (by simp)
  simp [this]
 have g2 : l2.filter q = l2.filter p := List.filter_congr fun t ht => by
  rw [hq]
  have : ¬ t.id = s.id := fun e => (List.nodup_cons.1 h2).1 (List.mem_map.2 ⟨t, ht, e⟩)
  simp [this]
 have g3 : q s = false := by rw [hq]; simp
 rw [List.filter_append, List.filter_append, List.filter_cons_of_neg (by simp [g3]), List.filter_cons_of_pos hp, g1, g2, List.flatMap_append, List.flatMap_append, List.flatMap_cons, hc, hc, hc]
 omega
theorem liveT_condOn (st : St) (id y : List UInt8) : liveT (condOn st id) y = (liveT st y && !(y == id)) := by
 show ((st.pl y).isSome && (!(if y = id then true else st.cond y) && !st.drop y)) = (((st.pl y).isSome && (!st.cond y && !st.drop y)) && !(y == id))
 by_cases h : y = id
 ·
  simp [h]
 ·
  simp [h]
theorem refsAt_some {x : Si} {st : St} {id : List UInt8} {i : Nat} {s : Sp} (h : st.pl id = some i) (h1 : x.sp[i]? = some s) : refsAt x st id = s.refs := by
 simp [refsAt, h, h1]
theorem Inv.live {x : Si} {st : St} (h : Inv x st) {id : List UInt8} (hl : liveT st id = true) : ∃ i s, st.pl id = some i ∧ x.sp[i]? = some s ∧ s.id = id ∧ refsAt x st id = s.refs := by
 simp only [liveT, Bool.and_eq_true, Option.isSome_iff_exists] at hl
 obtain ⟨⟨i, hi⟩, _⟩ := hl
 obtain ⟨s, h1, h2⟩ := h.pl id i hi
 exact ⟨i, s, hi, h1, h2, refsAt_some hi h1⟩
theorem Inv.condStep {x : Si} {st : St} (hv : siB x = true) (h : Inv x st) (id : List UInt8) : Inv x (condStep x st id) := by
 unfold Go.Proofs.Ytboglaokdgnpaaa.condStep
 by_cases hl : liveT st id = true
 ·
  obtain ⟨i, s, h1, h2, h3, h4⟩ := h.live hl
  rw [if_pos hl, h4]
  have hq : ∀ t : Sp, liveT ((condOn st id).add s.refs (-1)) t.id = (liveT st t.id && !(t.id == s.id)) := fun t => by
   show liveT (condOn st id) t.id = _
   rw [liveT_condOn, h3]
  have hs := List.mem_of_getElem? h2
  refine ⟨h.pl, fun n => ?_, fun r => ?_⟩
  ·
   show st.nam n + -1 * cntN s.refs n = _
   rw [h.nam]
   exact (lose_one (p := fun t => liveT st t.id) hs (siB_ids hv) (by rw [h3]; exact hl) hq (fun l => cntN l n) (fun a b => cntN_append a b n)).symm
  ·
   show st.ref r + -1 * cntR s.refs r = _
   rw [h.ref]
   exact (lose_one (p := fun t => liveT st t.id) hs (siB_ids hv) (by rw [h3]; exact hl) hq (fun l => cntR l r) (fun a b => cntR_append a b r)).symm
 ·
  rw [if_neg hl]; exact h
theorem Inv.condRun {x : Si} (hv : siB x = true) : ∀ (ids : List (List UInt8)) {st : St}, Inv x st → Inv x (condRun x st ids)
 | [], _, h => h
 | a :: l, _, h => Inv.condRun hv l (h.condStep hv a)
theorem liveT_forget {st : St} {id : List UInt8} (hd : st.drop id = true) (y : List UInt8) : liveT (forgetStep st id) y = liveT st y := by
 show (Option.isSome (if y = id then none else st.pl y) && (!(if y = id then false else st.cond y) && !st.drop y)) = ((st.pl y).isSome && (!st.cond y && !st.drop y))
 by_cases h : y = id
 ·
  subst h; simp [hd]
 ·
  simp [h]
theorem Inv.forget {x : Si} {st : St} (h : Inv x st) {id : List UInt8} (hd : st.drop id = true) : Inv x (forgetStep st id) := by
 have e : liveRefsT x (forgetStep st id) = liveRefsT x st := by
  unfold liveRefsT
  simp only [liveT_forget hd]
 refine ⟨fun y i hy => ?_, fun n => ?_, fun r => ?_⟩
 ·
  have hy' : (if y = id then none else st.pl y) = some i := hy
  by_cases h9 : y = id
  ·
   rw [if_pos h9] at hy'; cases hy'
  ·
   rw [if_neg h9] at hy'; exact h.pl y i hy'
 ·
  rw [e]; exact h.nam n
 ·
  rw [e]; exact h.ref r
theorem Inv.forgets {x : Si} : ∀ (ids : List (List UInt8)) {st : St}, Inv x st → (∀ id ∈ ids, st.drop id = true) → Inv x (ids.foldl forgetStep st)
 | [], _, h, _ => h
 | a :: l, _, h, hd => Inv.forgets l (h.forget (hd a (by simp))) (fun id hid => hd id (by simp [hid]))
theorem Inv.takeS {x : Si} {st : St} (hv : siB x = true) (h : Inv x st) {s : Stp} (ht : takeB x st s = true) : Inv x (takeS x st s) := by
 unfold Go.Proofs.Ytboglaokdgnpaaa.takeS
 unfold takeB at ht
 by_cases h3 : s.kind = 3
 ·
  rw [if_pos h3]; exact ⟨h.pl, h.nam, h.ref⟩
 rw [if_neg h3] at ht ⊢
 by_cases h4 : s.kind = 4
 ·
  rw [if_pos h4] at ht ⊢
  refine h.forgets _ (fun id hid => ?_)
  have := List.all_eq_true.1 ht id hid
  simp only [fgOk, Bool.and_eq_true] at this
  exact this.2
 rw [if_neg h4] at ht ⊢
 by_cases h1 : s.kind = 1
 ·
  rw [if_pos h1]; exact h
 rw [if_neg h1] at ht ⊢
 by_cases h2 : s.kind = 2
 ·
  rw [if_pos h2]; exact h.condRun hv _
 ·
  rw [if_neg h2]; exact h
theorem refs_len8 : ∀ (l : List Sp) (p : Sp → Bool), (∀ s ∈ l, s.refs.length ≤ 8) → ((l.filter p).flatMap (·.refs)).length ≤ 8 * l.length
 | [], _, _ => by simp
 | s :: l, p, h => by
  have h1 := refs_len8 l p (fun t ht => h t (by simp [ht]))
  have h2 := h s (by simp)
  by_cases hp : p s = true
  ·
   rw [List.filter_cons_of_pos hp, List.flatMap_cons, List.length_append, List.length_cons]; omega
  ·
   rw [List.filter_cons_of_neg hp, List.length_cons]; omega
theorem Inv.small {x : Si} {st : St} (hv : siB x = true) (hb : x.sp.length ≤ 1000) (h : Inv x st) : Small st := by
 have h1 : (liveRefsT x st).length ≤ 8 * x.sp.length := refs_len8 x.sp _ (sp_refs8 hv)
 refine ⟨fun n => ?_, fun r => ?_⟩
 ·
  have h2 := cntN_le (liveRefsT x st) n
  rw [h.nam]; omega
 ·
  have h2 := cntR_le (liveRefsT x st) r
  rw [h.ref]; omega
theorem plF_some {l : List Sp} {id : List UInt8} {i : Nat} (h : plF l id = some i) : ∃ s, l[i]? = some s ∧ s.id = id := by
 unfold plF at h
 obtain ⟨h1, h2, _⟩ := List.findIdx?_eq_some_iff_getElem.1 h
 exact ⟨l[i], List.getElem?_eq_getElem h1, by simpa using h2⟩
theorem Inv.st0 (x : Si) : Inv x (st0 x) := by
 have e : liveRefsT x (Go.Proofs.Ytboglaokdgnpaaa.st0 x) = liveRefs x x.sp := by
  unfold liveRefsT liveRefs
  rw [List.filter_congr (fun s hs => st0_live hs)]
 exact ⟨fun id i h => plF_some h, fun n => by rw [e]; rfl, fun r => by rw [e]; rfl⟩
theorem safe_inv {x : Si} (hv : siB x = true) : ∀ (l : List Stp) {st : St}, Inv x st → safeB x st l = true → Inv x (safeRun x st l)
 | [], _, h, _ => h
 | a :: l, st, h, hs => by
  have hs' : (takeB x st a && safeB x (takeS x st a) l) = true := hs
  rw [Bool.and_eq_true] at hs'
  exact safe_inv hv l (h.takeS hv hs'.1) hs'.2
section
variable {w w' : World} {m0 m1 m2 m3 m4 m5 m6 m7 : Nat} {st : St}
theorem Maps8.setCond (h : Maps8 w m0 m1 m2 m3 m4 m5 m6 m7 st) (hk : Kp (· = m2) w w') {g : List UInt8 → Bool} (hg : MG Try.prog 9 usC (.bool false) w' m2 (fun x => .bool (g x))) : Maps8 w' m0 m1 m2 m3 m4 m5 m6 m7 { st with cond := g } := by
 have ha := h.apart
 exact ⟨h.pl.kp hk (fun e => by subst e; simp at ha), h.need.kp hk (fun e => by subst e; simp at ha), hg, h.drop.kp hk (fun e => by subst e; simp at ha), h.carr.kp hk (fun e => by subst e; simp at ha), h.held.kp hk (fun e => by subst e; simp at ha), h.nam.kp hk (fun e => by subst e; simp at ha), h.ref.kp hk (fun e => by subst e; simp at ha), h.apart⟩
theorem Maps8.setCarr (h : Maps8 w m0 m1 m2 m3 m4 m5 m6 m7 st) (hk : Kp (· = m4) w w') {g : List UInt8 → Bool} (hg : MG Try.prog 9 usC (.bool false) w' m4 (fun x => .bool (g x))) : Maps8 w' m0 m1 m2 m3 m4 m5 m6 m7 { st with carr := g } := by
 have ha := h.apart
 exact ⟨h.pl.kp hk (fun e => by subst e; simp at ha), h.need.kp hk (fun e => by subst e; simp at ha), h.cond.kp hk (fun e => by subst e; simp at ha), h.drop.kp hk (fun e => by subst e; simp at ha), hg, h.held.kp hk (fun e => by subst e; simp at ha), h.nam.kp hk (fun e => by subst e; simp at ha), h.ref.kp hk (fun e => by subst e; simp at ha), h.apart⟩
end
end Go.Proofs.Ytboglaokdgnpaaa
