/- Several texts in one: Sa, Sb, Sc. -/
import Derived.Test.YtboglaokdgnpaaaA2
import Derived.Test.YtboglaokdgnpaaaA15
import Derived.Test.YtboglaokdgnpaaaA6
/- The collector's own situation in memory: a block with the situation and eight maps; live, covered. -/
namespace Go.Proofs.Ytboglaokdgnpaaa
open Go Go.RowKit Go.WideMaps Gf Sha

/-- What the maps say. -/
structure St where
 pl : List UInt8 → Option Nat
 need : List UInt8 → Bool
 cond : List UInt8 → Bool
 drop : List UInt8 → Bool
 carr : List UInt8 → Bool
 held : Pc → Bool
 nam : List UInt8 → Int
 ref : Rf → Int
def pcV (p : Pc) : Value := .agg (pcL p).toArray
def rfV (r : Rf) : Value := .agg (rfL r).toArray
abbrev sitC (a0 : Option Addr) (n0 c0 : Nat) (a1 : Option Addr) (n1 c1 : Nat) (a2 : Option Addr) (n2 c2 : Nat) (a3 : Option Addr) (n3 c3 : Nat) (a4 : Option Addr) (n4 c4 : Nat) (a5 : Option Addr) (n5 c5 : Nat) (p : Int) (m0 m1 m2 m3 m4 m5 m6 m7 : Nat) : List Value :=
 [.slice a0 n0 c0, .slice a1 n1 c1, .slice a2 n2 c2, .slice a3 n3 c3, .slice a4 n4 c4, .slice a5 n5 c5, .int .i64 p, .map (some m0), .map (some m1), .map (some m2), .map (some m3), .map (some m4), .map (some m5), .map (some m6), .map (some m7)]
/-- The maps lie in blocks m0 .. m7. -/
structure Maps8 (w : World) (m0 m1 m2 m3 m4 m5 m6 m7 : Nat) (st : St) : Prop where
 pl : MF Try.prog 9 usC w m0 (fun id => (st.pl id).map fun i => .int .i64 (i : Int))
 need : MG Try.prog 9 usC (.bool false) w m1 (fun x => .bool (st.need x))
 cond : MG Try.prog 9 usC (.bool false) w m2 (fun x => .bool (st.cond x))
 drop : MG Try.prog 9 usC (.bool false) w m3 (fun x => .bool (st.drop x))
 carr : MG Try.prog 9 usC (.bool false) w m4 (fun x => .bool (st.carr x))
 held : MG Try.prog 39 pcV (.bool false) w m5 (fun x => .bool (st.held x))
 nam : MG Try.prog 9 usC (.int .i64 0) w m6 (fun x => .int .i64 (st.nam x))
 ref : MG Try.prog 73 rfV (.int .i64 0) w m7 (fun x => .int .i64 (st.ref x))
 apart : [m0, m1, m2, m3, m4, m5, m6, m7].Nodup
structure StM (w : World) (b : Nat) (m0 m1 m2 m3 m4 m5 m6 m7 : Nat) (a0 : Option Addr) (n0 c0 : Nat) (a1 : Option Addr) (n1 c1 : Nat) (a2 : Option Addr) (n2 c2 : Nat) (a3 : Option Addr) (n3 c3 : Nat) (a4 : Option Addr) (n4 c4 : Nat) (a5 : Option Addr) (n5 c5 : Nat) (p : Int) (st : St) : Prop where
 blk : BL w b 82 (sitC a0 n0 c0 a1 n1 c1 a2 n2 c2 a3 n3 c3 a4 n4 c4 a5 n5 c5 p m0 m1 m2 m3 m4 m5 m6 m7)
 maps : Maps8 w m0 m1 m2 m3 m4 m5 m6 m7 st
theorem pcV_inj (x y : Pc) (h : pcV x = pcV y) : x = y := by
 unfold pcV at h
 injection h with h
 have h1 := congrArg Array.toList h
 simp only [List.cons.injEq, Value.string.injEq, Value.int.injEq, and_true, true_and] at h1
 exact Prod.ext (strB_inj h1.1) h1.2
theorem rfV_inj (x y : Rf) (h : rfV x = rfV y) : x = y := by
 unfold rfV at h
 injection h with h
 have h1 := congrArg Array.toList h
 simp only [List.cons.injEq, Value.string.injEq, Value.int.injEq, and_true, true_and] at h1
 exact Prod.ext (strB_inj h1.1) (Prod.ext h1.2.1 h1.2.2)
theorem keyS (x : List UInt8) (hx : x.length ≤ 9223372036854775807) : ∃ lx, keyOf Try.prog 9 (usC x) = some lx := by
 have hm : (strB x).size ≤ maxLen := by rw [strB_size]; exact hx
 unfold keyOf
 rw [Try.underlying9]
 simp [mapKey, usC, Try.underlying9, hm]
theorem reach_key {x : List UInt8} (h : x.length ≤ reachBytes) : x.length ≤ 9223372036854775807 := by unfold reachBytes at h; omega
theorem keyP (p : Pc) (h : okPc p) : ∃ lx, keyOf Try.prog 39 (pcV p) = some lx := keyPid p.1 p.2 (reach_key h.1) h.2
set_option maxRecDepth 100000 in
theorem refRow : (73 : TypeId) < Try.prog.types.size := of_decide_eq_true (by kernel_rfl)
set_option maxRecDepth 100000 in
theorem refWide : (match Try.prog.underlying 73 with | some (.array _ _) | some (.struct _) => true | _ => false) = true := by kernel_rfl
set_option maxRecDepth 100000 in
theorem refKeyed : Go.Maps.Keyed Try.prog 73 := Go.Maps.Keyed.of_law (deep_law_laid laidOutT (m := 2) (by omega) refRow (by kernel_rfl) refWide)
set_option maxRecDepth 100000 in
theorem refType : Try.prog.keyType 73 = true := by kernel_rfl
set_option maxRecDepth 100000 in
theorem keyR (r : Rf) (h : okRf r) : ∃ lx, keyOf Try.prog 73 (rfV r) = some lx := by
 obtain ⟨s, i, j⟩ := r
 obtain ⟨hs, hi, hj⟩ := h
 have hi' : (Lit.int .i64 i).wf = true := hi
 have hj' : (Lit.int .i64 j).wf = true := hj
 have hc : Try.prog.cellsOf 73 = 3 := by kernel_rfl
 have hcs : Try.prog.cellsOf 9 = 1 := by kernel_rfl
 have hci : Try.prog.cellsOf 3 = 1 := by kernel_rfl
 have hm : (strB s).size ≤ maxLen := by rw [strB_size]; exact reach_key hs
 have hf : (Value.agg #[.string (strB s), .int .i64 i, .int .i64 j]).formed Try.prog 73 = true := by
  simp [Value.formed, Try.underlying73, hc]
 have hk : ∃ ls, Try.prog.keyLits (Try.prog.types.size + 1) 73 (Value.agg #[.string (strB s), .int .i64 i, .int .i64 j]).cells.toList = some ls := by
  obtain ⟨m, hm'⟩ : ∃ m, Try.prog.types.size = m + 1 := ⟨Try.prog.types.size - 1, by kernel_rfl⟩
  rw [hm']
  unfold Program.keyLits
  rw [Try.underlying73]
  simp only [Value.cells, hc]
  simp [Program.keyLits, Try.underlying9, Try.underlying3, hcs, hci, hm, hi', hj']
 obtain ⟨ls, hk⟩ := hk
 exact ⟨.string (keyBytes ls), by
  show keyOf Try.prog 73 (Value.agg #[.string (strB s), .int .i64 i, .int .i64 j]) = _
  unfold keyOf
  rw [Try.underlying73]
  simp only [refType, hf, hk]
  rfl⟩
section
variable {w w' : World} {b : Nat} {m0 m1 m2 m3 m4 m5 m6 m7 : Nat} {a0 a1 a2 a3 a4 a5 : Option Addr} {n0 c0 n1 c1 n2 c2 n3 c3 n4 c4 n5 c5 : Nat} {p : Int} {st : St}
theorem Maps8.kept (h : Maps8 w m0 m1 m2 m3 m4 m5 m6 m7 st) (hb : Below w.heap.size w w') : Maps8 w' m0 m1 m2 m3 m4 m5 m6 m7 st :=
 ⟨h.pl.kept hb, h.need.kept hb, h.cond.kept hb, h.drop.kept hb, h.carr.kept hb, h.held.kept hb, h.nam.kept hb, h.ref.kept hb, h.apart⟩
theorem StM.kept (h : StM w b m0 m1 m2 m3 m4 m5 m6 m7 a0 n0 c0 a1 n1 c1 a2 n2 c2 a3 n3 c3 a4 n4 c4 a5 n5 c5 p st) (hb : Below w.heap.size w w') : StM w' b m0 m1 m2 m3 m4 m5 m6 m7 a0 n0 c0 a1 n1 c1 a2 n2 c2 a3 n3 c3 a4 n4 c4 a5 n5 c5 p st := ⟨h.blk.kept hb, h.maps.kept hb⟩
end
section
variable {κ : Type} {P : Program} (w : World) {ops : Array Oper} {rest : List Oper} {o : Oper} {a : Act} {Q : Exit → Act → World → Prop} {enc : κ → Value}
theorem wpList_lookGv (hg : o.guard = none) (m x : Operand) (t k e : TypeId) (hop : o.op = .lookup t m x false) (K : Go.Maps.Keyed P k) (ht : P.underlying t = some (.map k e)) (z : Value) (hz : (P.info? e).map (·.zero) = some (some z))
  (b : Nat) (g : κ → Value) (hm : a.eval m = .map (some b)) (hb : MG P k enc z w b g) (xv : κ) (hx : a.eval x = enc xv) (hk : ∃ lx, keyOf P k (enc xv) = some lx) (v : Value) (hv : g xv = v)
  (h : wpList P ops Q rest (a.put o.dst v) w) : wpList P ops Q (o :: rest) a w :=
 wpList_lookG w hg m x t k e hop K ht z hz b g hm hb xv hx hk (by rw [hv]; exact h)
theorem wpList_lookGgv (hw : Region.wanted o (yielded ops a.tmps) = true) (m x : Operand) (t k e : TypeId) (hop : o.op = .lookup t m x false) (K : Go.Maps.Keyed P k) (ht : P.underlying t = some (.map k e)) (z : Value) (hz : (P.info? e).map (·.zero) = some (some z))
  (b : Nat) (g : κ → Value) (hm : a.eval m = .map (some b)) (hb : MG P k enc z w b g) (xv : κ) (hx : a.eval x = enc xv) (hk : ∃ lx, keyOf P k (enc xv) = some lx) (v : Value) (hv : g xv = v)
  (h : wpList P ops Q rest (a.put o.dst v) w) : wpList P ops Q (o :: rest) a w :=
 wpList_lookGg w hw m x t k e hop K ht z hz b g hm hb xv hx hk (by rw [hv]; exact h)
theorem wpList_lookokFv (hg : o.guard = none) (m x : Operand) (t k e : TypeId) (hop : o.op = .lookup t m x true) (K : Go.Maps.Keyed P k) (ht : P.underlying t = some (.map k e)) (z : Value) (hz : (P.info? e).map (·.zero) = some (some z))
  (b : Nat) (f : κ → Option Value) (hm : a.eval m = .map (some b)) (hb : MF P k enc w b f) (xv : κ) (hx : a.eval x = enc xv) (hk : ∃ lx, keyOf P k (enc xv) = some lx) (v : Value) (c : Bool) (hv : (f xv).getD z = v) (hc : (f xv).isSome = c)
  (h : wpList P ops Q rest (a.put o.dst (.tuple #[v, .bool c])) w) : wpList P ops Q (o :: rest) a w :=
 wpList_lookokF w hg m x t k e hop K ht z hz b f hm hb xv hx hk (by rw [hv, hc]; exact h)
end
theorem mapSI : Try.prog.underlying 77 = some (.map 9 3) := Try.underlying77
theorem mapSB : Try.prog.underlying 78 = some (.map 9 4) := Try.underlying78
theorem mapPB : Try.prog.underlying 79 = some (.map 39 4) := Try.underlying79
theorem mapRI : Try.prog.underlying 80 = some (.map 73 3) := Try.underlying80
theorem intZero : (Try.prog.info? 3).map (·.zero) = some (some (.int .i64 0)) := by kernel_rfl
theorem boolZero : (Try.prog.info? 4).map (·.zero) = some (some (.bool false)) := by kernel_rfl

/-- Is a stripe live, as the maps say? -/
def liveT (st : St) (id : List UInt8) : Bool := (st.pl id).isSome && (!st.cond id && !st.drop id)

set_option maxRecDepth 100000 in
set_option maxHeartbeats 1000000 in
theorem live_st (w : World) (b : Nat) (m0 m1 m2 m3 m4 m5 m6 m7 : Nat) (a0 : Option Addr) (n0 c0 : Nat) (a1 : Option Addr) (n1 c1 : Nat) (a2 : Option Addr) (n2 c2 : Nat) (a3 : Option Addr) (n3 c3 : Nat) (a4 : Option Addr) (n4 c4 : Nat) (a5 : Option Addr) (n5 c5 : Nat) (p : Int) (st : St) (h : StM w b m0 m1 m2 m3 m4 m5 m6 m7 a0 n0 c0 a1 n1 c1 a2 n2 c2 a3 n3 c3 a4 n4 c4 a5 n5 c5 p st) (id : List UInt8) (hid : id.length ≤ reachBytes) :
  Calls Try.prog 78 #[.pointer (some ⟨b, 0, none⟩), .string (strB id)] w fun e w' => e = .returned (.bool (liveT st id)) ∧ w' = w := by
 have H := Lib.hid h.maps
 have q7 := h.blk.get (j := 7) rfl
 have q9 := h.blk.get (j := 9) rfl
 have q10 := h.blk.get (j := 10) rfl
 have HK := Lib.hid (keyS id (reach_key hid))
 clear h
 cases h0 : st.pl id with
 | none =>
  have HR : Hid (liveT st id = false) := Lib.hid (by rw [liveT, h0]; rfl)
  have e1 : (Value.bool (st.cond id)) = .bool (st.cond id) := rfl
  have e2 : (Value.bool (st.drop id)) = .bool (st.drop id) := rfl
  go_enter Try.func78, Try.ntmps78
  go_wp2_with (first
   | ((with_reducible show OpW 13); refine wpList_lookokFv _ rfl (.tmp 11) (.tmp 12) 77 9 3 rfl strKeyed mapSI (.int .i64 0) intZero m0 _ rfl H.out.pl id rfl HK.out (.int .i64 0) false (by rw [h0]; rfl) (by rw [h0]; rfl) ?_)
   | ((with_reducible show OpW 23); refine wpList_lookGgv _ rfl (.tmp 21) (.tmp 22) 78 9 4 rfl strKeyed mapSB (.bool false) boolZero m2 _ rfl H.out.cond id rfl HK.out _ e1 ?_)
   | ((with_reducible show OpW 32); refine wpList_lookGgv _ rfl (.tmp 30) (.tmp 31) 78 9 4 rfl strKeyed mapSB (.bool false) boolZero m3 _ rfl H.out.drop id rfl HK.out _ e2 ?_))
  go_ret
  exact ⟨ret_bool HR.out.symm, rfl⟩
 | some i =>
  cases h1 : st.cond id with
  | true =>
   have HR : Hid (liveT st id = false) := Lib.hid (by rw [liveT, h0, h1]; rfl)
   have e1 : (Value.bool (st.cond id)) = .bool true := by rw [h1]
   have e2 : (Value.bool (st.drop id)) = .bool (st.drop id) := rfl
   go_enter Try.func78, Try.ntmps78
   go_wp2_with (first
    | ((with_reducible show OpW 13); refine wpList_lookokFv _ rfl (.tmp 11) (.tmp 12) 77 9 3 rfl strKeyed mapSI (.int .i64 0) intZero m0 _ rfl H.out.pl id rfl HK.out (.int .i64 (i : Int)) true (by rw [h0]; rfl) (by rw [h0]; rfl) ?_)
    | ((with_reducible show OpW 23); refine wpList_lookGgv _ rfl (.tmp 21) (.tmp 22) 78 9 4 rfl strKeyed mapSB (.bool false) boolZero m2 _ rfl H.out.cond id rfl HK.out _ e1 ?_)
    | ((with_reducible show OpW 32); refine wpList_lookGgv _ rfl (.tmp 30) (.tmp 31) 78 9 4 rfl strKeyed mapSB (.bool false) boolZero m3 _ rfl H.out.drop id rfl HK.out _ e2 ?_))
   go_ret
   exact ⟨ret_bool HR.out.symm, rfl⟩
  | false =>
   have HR : Hid (liveT st id = !st.drop id) := Lib.hid (by rw [liveT, h0, h1]; rfl)
   have e1 : (Value.bool (st.cond id)) = .bool false := by rw [h1]
   have e2 : (Value.bool (st.drop id)) = .bool (st.drop id) := rfl
   go_enter Try.func78, Try.ntmps78
   go_wp2_with (first
    | ((with_reducible show OpW 13); refine wpList_lookokFv _ rfl (.tmp 11) (.tmp 12) 77 9 3 rfl strKeyed mapSI (.int .i64 0) intZero m0 _ rfl H.out.pl id rfl HK.out (.int .i64 (i : Int)) true (by rw [h0]; rfl) (by rw [h0]; rfl) ?_)
    | ((with_reducible show OpW 23); refine wpList_lookGgv _ rfl (.tmp 21) (.tmp 22) 78 9 4 rfl strKeyed mapSB (.bool false) boolZero m2 _ rfl H.out.cond id rfl HK.out _ e1 ?_)
    | ((with_reducible show OpW 32); refine wpList_lookGgv _ rfl (.tmp 30) (.tmp 31) 78 9 4 rfl strKeyed mapSB (.bool false) boolZero m3 _ rfl H.out.drop id rfl HK.out _ e2 ?_))
   go_ret
   exact ⟨ret_bool HR.out.symm, rfl⟩

/-- Is a name covered, as the maps say? -/
def covT (st : St) (n : List UInt8) : Bool := decide (0 < st.nam n)
set_option maxRecDepth 100000 in
theorem covered_st (w : World) (b : Nat) (m0 m1 m2 m3 m4 m5 m6 m7 : Nat) (a0 : Option Addr) (n0 c0 : Nat) (a1 : Option Addr) (n1 c1 : Nat) (a2 : Option Addr) (n2 c2 : Nat) (a3 : Option Addr) (n3 c3 : Nat) (a4 : Option Addr) (n4 c4 : Nat) (a5 : Option Addr) (n5 c5 : Nat) (p : Int) (st : St) (h : StM w b m0 m1 m2 m3 m4 m5 m6 m7 a0 n0 c0 a1 n1 c1 a2 n2 c2 a3 n3 c3 a4 n4 c4 a5 n5 c5 p st) (id : List UInt8) (hid : id.length ≤ reachBytes) :
  Calls Try.prog 74 #[.pointer (some ⟨b, 0, none⟩), .string (strB id)] w fun e w' => e = .returned (.bool (covT st id)) ∧ w' = w := by
 have H := Lib.hid h.maps
 have q13 := h.blk.get (j := 13) rfl
 have HK := Lib.hid (keyS id (reach_key hid))
 clear h
 go_enter Try.func74, Try.ntmps74
 go_wp2_with (first
  | ((with_reducible show OpW 10); refine wpList_lookGv _ rfl (.tmp 8) (.tmp 9) 77 9 3 rfl strKeyed mapSI (.int .i64 0) intZero m6 _ rfl H.out.nam id rfl HK.out _ rfl ?_))
 go_ret
 exact ⟨rfl, rfl⟩
end Go.Proofs.Ytboglaokdgnpaaa
/- Only maps of the old have turned; the situation's count. -/
namespace Go.Proofs.Ytboglaokdgnpaaa
open Go Go.RowKit Gf Sha

/-- Of what is old only maps may have turned. -/
def Mp (w w' : World) : Prop := ∃ S : Nat → Prop, Kp S w w' ∧ ∀ i, i < w.heap.size → S i → ∃ es clock, w.heap[i]? = some (.map es clock)
section
variable {w w1 w2 : World}
theorem Mp.of_below (h : Below w.heap.size w w1) : Mp w w1 := ⟨fun _ => False, Kp.of_below h, fun _ _ h => h.elim⟩
theorem Mp.refl (w : World) : Mp w w := Mp.of_below (Below.refl _ _)
theorem Mp.size (h : Mp w w1) : w.heap.size ≤ w1.heap.size := let ⟨_, h1, _⟩ := h; h1.size
theorem Mp.trans (h : Mp w w1) (k : Mp w1 w2) : Mp w w2 := by
 obtain ⟨S, h1, h2⟩ := h
 obtain ⟨T, k1, k2⟩ := k
 refine ⟨fun i => S i ∨ T i, (h1.mono (fun _ _ h => .inl h)).trans (Kp.mono (S := T) k1 (fun _ _ h => .inr h)), fun i hi hs => ?_⟩
 by_cases hS : S i
 ·
  exact h2 i hi hS
 ·
  rcases hs with h | h
  ·
   exact h2 i hi h
  ·
   obtain ⟨es, ck, e⟩ := k2 i (Nat.lt_of_lt_of_le hi h1.size) h
   exact ⟨es, ck, by rw [← h1.block i hi hS]; exact e⟩
theorem Mp.then (h : Mp w w1) (k : Below w1.heap.size w1 w2) : Mp w w2 := h.trans (Mp.of_below k)
theorem Mp.drew (h : Mp w w1) : Mp w w1.drew := h.then (Below.refl _ _).drew
theorem Mp.bl {g : Nat} {t : TypeId} {l : List Value} (h : Mp w w1) (hb : BL w g t l) : BL w1 g t l := by
 obtain ⟨S, h1, h2⟩ := h
 have hg : g < w.heap.size := (Array.getElem?_eq_some_iff.1 (show w.heap[g]? = _ from hb)).1
 refine Eq.trans (h1.block g hg (fun hs => ?_)) hb
 obtain ⟨es, ck, e⟩ := h2 g hg hs
 have := e.symm.trans hb
 cases this
theorem Mp.cell {p : Addr} {v : Value} (h : Mp w w1) (hc : w.cell? p = some v) : w1.cell? p = some v := by
 obtain ⟨S, h1, h2⟩ := h
 refine h1.cell hc (fun hs => ?_)
 have hp : p.block < w.heap.size := by
  cases hh : w.heap[p.block]? with
  | none => simp [World.cell?, hh] at hc
  | some o => exact (Array.getElem?_eq_some_iff.1 hh).1
 obtain ⟨es, ck, e⟩ := h2 _ hp hs
 simp [World.cell?, e] at hc
theorem Mp.at {g o : Nat} {cs : List Value} (h : Mp w w1) (hc : At w g o cs) : At w1 g o cs := fun j v hj => h.cell (hc j v hj)
end
/-- A reading that stays while only maps turn. -/
def StayM {α : Type} (R : Rdg α) : Prop := ∀ w w' cs x, R w cs x → Mp w w' → R w' cs x
section
variable {α : Type} {R : Rdg α} {s b n c : Nat} {w w' : World} {A : Option Addr} {L : List α}
theorem LS.mp (h : LS R s b w A n c L) (hR : StayM R) (hb : Mp w w') : LS R s b w' A n c L :=
 ⟨h.1, h.2.1, h.2.2.1, fun k hk => let ⟨g, o, cs, e, h1, h2⟩ := h.2.2.2 k hk; ⟨g, o, cs, e, hb.at h1, hR _ _ _ _ h2 hb⟩⟩
end
theorem staym_str : StayM rStr := fun _ _ _ _ h _ => h
theorem staym_rf : StayM rRf := fun _ _ _ _ h _ => h
theorem staym_pc : StayM rPc := fun _ _ _ _ h _ => h
theorem staym_sp : StayM rSp := fun _ _ _ _ ⟨A, n, c, e, h, r⟩ hb => ⟨A, n, c, e, h.mp staym_rf hb, r⟩
theorem SiOk.mp {w w' : World} {a0 a1 a2 a3 a4 a5 : Option Addr} {n0 c0 n1 c1 n2 c2 n3 c3 n4 c4 n5 c5 : Nat} {x : Si} (h : SiOk w a0 n0 c0 a1 n1 c1 a2 n2 c2 a3 n3 c3 a4 n4 c4 a5 n5 c5 x) (hb : Mp w w') : SiOk w' a0 n0 c0 a1 n1 c1 a2 n2 c2 a3 n3 c3 a4 n4 c4 a5 n5 c5 x :=
 ⟨h.sp.mp staym_sp hb, h.need.mp staym_str hb, h.cond.mp staym_str hb, h.drop.mp staym_str hb, h.carr.mp staym_str hb, h.held.mp staym_pc hb, h.pct⟩
theorem MG.isMap {κ : Type} {P : Program} {k : TypeId} {enc : κ → Value} {z : Value} {w : World} {b : Nat} {g : κ → Value} (h : MG P k enc z w b g) : ∃ es clock, w.heap[b]? = some (.map es clock) := by
 obtain ⟨f, ⟨L, ⟨es, ck, e, _⟩, _⟩, _⟩ := h
 exact ⟨es, ck, e⟩
theorem MF.isMap {κ : Type} {P : Program} {k : TypeId} {enc : κ → Value} {w : World} {b : Nat} {f : κ → Option Value} (h : MF P k enc w b f) : ∃ es clock, w.heap[b]? = some (.map es clock) := by
 obtain ⟨L, ⟨es, ck, e, _⟩, _⟩ := h
 exact ⟨es, ck, e⟩
/-- Of the maps of the situation only some have turned. -/
theorem Maps8.mp {w w' : World} {m0 m1 m2 m3 m4 m5 m6 m7 : Nat} {st : St} (h : Maps8 w m0 m1 m2 m3 m4 m5 m6 m7 st) {S : Nat → Prop} (hk : Kp S w w') (hs : ∀ i, i < w.heap.size → S i → i ∈ [m0, m1, m2, m3, m4, m5, m6, m7]) : Mp w w' := by
 refine ⟨S, hk, fun i hi h1 => ?_⟩
 have := hs i hi h1
 simp only [List.mem_cons, List.not_mem_nil, or_false] at this
 rcases this with rfl | rfl | rfl | rfl | rfl | rfl | rfl | rfl
 ·
  exact h.pl.isMap
 ·
  exact h.need.isMap
 ·
  exact h.cond.isMap
 ·
  exact h.drop.isMap
 ·
  exact h.carr.isMap
 ·
  exact h.held.isMap
 ·
  exact h.nam.isMap
 ·
  exact h.ref.isMap

/-- How many refs of a list have a name; how often a ref stands in it. -/
def cntN (l : List Rf) (n : List UInt8) : Int := ((l.filter fun r => r.1 == n).length : Int)
def cntR (l : List Rf) (q : Rf) : Int := ((l.filter fun r => r == q).length : Int)
theorem cntN_le (l : List Rf) (n : List UInt8) : 0 ≤ cntN l n ∧ cntN l n ≤ l.length := ⟨by unfold cntN; omega, by have := List.length_filter_le (fun r : Rf => r.1 == n) l; unfold cntN; omega⟩
theorem cntR_le (l : List Rf) (q : Rf) : 0 ≤ cntR l q ∧ cntR l q ≤ l.length := ⟨by unfold cntR; omega, by have := List.length_filter_le (fun r : Rf => r == q) l; unfold cntR; omega⟩
theorem cntN_snoc (l : List Rf) (r : Rf) (n : List UInt8) : cntN (l ++ [r]) n = cntN l n + (if n = r.1 then 1 else 0) := by
 unfold cntN
 rw [List.filter_append, List.length_append]
 by_cases h : n = r.1
 ·
  rw [if_pos h, List.filter_cons_of_pos (by simpa using h.symm)]; simp
 ·
  rw [if_neg h, List.filter_cons_of_neg (by simpa using fun e => h e.symm)]; simp
theorem cntR_snoc (l : List Rf) (r q : Rf) : cntR (l ++ [r]) q = cntR l q + (if q = r then 1 else 0) := by
 unfold cntR
 rw [List.filter_append, List.length_append]
 by_cases h : q = r
 ·
  rw [if_pos h, List.filter_cons_of_pos (by simpa using h.symm)]; simp
 ·
  rw [if_neg h, List.filter_cons_of_neg (by simpa using fun e => h e.symm)]; simp
/-- The counts with a list of refs added d times. -/
def St.add (st : St) (l : List Rf) (d : Int) : St := { st with nam := fun n => st.nam n + d * cntN l n, ref := fun r => st.ref r + d * cntR l r }
theorem St.add_nil (st : St) (d : Int) : st.add [] d = st := by
 unfold St.add cntN cntR
 simp
theorem step_mul {d a : Int} (x : Int) (c : Prop) [Decidable c] : (x + d * (a + (if c then 1 else 0))) = (if c then x + d * a + d else x + d * a) := by
 by_cases h : c
 ·
  rw [if_pos h, if_pos h, Int.mul_add]; omega
 ·
  rw [if_neg h, if_neg h, Int.add_zero]
/-- Counts far from the ends of an int. -/
def Small (st : St) : Prop := (∀ n, -1000000 ≤ st.nam n ∧ st.nam n ≤ 1000000) ∧ ∀ r, -1000000 ≤ st.ref r ∧ st.ref r ≤ 1000000
theorem mul_one_bound {d a : Int} (h1 : -1 ≤ d) (h2 : d ≤ 1) (h3 : 0 ≤ a) : -a ≤ d * a ∧ d * a ≤ a := by
 have : d = -1 ∨ d = 0 ∨ d = 1 := by omega
 rcases this with rfl | rfl | rfl <;> omega

section
variable {w w' : World} {m0 m1 m2 m3 m4 m5 m6 m7 : Nat} {st : St}
theorem Maps8.setNam (h : Maps8 w m0 m1 m2 m3 m4 m5 m6 m7 st) (hk : Kp (· = m6) w w') {g : List UInt8 → Int} (hg : MG Try.prog 9 usC (.int .i64 0) w' m6 (fun x => .int .i64 (g x))) : Maps8 w' m0 m1 m2 m3 m4 m5 m6 m7 { st with nam := g } := by
 have ha := h.apart
 exact ⟨h.pl.kp hk (fun e => by subst e; simp at ha), h.need.kp hk (fun e => by subst e; simp at ha), h.cond.kp hk (fun e => by subst e; simp at ha), h.drop.kp hk (fun e => by subst e; simp at ha), h.carr.kp hk (fun e => by subst e; simp at ha), h.held.kp hk (fun e => by subst e; simp at ha), hg, h.ref.kp hk (fun e => by subst e; simp at ha), h.apart⟩
theorem Maps8.setRef (h : Maps8 w m0 m1 m2 m3 m4 m5 m6 m7 st) (hk : Kp (· = m7) w w') {g : Rf → Int} (hg : MG Try.prog 73 rfV (.int .i64 0) w' m7 (fun x => .int .i64 (g x))) : Maps8 w' m0 m1 m2 m3 m4 m5 m6 m7 { st with ref := g } := by
 have ha := h.apart
 exact ⟨h.pl.kp hk (fun e => by subst e; simp at ha), h.need.kp hk (fun e => by subst e; simp at ha), h.cond.kp hk (fun e => by subst e; simp at ha), h.drop.kp hk (fun e => by subst e; simp at ha), h.carr.kp hk (fun e => by subst e; simp at ha), h.held.kp hk (fun e => by subst e; simp at ha), h.nam.kp hk (fun e => by subst e; simp at ha), hg, h.apart⟩
end

set_option maxRecDepth 100000 in
set_option maxHeartbeats 2000000 in
theorem count_any (w : World) (b : Nat) (m0 m1 m2 m3 m4 m5 m6 m7 : Nat) (a0 : Option Addr) (n0 c0 : Nat) (a1 : Option Addr) (n1 c1 : Nat) (a2 : Option Addr) (n2 c2 : Nat) (a3 : Option Addr) (n3 c3 : Nat) (a4 : Option Addr) (n4 c4 : Nat) (a5 : Option Addr) (n5 c5 : Nat) (p : Int) (st : St) (h : StM w b m0 m1 m2 m3 m4 m5 m6 m7 a0 n0 c0 a1 n1 c1 a2 n2 c2 a3 n3 c3 a4 n4 c4 a5 n5 c5 p st) (hsm : Small st)
  (s : Sp) (A : Option Addr) (n c : Nat) (hl : LS rRf 3 32 w A n c s.refs) (hn8 : n ≤ 1000000) (d : Int) (hd1 : -1 ≤ d) (hd2 : d ≤ 1) :
  Calls Try.prog 79 #[.pointer (some ⟨b, 0, none⟩), .agg (spC s A n c).toArray, .int .i64 d] w fun e w' => e = .returned (.tuple #[]) ∧ StM w' b m0 m1 m2 m3 m4 m5 m6 m7 a0 n0 c0 a1 n1 c1 a2 n2 c2 a3 n3 c3 a4 n4 c4 a5 n5 c5 p (st.add s.refs d) ∧ Kp (fun i => i = m6 ∨ i = m7) w w' := by
 have hn := hl.len_le
 have H := Lib.hid hl
 have HL := Lib.hid hl.1
 have HS := Lib.hid h
 have HM := Lib.hid hsm
 have HN8 := Lib.hid hn8
 clear h hl hsm hn8
 go_enter Try.func79, Try.ntmps79
 go_wp2_with (first
  | ((with_reducible show OpW 4); refine wpList_box _ rfl 61 (.tmp 1) rfl (spC s A n c) rfl ?_; intro w1 a1 a2 a3; have HB1 := Lib.hid a2; have HT1 := Lib.hid a1; have r5 := a1.get (j := 5) rfl; clear a1 a2 a3))
 clear r5
 go_loopw [11] (fun iv wr => ∃ k : Nat, k ≤ n ∧ iv = .int .i64 (k : Int) ∧ Hid (Maps8 wr m0 m1 m2 m3 m4 m5 m6 m7 (st.add (s.refs.take k) d)) ∧ Hid (Kp (fun i => i = m6 ∨ i = m7) w wr)) (fun iv _ => n - (intOf iv).toNat)
 case atStart => exact ⟨0, by omega, rfl, Lib.hid (by rw [List.take_zero, St.add_nil]; exact HS.out.maps.kept HB1.out), Lib.hid (Kp.of_below HB1.out)⟩
 case round =>
  obtain ⟨k, hk, rfl, hm, hb⟩ := hrel
  obtain ⟨wx, hwx⟩ : ∃ x, x = wr := ⟨_, rfl⟩
  rw [← hwx] at hm hb ⊢
  clear hwx
  have HP : Hid (Mp w wx) := Lib.hid (HS.out.maps.mp hb.out (fun i _ h => by rcases h with rfl | rfl <;> simp))
  by_cases hlt : k < n
  ·
   obtain ⟨r, g, o, cs, hs, rfl, hat, rfl, hok⟩ := H.out.at_ stay_rf (Below.refl _ _) hlt
   have HA := Lib.hid (HP.out.at hat)
   have HKS := Lib.hid (keyS r.1 (reach_key hok.1))
   have HKR := Lib.hid (keyR r hok)
   have HTK : Hid (s.refs.take (k + 1) = s.refs.take k ++ [r]) := Lib.hid (take_next hs)
   have HKL : Hid ((s.refs.take k).length = k) := Lib.hid (by rw [List.length_take, HL.out]; omega)
   clear hs hat hok
   have q13 := (HP.out.bl HS.out.blk).get (j := 13) rfl
   obtain ⟨N, hN⟩ : ∃ N, N = (st.add (s.refs.take k) d).nam r.1 := ⟨_, rfl⟩
   obtain ⟨R, hR⟩ : ∃ R, R = (st.add (s.refs.take k) d).ref r := ⟨_, rfl⟩
   have eN : IntKind.i64.wrap (N + d) = N + d := by
    rw [IntKind.wrap_i64]
    have h1 := HM.out.1 r.1
    have h2 := cntN_le (s.refs.take k) r.1
    have h3 := mul_one_bound hd1 hd2 h2.1
    have := HKL.out
    have := HN8.out
    have : N = st.nam r.1 + d * cntN (s.refs.take k) r.1 := hN
    omega
   have eR : IntKind.i64.wrap (R + d) = R + d := by
    rw [IntKind.wrap_i64]
    have h1 := HM.out.2 r
    have h2 := cntR_le (s.refs.take k) r
    have h3 := mul_one_bound hd1 hd2 h2.1
    have := HKL.out
    have := HN8.out
    have : R = st.ref r + d * cntR (s.refs.take k) r := hR
    omega
   have HN := Lib.hid hN
   have HR := Lib.hid hR
   clear hN hR
   go_wp2_with (first
    | ((with_reducible show OpW 14); refine wpList_loadv _ rfl 73 (.tmp 13) rfl 3 (by kernel_rfl) g (o + k * 3) (rfL r) (by go_simp) HA.out rfl ?_)
    | ((with_reducible show OpW 7); refine wpList_alloc _ rfl 73 rfl rfZ rfZero ?_; intro w3 a1 a2 a3; have HV3 := Lib.hid a1; have HX3 := Lib.hid a2; clear a1 a2 a3)
    | ((with_reducible show OpN); refine wpList_storev _ rfl 73 (.tmp 7) (.tmp 14) rfl 3 (by kernel_rfl) wx.heap.size 0 _ rfZ (rfL r) rfl rfl HV3.out rfl (one_rf r) (by decide) ?_; intro w4 a1 a2 a3; have HV4 : Hid (BL w4 wx.heap.size 73 (rfL r)) := Lib.hid a1; have HX4 : Hid (Below wx.heap.size wx w4) := Lib.hid (((Kp.of_below (S := fun _ => False) HX3.out).after a2 (fun i hi e => by omega)).below (Nat.le_refl _) (fun _ h => h.elim)); clear a1 a2 a3; have r0 := HV4.out.get (j := 0) rfl; have q13 := ((HP.out.then HX4.out).bl HS.out.blk).get (j := 13) rfl)
    | fail)
   have HM4 := Lib.hid (hm.out.kept HX4.out)
   refine Text.wp_region_text (fun _ => True) [(0, 4), (1, 4), (2, 4), (4, 4), (7, 4), (3, 1), (5, 1), (6, 2), (8, 4), (9, 2)] (by kernel_rfl) (by kernel_rfl) (fun _ _ _ _ _ h => h) (trivial) ?_
   iterate 5 (refine Text.purek rfl rfl (fun K hK => ⟨_, fun w' => by go_simp <;> rfl, ?_⟩); go_simp; refine hK _ ?_; clear hK K)
   iterate 2 (refine Text.readk rfl rfl (fun K hK => ⟨_, by go_simp <;> rfl, ?_⟩); go_simp; refine hK _ ?_; clear hK K)
   refine Text.eff rfl rfl (fun K hK => ?_)
   refine wp_lookG _ (.tmp 18) (.tmp 20) 77 9 3 rfl strKeyed mapSI (.int .i64 0) intZero m6 _ rfl (HM4.out.kept (Below.refl _ _).drew).nam r.1 rfl HKS.out ?_
   rw [← HN.out]
   go_simp
   refine hK _ _ trivial ?_
   clear hK K
   (refine Text.purek rfl rfl (fun K hK => ⟨_, fun w' => by go_simp <;> rfl, ?_⟩); go_simp; refine hK _ ?_; clear hK K)
   refine Text.eff rfl rfl (fun K hK => ?_)
   refine wp_updG _ (fun x y h => usC_inj h) (.tmp 18) (.tmp 20) (.tmp 23) 77 9 3 rfl strKeyed mapSI (.int .i64 0) m6 _ rfl (HM4.out.kept (Below.refl _ _).drew).nam r.1 (.int .i64 (N + d)) rfl rfl HKS.out ?_
   intro w5 a1 a2 a3
   have HM5 : Hid (Maps8 w5 m0 m1 m2 m3 m4 m5 m6 m7 { st.add (s.refs.take k) d with nam := fun y => if y = r.1 then N + d else (st.add (s.refs.take k) d).nam y }) := Lib.hid ((HM4.out.kept (Below.refl _ _).drew).setNam a2 (a1.to (fun y => by by_cases h : y = r.1 <;> simp [h])))
   have HK5 : Hid (Kp (· = m6) w4 w5) := Lib.hid ((Kp.of_below (Below.refl _ _).drew).trans a2)
   have HZ5 : Hid (w5.heap.size = w4.heap.size) := Lib.hid a3
   clear a1 a2 a3
   go_simp
   refine hK _ _ trivial ?_
   clear hK K
   refine Text.done ?_
   have HP5 : Hid (Mp w w5) := Lib.hid ((HP.out.then HX4.out).trans (HM4.out.mp HK5.out (fun i _ e => by subst e; simp)))
   have HGX : Hid (wx.heap.size ≠ m6 ∧ wx.heap.size ≠ m7) := Lib.hid (by
    have h1 := hm.out.nam.lt
    have h2 := hm.out.ref.lt
    exact ⟨by omega, by omega⟩)
   have HV5 : Hid (BL w5 wx.heap.size 73 (rfL r)) := Lib.hid ((HK5.out.block _ HV4.out.lt HGX.out.1).trans HV4.out)
   have q14 := (HP5.out.bl HS.out.blk).get (j := 14) rfl
   go_wp2_with fail
   refine Text.wp_region_text (fun w' => MG Try.prog 73 rfV (.int .i64 0) w' m7 (fun x => .int .i64 ((st.add (s.refs.take k) d).ref x)) ∧ BL w' wx.heap.size 73 (rfL r)) [(0, 4), (1, 4), (2, 4), (6, 4), (4, 0), (3, 1), (5, 0), (7, 4), (8, 2), (9, 4), (10, 3)] (by kernel_rfl) (by kernel_rfl) (fun _ _ _ _ _ h => h) (⟨(HM5.out.kept (Below.refl _ _).drew).ref, HV5.out.kept (Below.refl _ _).drew⟩) ?_
   iterate 4 (refine Text.purek rfl rfl (fun K hK => ⟨_, fun w' => by go_simp <;> rfl, ?_⟩); go_simp; refine hK _ ?_; clear hK K)
   refine Text.heldk rfl rfl (fun K hK => ?_)
   refine ⟨_, fun w' hw' => exec_loadv 73 (.tmp 7) rfl 3 (by kernel_rfl) wx.heap.size 0 (rfL r) rfl (BL.all hw'.2) rfl, ?_⟩
   go_simp
   refine hK _ ?_
   clear hK K
   (refine Text.readk rfl rfl (fun K hK => ⟨_, by go_simp <;> rfl, ?_⟩); go_simp; refine hK _ ?_; clear hK K)
   refine Text.heldk rfl rfl (fun K hK => ?_)
   refine ⟨_, fun w' hw' => exec_lookG w' (.tmp 27) (.tmp 28) 80 73 3 rfl refKeyed mapRI (.int .i64 0) intZero m7 _ rfl hw'.1 r rfl HKR.out, ?_⟩
   rw [← HR.out]
   go_simp
   refine hK _ ?_
   clear hK K
   (refine Text.purek rfl rfl (fun K hK => ⟨_, fun w' => by go_simp <;> rfl, ?_⟩); go_simp; refine hK _ ?_; clear hK K)
   refine Text.eff rfl rfl (fun K hK => ?_)
   refine wp_entryG _ rfV_inj (.tmp 27) (.tmp 28) 80 73 3 rfl refKeyed mapRI (.int .i64 0) intZero m7 _ rfl (HM5.out.kept (Below.refl _ _).drew).ref r rfl HKR.out ?_
   intro w6 v6 st6 a1 a2 a3 a4
   have HG6 := Lib.hid a1
   have HE6 := Lib.hid a4
   have HM6 : Hid (Maps8 w6 m0 m1 m2 m3 m4 m5 m6 m7 { st.add (s.refs.take k) d with nam := fun y => if y = r.1 then N + d else (st.add (s.refs.take k) d).nam y }) := Lib.hid ((HM5.out.kept (Below.refl _ _).drew).setRef a2 a1)
   have HK6 : Hid (Kp (· = m7) w5 w6) := Lib.hid ((Kp.of_below (Below.refl _ _).drew).trans a2)
   have HV6 : Hid (BL w6 wx.heap.size 73 (rfL r)) := Lib.hid ((HK6.out.block _ HV5.out.lt HGX.out.2).trans HV5.out)
   clear a1 a2 a3 a4
   go_simp
   refine hK _ _ ⟨HG6.out, HV6.out⟩ ?_
   clear hK K
   (refine Text.purek rfl rfl (fun K hK => ⟨_, fun w' => by go_simp <;> rfl, ?_⟩); go_simp; refine hK _ ?_; clear hK K)
   refine Text.last rfl rfl (fun K hK => ?_)
   obtain ⟨w7, s1, s2, s3, s4⟩ := HE6.out w6 (.int .i64 (R + d)) rfl
   refine wp_entryStore _ rfl rfl rfl rfl s1 ?_
   have HM7 : Hid (Maps8 w7 m0 m1 m2 m3 m4 m5 m6 m7 (st.add (s.refs.take (k + 1)) d)) := Lib.hid (by
    have h1 := HM6.out.setRef s3 (g := fun y => if y = r then R + d else (st.add (s.refs.take k) d).ref y) (s2.to (fun y => by by_cases h : y = r <;> simp [h]))
    rw [HTK.out]
    have e : st.add (s.refs.take k ++ [r]) d = { { st.add (s.refs.take k) d with nam := fun y => if y = r.1 then N + d else (st.add (s.refs.take k) d).nam y } with ref := fun y => if y = r then R + d else (st.add (s.refs.take k) d).ref y } := by
     unfold St.add
     simp only [cntN_snoc, cntR_snoc, step_mul]
     congr 1
     ·
      funext y
      by_cases h : y = r.1
      ·
       rw [if_pos h, if_pos h, HN.out, h]; rfl
      ·
       rw [if_neg h, if_neg h]
     ·
      funext y
      by_cases h : y = r
      ·
       rw [if_pos h, if_pos h, HR.out, h]; rfl
      ·
       rw [if_neg h, if_neg h]
    rw [e]; exact h1)
   have HK7 : Hid (Kp (fun i => i = m6 ∨ i = m7) w w7) := Lib.hid ((((hb.out.then HX4.out).trans (HK5.out.mono (fun _ _ h => .inl h))).trans (HK6.out.mono (fun _ _ h => .inr h))).trans (s3.mono (fun _ _ h => .inr h)))
   clear s1 s2 s3 s4
   go_simp
   refine hK _ _ ?_
   clear hK K
   refine Text.done ?_
   go_wp2_with fail
   go_roundw
   case rel => exact ⟨k + 1, by omega, by go_num, HM7, HK7⟩
   case measure => simp [intOf]; omega
  ·
   obtain rfl : k = n := by omega
   go_wp2_with fail
   refine bodyPost_end (v := .tuple #[]) (by simp [results, Try.results79]) rfl ?_
   have h1 := hm.out
   rw [take_end HL.out] at h1
   exact ⟨rfl, ⟨HP.out.bl HS.out.blk, h1⟩, hb.out⟩
end Go.Proofs.Ytboglaokdgnpaaa
/- The situation's use: is a stripe unneeded, is it sparse. -/
namespace Go.Proofs.Ytboglaokdgnpaaa
open Go Go.RowKit Gf Sha

def needT (st : St) (l : List Rf) : List Rf := l.filter fun r => st.need r.1
def useU (st : St) (l : List Rf) : Bool := (needT st l).isEmpty
def useS (st : St) (p : Int) (l : List Rf) : Bool := !useU st l && decide (100 * sizes (needT st l) < p * sizes l)
theorem needT_step {st : St} {l : List Rf} {k : Nat} {r : Rf} (h : l[k]? = some r) : needT st (l.take (k + 1)) = needT st (l.take k) ++ (if st.need r.1 then [r] else []) := filt_step h

set_option maxRecDepth 100000 in
set_option maxHeartbeats 2000000 in
theorem use_any (w : World) (b : Nat) (m0 m1 m2 m3 m4 m5 m6 m7 : Nat) (a0 : Option Addr) (n0 c0 : Nat) (a1 : Option Addr) (n1 c1 : Nat) (a2 : Option Addr) (n2 c2 : Nat) (a3 : Option Addr) (n3 c3 : Nat) (a4 : Option Addr) (n4 c4 : Nat) (a5 : Option Addr) (n5 c5 : Nat) (p : Int) (st : St) (h : StM w b m0 m1 m2 m3 m4 m5 m6 m7 a0 n0 c0 a1 n1 c1 a2 n2 c2 a3 n3 c3 a4 n4 c4 a5 n5 c5 p st) (hp : 0 ≤ p ∧ p ≤ 100)
  (s : Sp) (A : Option Addr) (n c : Nat) (hl : LS rRf 3 32 w A n c s.refs) (hz : szOk s.refs) :
  Calls Try.prog 80 #[.pointer (some ⟨b, 0, none⟩), .agg (spC s A n c).toArray] w fun e w' => e = .returned (.tuple #[.bool (useU st s.refs), .bool (useS st p s.refs)]) ∧ Below w.heap.size w w' := by
 have hn := hl.len_le
 have H := Lib.hid hl
 have HL := Lib.hid hl.1
 have HS := Lib.hid h
 have HZ := Lib.hid hz
 clear h hl hz
 go_enter Try.func80, Try.ntmps80
 go_wp2_with (first
  | ((with_reducible show OpW 3); refine wpList_box _ rfl 61 (.tmp 1) rfl (spC s A n c) rfl ?_; intro w1 a1 a2 a3; have HB1 := Lib.hid a2; have HT1 := Lib.hid a1; have r5 := a1.get (j := 5) rfl; clear a1 a2 a3))
 clear r5
 go_loopw [4, 6, 7, 13] (fun u v1 v2 iv wr => ∃ k : Nat, k ≤ n ∧ iv = .int .i64 (k : Int) ∧ Hid (u = .bool (useU st (s.refs.take k))) ∧ Hid (v1 = .int .i64 (sizes (needT st (s.refs.take k)))) ∧ Hid (v2 = .int .i64 (sizes (s.refs.take k))) ∧ Hid (Below w.heap.size w wr)) (fun _ _ _ iv _ => n - (intOf iv).toNat)
 case atStart => exact ⟨0, by omega, rfl, Lib.hid rfl, Lib.hid rfl, Lib.hid rfl, HB1⟩
 case round =>
  obtain ⟨k, hk, rfl, hu, hv1, hv2, hb⟩ := hrel
  obtain rfl := hu.out
  obtain rfl := hv1.out
  obtain rfl := hv2.out
  clear hu hv1 hv2
  obtain ⟨wx, hwx⟩ : ∃ x, x = wr := ⟨_, rfl⟩
  rw [← hwx] at hb ⊢
  clear hwx
  by_cases hlt : k < n
  ·
   obtain ⟨r, g, o, cs, hs, rfl, hat, rfl, hok⟩ := H.out.at_ stay_rf (Below.refl _ _) hlt
   have HA := Lib.hid (hat.kept hb.out)
   have HKS := Lib.hid (keyS r.1 (reach_key hok.1))
   have HT2 : Hid (sizes (s.refs.take (k + 1)) = sizes (s.refs.take k) + r.2.2) := Lib.hid (by rw [take_next hs, sizes_snoc])
   have z1 : szOk (s.refs.take k) := ⟨Nat.le_trans (List.length_take_le _ _) (by have := HZ.out.1; have := HL.out; omega), fun r hr => HZ.out.2 r (List.mem_of_mem_take hr)⟩
   have z2 : szOk (needT st (s.refs.take k)) := z1.filter _
   have b1 := z1.bound
   have b2 := z2.bound
   have b3 := HZ.out.2 r (List.mem_of_getElem? hs)
   have HNX := Lib.hid (needT_step (st := st) hs)
   clear z1 z2 hat hok hs
   obtain ⟨U, hU⟩ : ∃ U, U = useU st (s.refs.take k) := ⟨_, rfl⟩
   obtain ⟨S1, hS1⟩ : ∃ S, S = sizes (needT st (s.refs.take k)) := ⟨_, rfl⟩
   obtain ⟨S2, hS2⟩ : ∃ S, S = sizes (s.refs.take k) := ⟨_, rfl⟩
   rw [← hS1] at b2
   rw [← hS2] at b1 HT2
   rw [← hU, ← hS1, ← hS2]
   have HU := Lib.hid hU
   have HS1 := Lib.hid hS1
   clear hU hS1 hS2
   have ew2 : IntKind.i64.wrap (S2 + r.2.2) = S2 + r.2.2 := by rw [IntKind.wrap_i64]; omega
   have ew1 : IntKind.i64.wrap (S1 + r.2.2) = S1 + r.2.2 := by rw [IntKind.wrap_i64]; omega
   have q8 := (HS.out.blk.kept hb.out).get (j := 8) rfl
   cases h1 : st.need r.1 with
   | true =>
    have HF1 : Hid (useU st (s.refs.take (k + 1)) = false) := Lib.hid (by rw [useU, HNX.out, h1]; simp)
    have HF2 : Hid (sizes (needT st (s.refs.take (k + 1))) = S1 + r.2.2) := Lib.hid (by rw [HNX.out, h1, if_pos rfl, sizes_snoc, HS1.out])
    go_wp2_with (first
     | ((with_reducible show OpW 16); refine wpList_loadv _ rfl 73 (.tmp 15) rfl 3 (by kernel_rfl) g (o + k * 3) (rfL r) (by go_simp) HA.out rfl ?_)
     | ((with_reducible show OpW 9); refine wpList_alloc _ rfl 73 rfl rfZ rfZero ?_; intro w3 a1 a2 a3; have HV3 := Lib.hid a1; have HX3 := Lib.hid a2; clear a1 a2 a3)
     | ((with_reducible show OpN); refine wpList_storev _ rfl 73 (.tmp 9) (.tmp 16) rfl 3 (by kernel_rfl) wx.heap.size 0 _ rfZ (rfL r) rfl rfl HV3.out rfl (one_rf r) (by decide) ?_; intro w4 a1 a2 a3; have HV4 : Hid (BL w4 wx.heap.size 73 (rfL r)) := Lib.hid a1; have HX4 : Hid (Below wx.heap.size wx w4) := Lib.hid (((Kp.of_below (S := fun _ => False) HX3.out).after a2 (fun i hi e => by omega)).below (Nat.le_refl _) (fun _ h => h.elim)); clear a1 a2 a3; have r0 := HV4.out.get (j := 0) rfl; have r2 := HV4.out.get (j := 2) rfl; have q8 := (HS.out.blk.kept (below_thenB hb.out hb.out.size HX4.out)).get (j := 8) rfl)
     | fail)
    refine Text.wp_region_text (fun _ => True) [(0, 4), (1, 4), (2, 4), (4, 4), (3, 1), (5, 1), (6, 2)] (by kernel_rfl) (by kernel_rfl) (fun _ _ _ _ _ h => h) (trivial) ?_
    iterate 4 (refine Text.purek rfl rfl (fun K hK => ⟨_, fun w' => by go_simp <;> rfl, ?_⟩); go_simp; refine hK _ ?_; clear hK K)
    iterate 2 (refine Text.readk rfl rfl (fun K hK => ⟨_, by go_simp <;> rfl, ?_⟩); go_simp; refine hK _ ?_; clear hK K)
    refine Text.eff rfl rfl (fun K hK => ?_)
    refine wp_lookG _ (.tmp 24) (.tmp 26) 78 9 4 rfl strKeyed mapSB (.bool false) boolZero m1 _ rfl (HS.out.maps.kept (below_thenB hb.out hb.out.size HX4.out.drew)).need r.1 rfl HKS.out ?_
    rw [h1]
    go_simp
    refine hK _ _ trivial ?_
    clear hK K
    refine Text.done ?_
    go_wp2_with fail
    go_roundw
    case rel => exact ⟨k + 1, by omega, by go_num, Lib.hid (by rw [HF1.out]), Lib.hid (by rw [HF2.out]), Lib.hid (by rw [HT2.out]), Lib.hid (below_thenB hb.out hb.out.size HX4.out.drew)⟩
    case measure => simp [intOf]; omega
   | false =>
    have HF1 : Hid (useU st (s.refs.take (k + 1)) = U) := Lib.hid (by rw [useU, HNX.out, h1, HU.out, useU]; simp)
    have HF2 : Hid (sizes (needT st (s.refs.take (k + 1))) = S1) := Lib.hid (by rw [HNX.out, h1, HS1.out]; simp)
    go_wp2_with (first
     | ((with_reducible show OpW 16); refine wpList_loadv _ rfl 73 (.tmp 15) rfl 3 (by kernel_rfl) g (o + k * 3) (rfL r) (by go_simp) HA.out rfl ?_)
     | ((with_reducible show OpW 9); refine wpList_alloc _ rfl 73 rfl rfZ rfZero ?_; intro w3 a1 a2 a3; have HV3 := Lib.hid a1; have HX3 := Lib.hid a2; clear a1 a2 a3)
     | ((with_reducible show OpN); refine wpList_storev _ rfl 73 (.tmp 9) (.tmp 16) rfl 3 (by kernel_rfl) wx.heap.size 0 _ rfZ (rfL r) rfl rfl HV3.out rfl (one_rf r) (by decide) ?_; intro w4 a1 a2 a3; have HV4 : Hid (BL w4 wx.heap.size 73 (rfL r)) := Lib.hid a1; have HX4 : Hid (Below wx.heap.size wx w4) := Lib.hid (((Kp.of_below (S := fun _ => False) HX3.out).after a2 (fun i hi e => by omega)).below (Nat.le_refl _) (fun _ h => h.elim)); clear a1 a2 a3; have r0 := HV4.out.get (j := 0) rfl; have r2 := HV4.out.get (j := 2) rfl; have q8 := (HS.out.blk.kept (below_thenB hb.out hb.out.size HX4.out)).get (j := 8) rfl)
     | fail)
    refine Text.wp_region_text (fun _ => True) [(0, 4), (1, 4), (2, 4), (4, 4), (3, 1), (5, 1), (6, 2)] (by kernel_rfl) (by kernel_rfl) (fun _ _ _ _ _ h => h) (trivial) ?_
    iterate 4 (refine Text.purek rfl rfl (fun K hK => ⟨_, fun w' => by go_simp <;> rfl, ?_⟩); go_simp; refine hK _ ?_; clear hK K)
    iterate 2 (refine Text.readk rfl rfl (fun K hK => ⟨_, by go_simp <;> rfl, ?_⟩); go_simp; refine hK _ ?_; clear hK K)
    refine Text.eff rfl rfl (fun K hK => ?_)
    refine wp_lookG _ (.tmp 24) (.tmp 26) 78 9 4 rfl strKeyed mapSB (.bool false) boolZero m1 _ rfl (HS.out.maps.kept (below_thenB hb.out hb.out.size HX4.out.drew)).need r.1 rfl HKS.out ?_
    rw [h1]
    go_simp
    refine hK _ _ trivial ?_
    clear hK K
    refine Text.done ?_
    go_wp2_with fail
    go_roundw
    case rel => exact ⟨k + 1, by omega, by go_num, Lib.hid (by rw [HF1.out]), Lib.hid (by rw [HF2.out]), Lib.hid (by rw [HT2.out]), Lib.hid (below_thenB hb.out hb.out.size HX4.out.drew)⟩
    case measure => simp [intOf]; omega
  ·
   obtain rfl : k = n := by omega
   have HE := Lib.hid (take_end HL.out)
   rw [HE.out]
   have z1 := HZ.out.bound
   have z2 := (HZ.out.filter (fun r => st.need r.1)).bound
   obtain ⟨S1, hS1⟩ : ∃ S, S = sizes (needT st s.refs) := ⟨_, rfl⟩
   obtain ⟨S2, hS2⟩ : ∃ S, S = sizes s.refs := ⟨_, rfl⟩
   obtain ⟨P2, hP2⟩ : ∃ P, P = p * S2 := ⟨_, rfl⟩
   rw [show sizes (s.refs.filter fun r => st.need r.1) = S1 from hS1.symm] at z2
   rw [← hS2] at z1
   rw [← hS1, ← hS2]
   have b3 : 0 ≤ P2 ∧ P2 ≤ 3276800000 := by
    rw [hP2]
    have h3 : p * S2 ≤ 100 * 32768000 := Int.mul_le_mul hp.2 z1.2 z1.1 (by omega)
    exact ⟨Int.mul_nonneg hp.1 z1.1, by omega⟩
   have ew1 : IntKind.i64.wrap (100 * S1) = 100 * S1 := by rw [IntKind.wrap_i64]; omega
   have ew2 : IntKind.i64.wrap (p * S2) = P2 := by rw [← hP2, IntKind.wrap_i64]; omega
   have q6 := (HS.out.blk.kept hb.out).get (j := 6) rfl
   have HR : Hid (useS st p s.refs = (!useU st s.refs && decide (100 * S1 < P2))) := Lib.hid (by rw [useS, hS1, hP2, hS2])
   clear hS1 hS2 hP2 b3 z1 z2
   cases h1 : useU st s.refs with
   | true =>
    go_wp2_with fail
    refine Text.wp_region_text (fun _ => True) [(0, 4), (1, 4), (2, 4), (3, 4), (4, 4), (5, 4), (6, 4), (7, 4), (8, 4), (9, 4), (10, 4), (11, 4), (12, 4), (13, 4), (14, 4), (15, 4), (16, 4)] (by kernel_rfl) (by kernel_rfl) (fun _ _ _ _ _ h => h) (trivial) ?_
    iterate 4 (refine Text.purek rfl rfl (fun K hK => ⟨_, fun w' => by go_simp <;> rfl, ?_⟩); go_simp; refine hK _ ?_; clear hK K)
    iterate 10 (refine Text.skipk (.inr (.inr rfl)) rfl rfl (fun K hK => ?_); go_simp; refine hK _ ?_; clear hK K)
    iterate 3 (refine Text.purek rfl rfl (fun K hK => ⟨_, fun w' => by go_simp <;> rfl, ?_⟩); go_simp; refine hK _ ?_; clear hK K)
    refine Text.done ?_
    go_wp2_with fail
    go_ret2
    exact ⟨by rw [HR.out, h1]; rfl, hb.out.drew⟩
   | false =>
    go_wp2_with fail
    refine Text.wp_region_text (fun _ => True) [(0, 4), (1, 4), (2, 4), (3, 4), (4, 4), (5, 4), (6, 4), (7, 4), (8, 4), (9, 4), (11, 4), (15, 4), (10, 1), (12, 4), (13, 4), (14, 4), (16, 4)] (by kernel_rfl) (by kernel_rfl) (fun _ _ _ _ _ h => h) (trivial) ?_
    iterate 12 (refine Text.purek rfl rfl (fun K hK => ⟨_, fun w' => by go_simp <;> rfl, ?_⟩); go_simp; refine hK _ ?_; clear hK K)
    (refine Text.readk rfl rfl (fun K hK => ⟨_, by go_simp <;> rfl, ?_⟩); go_simp; refine hK _ ?_; clear hK K)
    iterate 4 (refine Text.purek rfl rfl (fun K hK => ⟨_, fun w' => by go_simp <;> rfl, ?_⟩); go_simp; refine hK _ ?_; clear hK K)
    refine Text.done ?_
    go_wp2_with fail
    go_ret2
    exact ⟨by rw [HR.out, h1]; rfl, hb.out.drew⟩
end Go.Proofs.Ytboglaokdgnpaaa
