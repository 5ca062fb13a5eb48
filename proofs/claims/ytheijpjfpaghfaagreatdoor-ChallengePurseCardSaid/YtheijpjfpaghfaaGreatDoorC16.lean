/- Several texts in one: Pu5, Pu6. -/
import Derived.Test.YtheijpjfpaghfaaGreatDoorC13
import Derived.Laws.IdiomRangeMap
/- A range over a map of at most one entry; Purse.size. -/
namespace Go.Proofs.YtheijpjfpaghfaaGreatDoor
open Go Go.RowKit Gf Go.ChangeMaps

section
variable {P : Program} {w : World} {r m since last clock : Nat}
theorem next_nil (ty : TypeId) {seen : Array Nat} (hr : w.heap[r]? = some (.mapIter (some m) since seen last)) (hb : w.heap[m]? = some (.map #[] clock)) : (Instr.next (.pointer (some ⟨r, 0, none⟩)) false ty).run P w = .ok (.tuple #[.bool false]) w := by
 simp [Instr.next, getObj, Sem.run, hr, hb, Result.andThen, choose, Question.forced]
theorem next_one (ty : TypeId) {e : MapEntry} (hr : w.heap[r]? = some (.mapIter (some m) since #[] last)) (hb : w.heap[m]? = some (.map #[e] clock)) (he : e.born < since) :
  (Instr.next (.pointer (some ⟨r, 0, none⟩)) false ty).run P w = .ok (.tuple #[.bool true, e.key, e.val]) (setBlock w r (.mapIter (some m) since #[e.born] clock)) := by
 have h1 : ¬ since ≤ e.born := by omega
 simp [Instr.next, getObj, setObj, Sem.run, hr, hb, Result.andThen, choose, Question.forced, he, h1]
 rfl
theorem next_done (ty : TypeId) {e : MapEntry} (hr : w.heap[r]? = some (.mapIter (some m) since #[e.born] clock)) (hb : w.heap[m]? = some (.map #[e] clock)) (he : e.born < clock) :
  (Instr.next (.pointer (some ⟨r, 0, none⟩)) false ty).run P w = .ok (.tuple #[.bool false]) w := by
 have h1 : ¬ clock ≤ e.born := by omega
 simp [Instr.next, getObj, setObj, Sem.run, hr, hb, Result.andThen, choose, Question.forced, h1]
theorem entry_one {e : MapEntry} (hr : w.heap[r]? = some (.mapIter (some m) since #[e.born] clock)) (hb : w.heap[m]? = some (.map #[e] clock)) :
  (Instr.entry (.pointer (some ⟨r, 0, none⟩))).run P w = .ok (.tuple #[e.key, e.val]) w := by
 simp [Instr.entry, getObj, Sem.run, hr, hb, Result.andThen]

variable {o : Oper} {a : Act} {Q : Exit → Act → World → Prop} {ops : Array Oper} {rest : List Oper}
theorem wpList_range (w : World) (hg : o.guard = none) (t k e : TypeId) (x : Operand) (hop : o.op = .range t x) (ht : P.underlying t = some (.map k e)) (m clock : Nat) (es : Array MapEntry) (hx : a.eval x = .map (some m)) (hb : w.heap[m]? = some (.map es clock))
  (h : ∀ w', w'.heap[w.heap.size]? = some (.mapIter (some m) clock #[] clock) → Below w.heap.size w w' → w'.heap.size = w.heap.size + 1 → wpList P ops Q rest (a.put o.dst (.pointer (some ⟨w.heap.size, 0, none⟩))) w') : wpList P ops Q (o :: rest) a w :=
 wpList_plain hg fun K hK => by
  unfold Oper.wp execOp
  simp only [hop, hx]
  simp [run_range_map w t k e m es clock ht hb, Result.andThen]
  exact hK _ _ (h _ (heap_alloc_new w _) ((Below.refl _ _).alloc (Nat.le_refl _) _) (by simp))
/-- An operation that yields a value, its run told. -/
theorem wpList_run (w : World) (hg : o.guard = none) (v : Value) (w' : World) (hr : (execOp a.eval o).run P w = .ok (.value v) w') (h : wpList P ops Q rest (a.put o.dst v) w') : wpList P ops Q (o :: rest) a w :=
 wpList_plain hg fun K hK => by
  unfold Oper.wp
  rw [hr]
  exact hK _ _ h
theorem exec_next {x : Operand} {v : Value} {w' : World} (hop : o.op = .next x false) (hr : (Instr.next (a.eval x) false o.type).run P w = .ok v w') : (execOp a.eval o).run P w = .ok (.value v) w' := by
 unfold execOp
 simp only [hop]
 simp [hr, Result.andThen]
theorem exec_entry {x : Operand} {v : Value} {w' : World} (hop : o.op = .entry x) (hr : (Instr.entry (a.eval x)).run P w = .ok v w') : (execOp a.eval o).run P w = .ok (.value v) w' := by
 unfold execOp
 simp only [hop]
 simp [hr, Result.andThen]
end

theorem RW.nil_len {w : World} {te : TypeId} {s n : Nat} {l : List Value} (h : RW w te s nilV n l) : n = 0 := by
 rcases h.2 with ⟨_, h0⟩ | ⟨g, o, c, cs, e, _⟩
 ·
  exact h0
 ·
  cases e
theorem es_one {es : Array MapEntry} {k v : Value} (h : es.toList.map (fun e => (e.key, e.val)) = [(k, v)]) : ∃ e : MapEntry, es = #[e] ∧ e.key = k ∧ e.val = v := by
 rcases es with ⟨l⟩
 match l, h with
 | [e], h =>
  simp only [List.map_cons, List.map_nil, List.cons.injEq, Prod.mk.injEq, and_true] at h
  exact ⟨e, rfl, h.1, h.2⟩
theorem es_none {es : Array MapEntry} (h : es.toList.map (fun e => (e.key, e.val)) = []) : es = #[] := by
 rcases es with ⟨l⟩
 match l, h with
 | [], _ => rfl
theorem Kp.setBlock {S : Nat → Prop} {w w1 : World} (h : Kp S w w1) {r : Nat} (o : Obj) (hr : S r ∨ w.heap.size ≤ r) : Kp S w (setBlock w1 r o) :=
 ⟨h.os, h.tape, h.output, by show _ ≤ (w1.heap.setIfInBounds r o).size; rw [Array.size_setIfInBounds]; exact h.size, fun k hk hn => by
  show (w1.heap.setIfInBounds r o)[k]? = _
  rw [Array.getElem?_setIfInBounds_ne (fun e => by
   subst e; rcases hr with hr | hr
   ·
    exact hn hr
   ·
    omega)]
  exact h.block k hk hn⟩

set_option maxRecDepth 100000 in
set_option maxHeartbeats 1000000 in
theorem size_any (w : World) (gp gm : Nat) (s : List UInt8) (i : Int) (tv uv : Value) (tk : List Sc) (us : List (List UInt8)) (h : PQ w gp gm s i tv uv tk us) :
  Calls Tryz.prog 40 #[.pointer (some ⟨gp, 0, none⟩)] w fun e w' => e = .returned (.int .i64 ((tk.length + us.length : Nat) : Int)) ∧ Below w.heap.size w w' := by
 have HP := Lib.hid h
 obtain ⟨L, hm, hL⟩ := h.m
 obtain ⟨es, clock, hb, hst, _, hes⟩ := hm
 have HB := Lib.hid hb
 have q0 := h.p.get (j := 0) rfl
 have HOLD := Lib.hid hst.1
 have HES := Lib.hid hes
 have HL := Lib.hid hL
 have hgm : gm < w.heap.size := (Array.getElem?_eq_some_iff.1 hb).1
 clear h hL hst hes hb
 go_enter Tryz.func40, Tryz.ntmps40
 go_wp2_with (first
  | ((with_reducible show OpW 10); refine wpList_range _ rfl 92 39 80 (.tmp 9) rfl stMap gm clock es rfl HB.out ?_; intro w1 a1 a2 a3; have HI1 := Lib.hid a1; have HB1 := Lib.hid a2; have HZ1 := Lib.hid a3; clear a1 a2 a3))
 go_simp
 rcases HL.out with ⟨rfl, rfl, rfl⟩ | rfl
 ·
  obtain rfl := es_none HES.out
  have e1 := RW.nil_len HP.out.st.t
  have e2 := RW.nil_len HP.out.st.u
  go_loopw [3] (fun nv wr => nv = .int .i64 0 ∧ Hid (wr = w1)) (fun _ _ => 0)
  case atStart => exact ⟨rfl, Lib.hid rfl⟩
  case round =>
   obtain ⟨rfl, hw⟩ := hrel
   obtain rfl := hw.out
   have HB' := Lib.hid ((HB1.out.block gm hgm).trans HB.out)
   go_wp2_with (first
    | ((with_reducible show OpW 11); refine wpList_run _ rfl _ _ (exec_next (x := .tmp 10) rfl (next_nil _ HI1.out HB'.out)) ?_))
   go_ret
   exact ⟨rfl, HB1.out⟩
 ·
  obtain ⟨⟨ek, ev, eb⟩, rfl, hk, hv⟩ := es_one HES.out
  obtain rfl : ek = pidV s i := hk
  obtain rfl : ev = stV tv uv := hv
  have HEB : Hid (eb < clock) := Lib.hid (HOLD.out ⟨pidV s i, stV tv uv, eb⟩ (by simp))
  have HO : Hid (∀ v ∈ [tv, uv], v.oneCell' = true) := Lib.hid (by
   obtain ⟨A1, c1, x1, _⟩ := HP.out.st.t.form
   obtain ⟨A2, c2, x2, _⟩ := HP.out.st.u.form
   intro v hv
   simp only [List.mem_cons, List.not_mem_nil, or_false] at hv
   rcases hv with rfl | rfl
   ·
    rw [x1]; rfl
   ·
    rw [x2]; rfl)
  obtain ⟨tt, htt⟩ : ∃ tt, tt = tk.length + us.length := ⟨_, rfl⟩
  have HTT := Lib.hid htt
  have htl : (tt : Int) ≤ 200000 := by have := HP.out.st.bt; have := HP.out.st.bu; omega
  clear htt
  go_loopw [3] (fun nv wr => (nv = .int .i64 0 ∧ Hid (wr.heap[w.heap.size]? = some (.mapIter (some gm) clock #[] clock)) ∧ Hid (Below w.heap.size w wr)) ∨ (nv = .int .i64 (tt : Int) ∧ Hid (wr.heap[w.heap.size]? = some (.mapIter (some gm) clock #[eb] clock)) ∧ Hid (Below w.heap.size w wr))) (fun _ wr => 1 - (wr.iterSeen w.heap.size).size)
  case atStart => exact .inl ⟨rfl, HI1, HB1⟩
  case round =>
   rcases hrel with ⟨rfl, hi, hb⟩ | ⟨rfl, hi, hb⟩
   ·
    obtain ⟨wx, hwx⟩ : ∃ x, x = wr := ⟨_, rfl⟩
    rw [← hwx] at hi hb ⊢
    clear hwx
    have HBm := Lib.hid ((hb.out.block gm hgm).trans HB.out)
    obtain ⟨w2, hw2⟩ : ∃ w2, w2 = setBlock wx w.heap.size (.mapIter (some gm) clock #[eb] clock) := ⟨_, rfl⟩
    have HR2 := Lib.hid hw2
    have hlt := (Array.getElem?_eq_some_iff.1 hi.out).1
    have HI2 : Hid (w2.heap[w.heap.size]? = some (.mapIter (some gm) clock #[eb] clock)) := Lib.hid (by
     rw [hw2]
     show (wx.heap.setIfInBounds _ _)[_]? = _
     simp [hlt])
    have HB2 : Hid (Below w.heap.size w w2) := Lib.hid (by
     rw [hw2]
     exact (Kp.setBlock (S := fun _ => False) (Kp.of_below hb.out) _ (.inr (Nat.le_refl _))).below (Nat.le_refl _) (fun _ h => h.elim))
    have HZ2 : Hid (w2.heap.size = wx.heap.size) := Lib.hid (by rw [hw2]; show (wx.heap.setIfInBounds _ _).size = _; simp)
    have HBm2 := Lib.hid ((HB2.out.block gm hgm).trans HB.out)
    clear hw2
    go_wp2_with (first
     | ((with_reducible show OpW 11); refine wpList_run _ rfl _ w2 (by rw [HR2.out]; exact exec_next (x := .tmp 10) rfl (next_one _ hi.out HBm.out HEB.out)) ?_)
     | ((with_reducible show OpW 13); refine wpList_run _ rfl _ w2 (exec_entry (x := .tmp 10) rfl (entry_one HI2.out HBm2.out)) ?_)
     | ((with_reducible show OpW 5); refine wpList_alloc _ rfl 80 rfl [nilV, nilV] stZero' ?_; intro w3 a1 a2 a3; have HS3 := Lib.hid a1; have HX3 := Lib.hid a2; clear a1 a2 a3)
     | ((with_reducible show OpN); refine wpList_storev _ rfl 80 (.tmp 5) (.tmp 14) rfl 2 (by kernel_rfl) w2.heap.size 0 _ [nilV, nilV] [tv, uv] rfl rfl HS3.out rfl HO.out (by decide) ?_; intro w4 a1 a2 a3; have HS4 : Hid (BL w4 w2.heap.size 80 [tv, uv]) := Lib.hid a1; have HX4 : Hid (Below w2.heap.size w2 w4) := Lib.hid (((Kp.of_below (S := fun _ => False) HX3.out).after a2 (fun i hi e => by omega)).below (Nat.le_refl _) (fun _ h => h.elim)); clear a1 a2 a3)
     | ((with_reducible show OpW 16); refine wpList_loadv _ rfl 80 (.tmp 5) rfl 2 (by kernel_rfl) w2.heap.size 0 [tv, uv] rfl (BL.all HS4.out) rfl ?_)
     | (go_at_call 34; have HB4 := Lib.hid (below_thenB HB2.out HB2.out.size HX4.out); refine (stsize_any w4 tv uv tk us (HP.out.st.kept HB4.out)).mono ?_; rintro e w5 ⟨rfl, b1⟩; rw [← HTT.out]; have HX5 := Lib.hid (below_thenB HX4.out HX4.out.size b1); clear b1))
    go_roundw
    case rel => exact .inr ⟨by go_num, Lib.hid ((HX5.out.block _ (by rw [HZ2.out]; exact hlt)).trans HI2.out), Lib.hid (below_thenB HB2.out HB2.out.size HX5.out)⟩
    case measure =>
     have e1 : wx.iterSeen w.heap.size = #[] := by unfold World.iterSeen; rw [hi.out]
     have e2 : w5.iterSeen w.heap.size = #[eb] := by unfold World.iterSeen; rw [HX5.out.block _ (by rw [HZ2.out]; exact hlt), HI2.out]
     rw [e1, e2]; simp
   ·
    have HBm := Lib.hid ((hb.out.block gm hgm).trans HB.out)
    go_wp2_with (first
     | ((with_reducible show OpW 11); refine wpList_run _ rfl _ _ (exec_next (x := .tmp 10) rfl (next_done _ hi.out HBm.out HEB.out)) ?_))
    go_ret
    exact ⟨by show Ending.returned (.int .i64 (tt : Int)) = _; rw [HTT.out]; simp, hb.out⟩
end Go.Proofs.YtheijpjfpaghfaaGreatDoor
/- Sets of strings in memory; lists of tokens of one piece; what Add makes of a purse. -/
namespace Go.Proofs.YtheijpjfpaghfaaGreatDoor
open Go Go.RowKit Gf

theorem keyStr (x : List UInt8) (hx : x.length ≤ 9223372036854775807) : ∃ lx, keyOf Tryz.prog 9 (usC x) = some lx := by
 have hm : (strB x).size ≤ maxLen := by rw [strB_size]; exact hx
 unfold keyOf
 rw [Tryz.underlying9]
 simp [mapKey, usC, Tryz.underlying9, hm]
/-- Block ib is a map[string]bool of just these strings. -/
def SetB (w : World) (ib : Nat) (kn : List (List UInt8)) : Prop := ∃ L, MB Tryz.prog 9 w ib L ∧ (∀ p ∈ L, p.2 = .bool true) ∧ ∀ x, (∃ p ∈ L, p.1 = usC x) ↔ x ∈ kn
section
variable {w w' : World} {ib : Nat} {kn : List (List UInt8)}
theorem SetB.kp {S : Nat → Prop} (h : SetB w ib kn) (hk : Kp S w w') (hn : ¬ S ib) : SetB w' ib kn := by
 obtain ⟨L, h1, h2⟩ := h
 exact ⟨L, h1.kp hk hn, h2⟩
theorem SetB.kept (h : SetB w ib kn) (hb : Below w.heap.size w w') : SetB w' ib kn := by
 obtain ⟨L, h1, h2⟩ := h
 exact ⟨L, h1.kept hb, h2⟩
theorem SetB.lt (h : SetB w ib kn) : ib < w.heap.size := by
 obtain ⟨L, h1, h2⟩ := h
 exact h1.lt
theorem SetB.new (h : MB Tryz.prog 9 w ib []) : SetB w ib [] := ⟨[], h, by simp, by simp⟩
end
theorem usC_inj {x y : List UInt8} (h : usC x = usC y) : x = y := by
 unfold usC at h
 injection h with h
 exact strB_inj h
theorem set_found {L : List (Value × Value)} {kn : List (List UInt8)} {x : List UInt8} {v : Value} {f : Bool} (h1 : ∀ p ∈ L, p.2 = .bool true) (h2 : ∀ x, (∃ p ∈ L, p.1 = usC x) ↔ x ∈ kn) (h : Found L (usC x) (.bool false) v f) : v = .bool (kn.contains x) := by
 cases h with
 | yes i v h =>
  have hm := List.mem_of_getElem? h
  have e := h1 _ hm
  have hx := (h2 x).1 ⟨_, hm, rfl⟩
  simp only at e
  rw [e, List.contains_iff_mem.2 hx]
 | no h =>
  have hx : ¬ x ∈ kn := fun hx => by
   obtain ⟨p, hp, e⟩ := (h2 x).2 hx
   exact h p hp e
  have : kn.contains x = false := by
   rw [Bool.eq_false_iff]
   intro e
   exact hx (List.contains_iff_mem.1 e)
  rw [this]
theorem set_stored {L L' : List (Value × Value)} {kn : List (List UInt8)} {x : List UInt8} (h1 : ∀ p ∈ L, p.2 = .bool true) (h2 : ∀ x, (∃ p ∈ L, p.1 = usC x) ↔ x ∈ kn) (h : Stored L (usC x) (.bool true) L') : (∀ p ∈ L', p.2 = .bool true) ∧ ∀ y, (∃ p ∈ L', p.1 = usC y) ↔ y ∈ kn ++ [x] := by
 cases h with
 | old i u h =>
  obtain ⟨hi, hu⟩ := List.getElem?_eq_some_iff.1 h
  have e : u = .bool true := by have := h1 _ (List.mem_of_getElem? h); exact this
  subst e
  have e2 : L.set i (usC x, .bool true) = L := by rw [← hu]; exact List.set_getElem_self hi
  rw [e2]
  refine ⟨h1, fun y => ?_⟩
  rw [h2, List.mem_append, List.mem_singleton]
  constructor
  ·
   exact .inl
  ·
   rintro (h | rfl)
   ·
    exact h
   ·
    exact (h2 _).1 ⟨_, List.mem_of_getElem? h, rfl⟩
 | new h =>
  refine ⟨fun p hp => ?_, fun y => ?_⟩
  ·
   rcases List.mem_append.1 hp with hp | hp
   ·
    exact h1 p hp
   ·
    rw [List.mem_singleton.1 hp]
  ·
   rw [List.mem_append, List.mem_singleton, ← h2]
   constructor
   ·
    rintro ⟨p, hp, e⟩
    rcases List.mem_append.1 hp with hp | hp
    ·
     exact .inl ⟨p, hp, e⟩
    ·
     rw [List.mem_singleton.1 hp] at e
     exact .inr (usC_inj e).symm
   ·
    rintro (⟨p, hp, e⟩ | rfl)
    ·
     exact ⟨p, List.mem_append_left _ hp, e⟩
    ·
     exact ⟨_, List.mem_append_right _ (List.mem_singleton_self _), rfl⟩

/-- A slice of tokens of one piece. -/
def TkP (w : World) (A : Option Addr) (n c : Nat) (s : List UInt8) (i : Int) (xs : List Sc) : Prop :=
 xs.length = n ∧ n ≤ c ∧ n ≤ 100000 ∧ ∀ k, (h : k < xs.length) → ∃ g o, A = some ⟨g, o, none⟩ ∧ At w g (o + k * 4) (tokC s i xs[k])
theorem TkP.kept {w w' : World} {A : Option Addr} {n c : Nat} {s : List UInt8} {i : Int} {xs : List Sc} (h : TkP w A n c s i xs) (hb : Below w.heap.size w w') : TkP w' A n c s i xs :=
 ⟨h.1, h.2.1, h.2.2.1, fun k hk => let ⟨g, o, e, hc⟩ := h.2.2.2 k hk; ⟨g, o, e, hc.kept hb⟩⟩
/-- Are the tokens valid? -/
def tokB (s : List UInt8) (i : Int) (xs : List Sc) : Bool := idB s i && xs.all fun x => decide (x.1.length = 32) && decide (x.2.length = 32)
/-- Are the nonces new, one after the other? -/
def addB : List (List UInt8) → List Sc → Bool
 | _, [] => true
 | kn, x :: xs => !kn.contains x.1 && addB (kn ++ [x.1]) xs
theorem addB_no {kn : List (List UInt8)} {xs : List Sc} {k : Nat} (hk : k < xs.length) (h : (kn ++ (xs.take k).map (·.1)).contains xs[k].1 = true) : addB kn xs = false := by
 induction xs generalizing kn k with
 | nil => simp at hk
 | cons x xs ih =>
  cases k with
  | zero => simp at h; simp [addB, h]
  | succ k =>
   simp only [List.take_succ_cons, List.map_cons, List.getElem_cons_succ] at h
   have := ih (kn := kn ++ [x.1]) (k := k) (by simpa using hk) (by simpa using h)
   simp [addB, this]
theorem addB_yes {kn : List (List UInt8)} {xs : List Sc} (h : ∀ k, (hk : k < xs.length) → (kn ++ (xs.take k).map (·.1)).contains xs[k].1 = false) : addB kn xs = true := by
 induction xs generalizing kn with
 | nil => rfl
 | cons x xs ih =>
  have h0 := h 0 (by simp)
  have := ih (kn := kn ++ [x.1]) (fun k hk => by
   have := h (k + 1) (by simpa using hk)
   simpa using this)
  simp only [addB, this, Bool.and_true]
  simpa using h0
end Go.Proofs.YtheijpjfpaghfaaGreatDoor
