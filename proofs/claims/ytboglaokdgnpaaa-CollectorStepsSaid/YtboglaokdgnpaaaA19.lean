/- Several texts in one: Sj, Sk. -/
import Derived.Test.YtboglaokdgnpaaaA18
import Derived.Test.YtboglaokdgnpaaaA7
/- collector.read: the situation with its maps. Plain facts; laws for the operations of the bag. -/
namespace Go.Proofs.Ytboglaokdgnpaaa
open Go Go.RowKit Gf Sha

/-- The place of a stripe. -/
def plF (l : List Sp) (id : List UInt8) : Option Nat := l.findIdx? fun s => s.id == id
def liveRefs (x : Si) (l : List Sp) : List Rf := (l.filter fun s => liveB x s.id).flatMap (·.refs)
/-- What read makes of the first stripes. -/
def stK (x : Si) (l : List Sp) : St where
 pl := plF l
 need := hasB x.need
 cond := hasB x.cond
 drop := hasB x.drop
 carr := hasB x.carr
 held := fun _ => false
 nam := cntN (liveRefs x l)
 ref := cntR (liveRefs x l)
/-- What read makes of a situation. -/
def st0 (x : Si) : St := { stK x x.sp with held := fun p => x.held.any fun q => q == p }
theorem findIdx_snoc {α : Type} (p : α → Bool) (l : List α) (s : α) : (l ++ [s]).findIdx? p = (l.findIdx? p).or (if p s then some l.length else none) := by
 induction l with
 | nil => simp [List.findIdx?_cons]
 | cons a l ih =>
  rw [List.cons_append, List.findIdx?_cons, List.findIdx?_cons, ih]
  by_cases h : p a = true
  ·
   simp [h]
  ·
   simp only [h, Bool.false_eq_true, if_false]
   cases hl : l.findIdx? p with
   | some i => simp
   | none =>
    by_cases hs : p s = true
    ·
     simp [hs]
    ·
     simp [hs]
theorem plF_step {l : List Sp} {s : Sp} (h : (l.any fun z => z.id == s.id) = false) (y : List UInt8) : plF (l ++ [s]) y = if y = s.id then some l.length else plF l y := by
 unfold plF
 rw [findIdx_snoc]
 by_cases e : y = s.id
 ·
  subst e
  have : (l.findIdx? fun z => z.id == s.id) = none := List.findIdx?_eq_none_iff.2 (fun z hz => by
   have := List.any_eq_false.1 h z hz
   simpa using this)
  rw [if_pos rfl, this]
  simp
 ·
  rw [if_neg e, if_neg (by simpa using fun h => e h.symm), Option.or_none]
theorem liveRefs_step (x : Si) (l : List Sp) (s : Sp) : liveRefs x (l ++ [s]) = liveRefs x l ++ (if liveB x s.id then s.refs else []) := by
 unfold liveRefs
 rw [List.filter_append, List.flatMap_append]
 by_cases h : liveB x s.id = true
 ·
  simp [h]
 ·
  simp [h]
theorem cntN_append (a b : List Rf) (n : List UInt8) : cntN (a ++ b) n = cntN a n + cntN b n := by
 unfold cntN; rw [List.filter_append, List.length_append]; push_cast; rfl
theorem cntR_append (a b : List Rf) (q : Rf) : cntR (a ++ b) q = cntR a q + cntR b q := by
 unfold cntR; rw [List.filter_append, List.length_append]; push_cast; rfl

theorem strSz (w : World) : (sizeOf 23).run Try.prog w = .ok 1 w := by
 have hz : (Try.prog.info? 23).map (·.size) = some 1 := by kernel_rfl
 cases hi : Try.prog.info? 23 with
 | none => simp [hi] at hz
 | some i =>
  have hz' : i.size = 1 := by simpa [hi] using hz
  simp [sizeOf, typeInfo, hi, hz']
section
variable {o : Oper} {a : Act} {w : World}
theorem exec_loadS {x : Operand} {g p n c : Nat} {A : Option Addr} (hop : o.op = .load 23 x) (hx : a.eval x = .pointer (some ⟨g, p, none⟩)) (hc : w.cell? ⟨g, p, none⟩ = some (.slice A n c)) : (execOp a.eval o).run Try.prog w = .ok (.value (.slice A n c)) w := by
 unfold execOp
 simp only [hop, hx]
 go_simp <;> rfl
theorem exec_fa {x : Operand} {g i : Nat} (hop : o.op = .fieldAddr 33 x i) (hi : i < 7) (hx : a.eval x = .pointer (some ⟨g, 0, none⟩)) : (execOp a.eval o).run Try.prog w = .ok (.value (.pointer (some ⟨g, i, none⟩))) w := by
 unfold execOp
 simp only [hop, hx]
 have h7 : i = 0 ∨ i = 1 ∨ i = 2 ∨ i = 3 ∨ i = 4 ∨ i = 5 ∨ i = 6 := by omega
 rcases h7 with rfl | rfl | rfl | rfl | rfl | rfl | rfl <;> go_simp <;> rfl
theorem exec_mk {t : TypeId} (hop : o.op = .makeMap t none) : (execOp a.eval o).run Try.prog w = .ok (.value (.map (some w.heap.size))) (w.alloc (.map #[] 0)) := by
 unfold execOp
 simp only [hop]
 simp [Instr.makeMap, Result.andThen]
theorem exec_callS {x : Operand} {v : Value} {ts : Array TypeId} (hop : o.op = .call { callee := .value (.func 54), args := #[x], argTypes := ts }) (hx : a.eval x = v) : (execOp a.eval o).run Try.prog w = .ok (.enter 54 #[v]) w := by
 have hf : a.eval (.func 54) = .func (.func 54) #[] #[] := rfl
 unfold execOp
 simp only [hop]
 simp only [resolve, invoke, hf, List.map_toArray, List.map_cons, List.map_nil, hx]
 go_simp <;> rfl
end
end Go.Proofs.Ytboglaokdgnpaaa
/- collector.read: the first part, up to the block with the maps. -/
namespace Go.Proofs.Ytboglaokdgnpaaa
open Go Go.RowKit Gf Sha

def sMF {κ : Type} (k : TypeId) (enc : κ → Value) (base : Nat) (f : κ → Option Value) : World → Value → Prop := fun w v => ∃ b, v = .map (some b) ∧ base ≤ b ∧ MF Try.prog k enc w b f
def sMG {κ : Type} (k : TypeId) (enc : κ → Value) (z : Value) (base : Nat) (g : κ → Value) : World → Value → Prop := fun w v => ∃ b, v = .map (some b) ∧ base ≤ b ∧ MG Try.prog k enc z w b g
theorem stay_sMF {κ : Type} (k : TypeId) (enc : κ → Value) (base : Nat) (f : κ → Option Value) : Text.StayS (sMF k enc base f) := fun _ _ _ ⟨b, h1, h2, h3⟩ hb => ⟨b, h1, h2, h3.kept hb⟩
theorem stay_sMG {κ : Type} (k : TypeId) (enc : κ → Value) (z : Value) (base : Nat) (g : κ → Value) : Text.StayS (sMG k enc z base g) := fun _ _ _ ⟨b, h1, h2, h3⟩ hb => ⟨b, h1, h2, h3.kept hb⟩
set_option maxRecDepth 100000 in
theorem bldSit (a0 : Option Addr) (n0 c0 : Nat) (a1 : Option Addr) (n1 c1 : Nat) (a2 : Option Addr) (n2 c2 : Nat) (a3 : Option Addr) (n3 c3 : Nat) (a4 : Option Addr) (n4 c4 : Nat) (a5 : Option Addr) (n5 c5 : Nat) (p : Int) (m0 m1 m2 m3 m4 m5 m6 m7 : Nat) (w : World) :
  (Instr.build 82 #[(0, .agg (siC a0 n0 c0 a1 n1 c1 a2 n2 c2 a3 n3 c3 a4 n4 c4 a5 n5 c5 p).toArray), (1, .map (some m0)), (2, .map (some m1)), (3, .map (some m2)), (4, .map (some m3)), (5, .map (some m4)), (6, .map (some m5)), (7, .map (some m6)), (8, .map (some m7))]).run Try.prog w = .ok (.agg (sitC a0 n0 c0 a1 n1 c1 a2 n2 c2 a3 n3 c3 a4 n4 c4 a5 n5 c5 p m0 m1 m2 m3 m4 m5 m6 m7).toArray) w := by kernel_rfl
section
variable {P : Program} {w : World} {o : Oper} {a : Act} {Q : Exit → Act → World → Prop} {K : Act → World → Prop}
theorem wp_updF {κ : Type} {enc : κ → Value} [DecidableEq κ] (hinj : ∀ x y, enc x = enc y → x = y) (m x v : Operand) (t k e : TypeId) (hop : o.op = .mapUpdate t m x v) (Kd : Go.Maps.Keyed P k) (ht : P.underlying t = some (.map k e))
  (b : Nat) (f : κ → Option Value) (hm : a.eval m = .map (some b)) (hb : MF P k enc w b f) (xv : κ) (vv : Value) (hx : a.eval x = enc xv) (hv : a.eval v = vv) (hk : ∃ lx, keyOf P k (enc xv) = some lx)
  (h : ∀ w', MF P k enc w' b (fun y => if y = xv then some vv else f y) → Kp (· = b) w w' → w'.heap.size = w.heap.size → K (a.put o.dst undef) w') : o.wp P a w K Q := by
 obtain ⟨L, h1, h2, h3⟩ := hb
 obtain ⟨lx, hlx⟩ := hk
 obtain ⟨w', L', hs, hr, h5, h6, h7⟩ := h1.store Kd ht hlx vv
 obtain ⟨r1, r2⟩ := mf_stored hinj h1.nodup h2 h3 hs
 unfold Oper.wp execOp
 simp only [hop, hm, hx, hv]
 simp [hr, Result.andThen]
 exact h w' ⟨L', h5, r1, r2⟩ h6 h7
end
theorem okB_fresh {α β : Type} [BEq β] {p : α → Bool} {f : α → β} {l : List α} (h : okB p f l = true) {k : Nat} {x : α} (hk : l[k]? = some x) : ((l.take k).any fun y => f y == f x) = false := by
 have h1 := List.all_eq_true.1 h k (List.mem_range.2 (List.getElem?_eq_some_iff.1 hk).1)
 simp only [okAt, hk, Bool.and_eq_true, Bool.not_eq_true'] at h1
 exact h1.2
theorem spB_refs {s : Sp} (h : spB s = true) : s.refs.length ≤ 8 ∧ okB rfB rfN s.refs = true ∧ (∀ r ∈ s.refs, rfB r = true) := by
 simp only [spB, cdB, Bool.and_eq_true, decide_eq_true_eq] at h
 refine ⟨by omega, h.2.2.2.2.2.2.1, fun r hr => ?_⟩
 obtain ⟨k, hk⟩ := List.mem_iff_getElem?.1 hr
 exact okB_at (f := rfN) h.2.2.2.2.2.2.1 hk
theorem siB_sp {x : Si} (h : siB x = true) : okB spB spN x.sp = true := by
 simp only [siB, Bool.and_eq_true] at h; exact h.2.1
theorem liveRefs_len (x : Si) : ∀ (l : List Sp), (∀ s ∈ l, s.refs.length ≤ 8) → (liveRefs x l).length ≤ 8 * l.length
 | [], _ => by simp [liveRefs]
 | s :: l, h => by
  have h1 := liveRefs_len x l (fun t ht => h t (by simp [ht]))
  have h2 := h s (by simp)
  have e : liveRefs x (s :: l) = (if liveB x s.id then s.refs else []) ++ liveRefs x l := by
   unfold liveRefs
   by_cases hl : liveB x s.id = true
   ·
    simp [hl]
   ·
    simp [hl]
  rw [e, List.length_append, List.length_cons]
  split
  ·
   omega
  ·
   simp; omega
theorem stK_small {x : Si} (h : siB x = true) {l : List Sp} (hl : ∀ s ∈ l, s ∈ x.sp) (hn : l.length ≤ 1000) : Small (stK x l) := by
 have hr : ∀ s ∈ l, s.refs.length ≤ 8 := fun s hs => by
  obtain ⟨k, hk⟩ := List.mem_iff_getElem?.1 (hl s hs)
  exact (spB_refs (okB_at (siB_sp h) hk)).1
 have h1 := liveRefs_len x l hr
 refine ⟨fun n => ?_, fun r => ?_⟩
 ·
  have h2 := cntN_le (liveRefs x l) n
  show -1000000 ≤ cntN (liveRefs x l) n ∧ cntN (liveRefs x l) n ≤ 1000000
  omega
 ·
  have h2 := cntR_le (liveRefs x l) r
  show -1000000 ≤ cntR (liveRefs x l) r ∧ cntR (liveRefs x l) r ≤ 1000000
  omega
theorem stK_live {x : Si} {l : List Sp} {s : Sp} (h : (l.any fun z => z.id == s.id) = false) : liveT { stK x l with pl := plF (l ++ [s]) } s.id = liveB x s.id := by
 show (Option.isSome (plF (l ++ [s]) s.id) && (!hasB x.cond s.id && !hasB x.drop s.id)) = _
 rw [plF_step h, if_pos rfl]; rfl
theorem stK_step_live {x : Si} {l : List Sp} {s : Sp} (hl : liveB x s.id = true) : ({ stK x l with pl := plF (l ++ [s]) } : St).add s.refs 1 = stK x (l ++ [s]) := by
 unfold St.add stK
 simp only [liveRefs_step, hl, if_true]
 congr 1
 ·
  funext n; rw [cntN_append, Int.one_mul]
 ·
  funext n; rw [cntR_append, Int.one_mul]
theorem stK_step_dead {x : Si} {l : List Sp} {s : Sp} (hl : liveB x s.id = false) : ({ stK x l with pl := plF (l ++ [s]) } : St) = stK x (l ++ [s]) := by
 unfold stK
 simp only [liveRefs_step, hl, Bool.false_eq_true, if_false, List.append_nil]
section
variable {w w' : World} {m0 m1 m2 m3 m4 m5 m6 m7 : Nat} {st : St}
theorem Maps8.setPl (h : Maps8 w m0 m1 m2 m3 m4 m5 m6 m7 st) (hk : Kp (· = m0) w w') {f : List UInt8 → Option Nat} (hf : MF Try.prog 9 usC w' m0 (fun id => (f id).map fun i => .int .i64 (i : Int))) : Maps8 w' m0 m1 m2 m3 m4 m5 m6 m7 { st with pl := f } := by
 have ha := h.apart
 exact ⟨hf, h.need.kp hk (fun e => by subst e; simp at ha), h.cond.kp hk (fun e => by subst e; simp at ha), h.drop.kp hk (fun e => by subst e; simp at ha), h.carr.kp hk (fun e => by subst e; simp at ha), h.held.kp hk (fun e => by subst e; simp at ha), h.nam.kp hk (fun e => by subst e; simp at ha), h.ref.kp hk (fun e => by subst e; simp at ha), h.apart⟩
theorem Maps8.setHeld (h : Maps8 w m0 m1 m2 m3 m4 m5 m6 m7 st) (hk : Kp (· = m5) w w') {g : Pc → Bool} (hg : MG Try.prog 39 pcV (.bool false) w' m5 (fun x => .bool (g x))) : Maps8 w' m0 m1 m2 m3 m4 m5 m6 m7 { st with held := g } := by
 have ha := h.apart
 exact ⟨h.pl.kp hk (fun e => by subst e; simp at ha), h.need.kp hk (fun e => by subst e; simp at ha), h.cond.kp hk (fun e => by subst e; simp at ha), h.drop.kp hk (fun e => by subst e; simp at ha), h.carr.kp hk (fun e => by subst e; simp at ha), hg, h.nam.kp hk (fun e => by subst e; simp at ha), h.ref.kp hk (fun e => by subst e; simp at ha), h.apart⟩
end
/-- What read returns. -/
def ReadR (x : Si) (a0 : Option Addr) (n0 c0 : Nat) (a1 : Option Addr) (n1 c1 : Nat) (a2 : Option Addr) (n2 c2 : Nat) (a3 : Option Addr) (n3 c3 : Nat) (a4 : Option Addr) (n4 c4 : Nat) (a5 : Option Addr) (n5 c5 : Nat) (w : World) (e : Ending) (w' : World) : Prop :=
 if siB x then ∃ b m0 m1 m2 m3 m4 m5 m6 m7, e = .returned (.tuple #[.pointer (some ⟨b, 0, none⟩), .int .i64 0]) ∧ StM w' b m0 m1 m2 m3 m4 m5 m6 m7 a0 n0 c0 a1 n1 c1 a2 n2 c2 a3 n3 c3 a4 n4 c4 a5 n5 c5 x.pct (st0 x) ∧ Below w.heap.size w w' ∧ w.heap.size ≤ b ∧ ∀ i ∈ [m0, m1, m2, m3, m4, m5, m6, m7], w.heap.size ≤ i
 else e = .returned (.tuple #[.pointer none, .int .i64 1]) ∧ Below w.heap.size w w'

theorem MF.no_cells {κ : Type} {P : Program} {k t : TypeId} {enc : κ → Value} {w : World} {b : Nat} {f : κ → Option Value} {l : List Value} (h : MF P k enc w b f) (h' : BL w b t l) : False := by
 obtain ⟨es, ck, e⟩ := h.isMap
 have := e.symm.trans h'
 cases this
theorem MG.no_cells {κ : Type} {P : Program} {k t : TypeId} {enc : κ → Value} {z : Value} {w : World} {b : Nat} {g : κ → Value} {l : List Value} (h : MG P k enc z w b g) (h' : BL w b t l) : False := by
 obtain ⟨es, ck, e⟩ := h.isMap
 have := e.symm.trans h'
 cases this

set_option maxRecDepth 100000 in
set_option maxHeartbeats 4000000 in
theorem read_any (a0 : Option Addr) (n0 c0 : Nat) (a1 : Option Addr) (n1 c1 : Nat) (a2 : Option Addr) (n2 c2 : Nat) (a3 : Option Addr) (n3 c3 : Nat) (a4 : Option Addr) (n4 c4 : Nat) (a5 : Option Addr) (n5 c5 : Nat) (x : Si) (w : World) (hq : SiOk w a0 n0 c0 a1 n1 c1 a2 n2 c2 a3 n3 c3 a4 n4 c4 a5 n5 c5 x) (hbig : x.sp.length ≤ 1000) :
  Calls Try.prog 38 #[.agg (siC a0 n0 c0 a1 n1 c1 a2 n2 c2 a3 n3 c3 a4 n4 c4 a5 n5 c5 x.pct).toArray] w (ReadR x a0 n0 c0 a1 n1 c1 a2 n2 c2 a3 n3 c3 a4 n4 c4 a5 n5 c5 w) := by
 have hn := hq.sp.len_le
 have hn5 := hq.held.len_le
 have H := Lib.hid hq
 have HL := Lib.hid hq.sp.1
 have HL5 := Lib.hid hq.held.1
 have HBG := Lib.hid hbig
 clear hq hbig
 cases hv : siB x with
 | false =>
  have HR : Hid (siB x = false) := Lib.hid hv
  go_enter Try.func38, Try.ntmps38
  go_wp2_with (first
   | ((with_reducible show OpW 1); refine wpList_box _ rfl 33 (.tmp 0) rfl (siC a0 n0 c0 a1 n1 c1 a2 n2 c2 a3 n3 c3 a4 n4 c4 a5 n5 c5 x.pct) rfl ?_; intro w1 a1 a2 a3; have HB1 := Lib.hid a2; have HS1 := Lib.hid a1; clear a1 a2 a3)
   | ((with_reducible show OpW 8); refine wpList_loadv _ rfl 33 (.tmp 1) rfl 7 (by kernel_rfl) w.heap.size 0 _ rfl (BL.all HS1.out) rfl ?_)
   | (go_at_call 23; refine (ccheck_any _ x _ ⟨a0, n0, c0, a1, n1, c1, a2, n2, c2, a3, n3, c3, a4, n4, c4, a5, n5, c5, rfl, H.out.kept HB1.out⟩).mono ?_; rintro e w3 ⟨rfl, b3⟩; rw [hv]; have HB3 := Lib.hid (below_then HB1.out b3); clear b3))
  go_ret2
  unfold ReadR
  rw [HR.out]
  exact ⟨rfl, HB3.out⟩
 | true =>
  have HR : Hid (siB x = true) := Lib.hid hv
  go_enter Try.func38, Try.ntmps38
  go_wp2_with (first
   | ((with_reducible show OpW 1); refine wpList_box _ rfl 33 (.tmp 0) rfl (siC a0 n0 c0 a1 n1 c1 a2 n2 c2 a3 n3 c3 a4 n4 c4 a5 n5 c5 x.pct) rfl ?_; intro w1 a1 a2 a3; have HB1 := Lib.hid a2; have HS1 := Lib.hid a1; clear a1 a2 a3)
   | ((with_reducible show OpW 8); refine wpList_loadv _ rfl 33 (.tmp 1) rfl 7 (by kernel_rfl) w.heap.size 0 _ rfl (BL.all HS1.out) rfl ?_)
   | (go_at_call 23; refine (ccheck_any _ x _ ⟨a0, n0, c0, a1, n1, c1, a2, n2, c2, a3, n3, c3, a4, n4, c4, a5, n5, c5, rfl, H.out.kept HB1.out⟩).mono ?_; rintro e w3 ⟨rfl, b3⟩; rw [hv]; have HB3 := Lib.hid (below_then HB1.out b3); have HS3 := Lib.hid (HS1.out.kept b3); clear b3))
  refine Text.wp_region_bag (fun _ => True) [0, 1, 2, 3, 4, 5, 6, 7, 8, 9, 10, 11, 12, 13, 14, 15, 16] [(17, 4), (18, 2), (19, 4)] (Text.spec [fun _ v => v = .agg (siC a0 n0 c0 a1 n1 c1 a2 n2 c2 a3 n3 c3 a4 n4 c4 a5 n5 c5 x.pct).toArray, sMF 9 usC w3.heap.size (fun _ => none), fun _ v => v = .pointer (some ⟨w.heap.size, 1, none⟩), fun _ v => v = .slice a1 n1 c1, sMG 9 usC (.bool false) w3.heap.size (fun y => .bool (hasB x.need y)), fun _ v => v = .pointer (some ⟨w.heap.size, 2, none⟩), fun _ v => v = .slice a2 n2 c2, sMG 9 usC (.bool false) w3.heap.size (fun y => .bool (hasB x.cond y)), fun _ v => v = .pointer (some ⟨w.heap.size, 3, none⟩), fun _ v => v = .slice a3 n3 c3, sMG 9 usC (.bool false) w3.heap.size (fun y => .bool (hasB x.drop y)), fun _ v => v = .pointer (some ⟨w.heap.size, 4, none⟩), fun _ v => v = .slice a4 n4 c4, sMG 9 usC (.bool false) w3.heap.size (fun y => .bool (hasB x.carr y)), sMG 39 pcV (.bool false) w3.heap.size (fun _ => .bool false), sMG 9 usC (.int .i64 0) w3.heap.size (fun _ => .int .i64 0), sMG 73 rfV (.int .i64 0) w3.heap.size (fun _ => .int .i64 0)]) Text.mapOf (by kernel_rfl) (by kernel_rfl) rfl (by rfl) (fun _ _ _ _ _ h => h) (Text.spec_stay ?_) ?_ ?_
  ·
   intro R hR
   simp only [List.mem_cons, List.not_mem_nil, or_false] at hR
   rcases hR with rfl | rfl | rfl | rfl | rfl | rfl | rfl | rfl | rfl | rfl | rfl | rfl | rfl | rfl | rfl | rfl | rfl <;> first | exact Text.stayS_const _ | exact stay_sMF _ _ _ _ | exact stay_sMG _ _ _ _ _
  ·
   intro i hi
   simp only [List.mem_cons, List.not_mem_nil, or_false] at hi
   rcases hi with rfl | rfl | rfl | rfl | rfl | rfl | rfl | rfl | rfl | rfl | rfl | rfl | rfl | rfl | rfl | rfl | rfl
   ·
    intro o ho vs a' w' hb hold hp K hK
    cases ho
    exact Text.bag_run (exec_loadv 33 (.tmp 1) rfl 7 (by kernel_rfl) w.heap.size 0 (siC a0 n0 c0 a1 n1 c1 a2 n2 c2 a3 n3 c3 a4 n4 c4 a5 n5 c5 x.pct) (hold 1 rfl) (BL.all (HS3.out.kept (below_then (Below.refl _ _).drew hb))) rfl) (hK _ _ (Below.refl _ _) rfl (fun b h => by cases h))
   ·
    intro o ho vs a' w' hb hold hp K hK
    cases ho
    exact Text.bag_run (exec_mk rfl) (hK _ _ ((Below.refl _ _).alloc (Nat.le_refl _) _) ⟨_, rfl, hb.size, MF.new (MB.new _ _ _)⟩ (fun b h => by cases h; exact ⟨Nat.le_refl _, by simp⟩))
   ·
    intro o ho vs a' w' hb hold hp K hK
    cases ho
    exact Text.bag_run (exec_fa rfl (by decide) (hold 1 rfl)) (hK _ _ (Below.refl _ _) rfl (fun b h => by cases h))
   ·
    intro o ho vs a' w' hb hold hp K hK
    cases ho
    exact Text.bag_run (exec_loadS rfl (((hp 2 rfl).1 15 rfl).trans (show vs 2 = _ from (hp 2 rfl).2)) ((HS3.out.kept (below_then (Below.refl _ _).drew hb)).get (j := 1) rfl)) (hK _ _ (Below.refl _ _) rfl (fun b h => by cases h))
   ·
    intro o ho vs a' w' hb hold hp K hK
    cases ho
    refine Text.bag_call (exec_callS rfl (v := .slice a1 n1 c1) (((hp 3 rfl).1 16 rfl).trans (show vs 3 = _ from (hp 3 rfl).2))) (R := fun v w'' => ∃ b, v = .map (some b) ∧ w'.heap.size ≤ b ∧ MG Try.prog 9 usC (.bool false) w'' b (fun y => .bool (hasB x.need y)) ∧ Below w'.heap.size w' w'') ((setOf_any a1 n1 c1 x.need w' (H.out.need.kept stay_str (below_thenB HB3.out.drew HB3.out.size hb))).mono ?_) ?_
    ·
     rintro e w'' ⟨b, rfl, h1, h2, h3⟩
     exact ⟨_, rfl, b, rfl, h1, h2, h3⟩
    ·
     rintro v w'' ⟨b, rfl, h1, h2, h3⟩
     exact hK _ _ h3 ⟨b, rfl, Nat.le_trans hb.size h1, h2⟩ (fun c hc => by cases hc; exact ⟨h1, h2.lt⟩)
   ·
    intro o ho vs a' w' hb hold hp K hK
    cases ho
    exact Text.bag_run (exec_fa rfl (by decide) (hold 1 rfl)) (hK _ _ (Below.refl _ _) rfl (fun b h => by cases h))
   ·
    intro o ho vs a' w' hb hold hp K hK
    cases ho
    exact Text.bag_run (exec_loadS rfl (((hp 5 rfl).1 18 rfl).trans (show vs 5 = _ from (hp 5 rfl).2)) ((HS3.out.kept (below_then (Below.refl _ _).drew hb)).get (j := 2) rfl)) (hK _ _ (Below.refl _ _) rfl (fun b h => by cases h))
   ·
    intro o ho vs a' w' hb hold hp K hK
    cases ho
    refine Text.bag_call (exec_callS rfl (v := .slice a2 n2 c2) (((hp 6 rfl).1 19 rfl).trans (show vs 6 = _ from (hp 6 rfl).2))) (R := fun v w'' => ∃ b, v = .map (some b) ∧ w'.heap.size ≤ b ∧ MG Try.prog 9 usC (.bool false) w'' b (fun y => .bool (hasB x.cond y)) ∧ Below w'.heap.size w' w'') ((setOf_any a2 n2 c2 x.cond w' (H.out.cond.kept stay_str (below_thenB HB3.out.drew HB3.out.size hb))).mono ?_) ?_
    ·
     rintro e w'' ⟨b, rfl, h1, h2, h3⟩
     exact ⟨_, rfl, b, rfl, h1, h2, h3⟩
    ·
     rintro v w'' ⟨b, rfl, h1, h2, h3⟩
     exact hK _ _ h3 ⟨b, rfl, Nat.le_trans hb.size h1, h2⟩ (fun c hc => by cases hc; exact ⟨h1, h2.lt⟩)
   ·
    intro o ho vs a' w' hb hold hp K hK
    cases ho
    exact Text.bag_run (exec_fa rfl (by decide) (hold 1 rfl)) (hK _ _ (Below.refl _ _) rfl (fun b h => by cases h))
   ·
    intro o ho vs a' w' hb hold hp K hK
    cases ho
    exact Text.bag_run (exec_loadS rfl (((hp 8 rfl).1 21 rfl).trans (show vs 8 = _ from (hp 8 rfl).2)) ((HS3.out.kept (below_then (Below.refl _ _).drew hb)).get (j := 3) rfl)) (hK _ _ (Below.refl _ _) rfl (fun b h => by cases h))
   ·
    intro o ho vs a' w' hb hold hp K hK
    cases ho
    refine Text.bag_call (exec_callS rfl (v := .slice a3 n3 c3) (((hp 9 rfl).1 22 rfl).trans (show vs 9 = _ from (hp 9 rfl).2))) (R := fun v w'' => ∃ b, v = .map (some b) ∧ w'.heap.size ≤ b ∧ MG Try.prog 9 usC (.bool false) w'' b (fun y => .bool (hasB x.drop y)) ∧ Below w'.heap.size w' w'') ((setOf_any a3 n3 c3 x.drop w' (H.out.drop.kept stay_str (below_thenB HB3.out.drew HB3.out.size hb))).mono ?_) ?_
    ·
     rintro e w'' ⟨b, rfl, h1, h2, h3⟩
     exact ⟨_, rfl, b, rfl, h1, h2, h3⟩
    ·
     rintro v w'' ⟨b, rfl, h1, h2, h3⟩
     exact hK _ _ h3 ⟨b, rfl, Nat.le_trans hb.size h1, h2⟩ (fun c hc => by cases hc; exact ⟨h1, h2.lt⟩)
   ·
    intro o ho vs a' w' hb hold hp K hK
    cases ho
    exact Text.bag_run (exec_fa rfl (by decide) (hold 1 rfl)) (hK _ _ (Below.refl _ _) rfl (fun b h => by cases h))
   ·
    intro o ho vs a' w' hb hold hp K hK
    cases ho
    exact Text.bag_run (exec_loadS rfl (((hp 11 rfl).1 24 rfl).trans (show vs 11 = _ from (hp 11 rfl).2)) ((HS3.out.kept (below_then (Below.refl _ _).drew hb)).get (j := 4) rfl)) (hK _ _ (Below.refl _ _) rfl (fun b h => by cases h))
   ·
    intro o ho vs a' w' hb hold hp K hK
    cases ho
    refine Text.bag_call (exec_callS rfl (v := .slice a4 n4 c4) (((hp 12 rfl).1 25 rfl).trans (show vs 12 = _ from (hp 12 rfl).2))) (R := fun v w'' => ∃ b, v = .map (some b) ∧ w'.heap.size ≤ b ∧ MG Try.prog 9 usC (.bool false) w'' b (fun y => .bool (hasB x.carr y)) ∧ Below w'.heap.size w' w'') ((setOf_any a4 n4 c4 x.carr w' (H.out.carr.kept stay_str (below_thenB HB3.out.drew HB3.out.size hb))).mono ?_) ?_
    ·
     rintro e w'' ⟨b, rfl, h1, h2, h3⟩
     exact ⟨_, rfl, b, rfl, h1, h2, h3⟩
    ·
     rintro v w'' ⟨b, rfl, h1, h2, h3⟩
     exact hK _ _ h3 ⟨b, rfl, Nat.le_trans hb.size h1, h2⟩ (fun c hc => by cases hc; exact ⟨h1, h2.lt⟩)
   ·
    intro o ho vs a' w' hb hold hp K hK
    cases ho
    exact Text.bag_run (exec_mk rfl) (hK _ _ ((Below.refl _ _).alloc (Nat.le_refl _) _) ⟨_, rfl, hb.size, MG.new (MF.new (MB.new _ _ _))⟩ (fun b h => by cases h; exact ⟨Nat.le_refl _, by simp⟩))
   ·
    intro o ho vs a' w' hb hold hp K hK
    cases ho
    exact Text.bag_run (exec_mk rfl) (hK _ _ ((Below.refl _ _).alloc (Nat.le_refl _) _) ⟨_, rfl, hb.size, MG.new (MF.new (MB.new _ _ _))⟩ (fun b h => by cases h; exact ⟨Nat.le_refl _, by simp⟩))
   ·
    intro o ho vs a' w' hb hold hp K hK
    cases ho
    exact Text.bag_run (exec_mk rfl) (hK _ _ ((Below.refl _ _).alloc (Nat.le_refl _) _) ⟨_, rfl, hb.size, MG.new (MF.new (MB.new _ _ _))⟩ (fun b h => by cases h; exact ⟨Nat.le_refl _, by simp⟩))
  ·
   intro vs w4 hb hr hd
   refine ⟨fun _ => trivial, ?_⟩
   have e0 : vs 0 = .agg (siC a0 n0 c0 a1 n1 c1 a2 n2 c2 a3 n3 c3 a4 n4 c4 a5 n5 c5 x.pct).toArray := hr 0 (by decide)
   have e2 : vs 2 = .pointer (some ⟨w.heap.size, 1, none⟩) := hr 2 (by decide)
   have e3 : vs 3 = .slice a1 n1 c1 := hr 3 (by decide)
   have e5 : vs 5 = .pointer (some ⟨w.heap.size, 2, none⟩) := hr 5 (by decide)
   have e6 : vs 6 = .slice a2 n2 c2 := hr 6 (by decide)
   have e8 : vs 8 = .pointer (some ⟨w.heap.size, 3, none⟩) := hr 8 (by decide)
   have e9 : vs 9 = .slice a3 n3 c3 := hr 9 (by decide)
   have e11 : vs 11 = .pointer (some ⟨w.heap.size, 4, none⟩) := hr 11 (by decide)
   have e12 : vs 12 = .slice a4 n4 c4 := hr 12 (by decide)
   obtain ⟨m0, e1, l1, g1⟩ := (show Text.spec _ 1 w4 (vs 1) from hr 1 (by decide))
   obtain ⟨m1, e4, l4, g4⟩ := (show Text.spec _ 4 w4 (vs 4) from hr 4 (by decide))
   obtain ⟨m2, e7, l7, g7⟩ := (show Text.spec _ 7 w4 (vs 7) from hr 7 (by decide))
   obtain ⟨m3, e10, l10, g10⟩ := (show Text.spec _ 10 w4 (vs 10) from hr 10 (by decide))
   obtain ⟨m4, e13, l13, g13⟩ := (show Text.spec _ 13 w4 (vs 13) from hr 13 (by decide))
   obtain ⟨m5, e14, l14, g14⟩ := (show Text.spec _ 14 w4 (vs 14) from hr 14 (by decide))
   obtain ⟨m6, e15, l15, g15⟩ := (show Text.spec _ 15 w4 (vs 15) from hr 15 (by decide))
   obtain ⟨m7, e16, l16, g16⟩ := (show Text.spec _ 16 w4 (vs 16) from hr 16 (by decide))
   have key : ∀ (i j : Nat) (bi bj : Nat), (i ∈ [0, 1, 2, 3, 4, 5, 6, 7, 8, 9, 10, 11, 12, 13, 14, 15, 16] ∧ j ∈ [0, 1, 2, 3, 4, 5, 6, 7, 8, 9, 10, 11, 12, 13, 14, 15, 16] ∧ i ≠ j) → vs i = .map (some bi) → vs j = .map (some bj) → bi ≠ bj := fun i j bi bj h hi hj e => hd i h.1 j h.2.1 h.2.2 bi (by rw [hi]; rfl) (by rw [hj, e]; rfl)
   have HND : Hid ([m0, m1, m2, m3, m4, m5, m6, m7].Nodup) := Lib.hid (by
    simp only [List.nodup_cons, List.mem_cons, List.not_mem_nil, or_false, not_or, List.nodup_nil, and_true, not_false_eq_true]
    exact ⟨⟨key 1 4 m0 m1 (by decide) e1 e4, key 1 7 m0 m2 (by decide) e1 e7, key 1 10 m0 m3 (by decide) e1 e10, key 1 13 m0 m4 (by decide) e1 e13, key 1 14 m0 m5 (by decide) e1 e14, key 1 15 m0 m6 (by decide) e1 e15, key 1 16 m0 m7 (by decide) e1 e16⟩, ⟨key 4 7 m1 m2 (by decide) e4 e7, key 4 10 m1 m3 (by decide) e4 e10, key 4 13 m1 m4 (by decide) e4 e13, key 4 14 m1 m5 (by decide) e4 e14, key 4 15 m1 m6 (by decide) e4 e15, key 4 16 m1 m7 (by decide) e4 e16⟩, ⟨key 7 10 m2 m3 (by decide) e7 e10, key 7 13 m2 m4 (by decide) e7 e13, key 7 14 m2 m5 (by decide) e7 e14, key 7 15 m2 m6 (by decide) e7 e15, key 7 16 m2 m7 (by decide) e7 e16⟩, ⟨key 10 13 m3 m4 (by decide) e10 e13, key 10 14 m3 m5 (by decide) e10 e14, key 10 15 m3 m6 (by decide) e10 e15, key 10 16 m3 m7 (by decide) e10 e16⟩, ⟨key 13 14 m4 m5 (by decide) e13 e14, key 13 15 m4 m6 (by decide) e13 e15, key 13 16 m4 m7 (by decide) e13 e16⟩, ⟨key 14 15 m5 m6 (by decide) e14 e15, key 14 16 m5 m7 (by decide) e14 e16⟩, key 15 16 m6 m7 (by decide) e15 e16⟩)
   have HG : Hid (∀ i ∈ [m0, m1, m2, m3, m4, m5, m6, m7], w3.heap.size ≤ i) := Lib.hid (fun i hi => by
    simp only [List.mem_cons, List.not_mem_nil, or_false] at hi
    rcases hi with rfl | rfl | rfl | rfl | rfl | rfl | rfl | rfl <;> assumption)
   have HMP : Hid (Maps8 w4 m0 m1 m2 m3 m4 m5 m6 m7 (stK x [])) := Lib.hid ⟨g1, g4, g7, g10, g13, g14, g15, g16, HND.out⟩
   have HB4 := Lib.hid (below_thenB HB3.out HB3.out.size hb)
   have HS4 := Lib.hid (HS3.out.kept hb)
   clear key hd hr hb g1 g4 g7 g10 g13 g14 g15 g16 l1 l4 l7 l10 l13 l14 l15 l16
   simp only [Text.putAll, Text.dstOf, e0, e1, e2, e3, e4, e5, e6, e7, e8, e9, e10, e11, e12, e13, e14, e15, e16]
   clear e0 e1 e2 e3 e4 e5 e6 e7 e8 e9 e10 e11 e12 e13 e14 e15 e16
   go_simp
   refine Text.purek rfl rfl (fun K hK => ⟨_, fun w' => exec_build (ps := #[(0, .agg (siC a0 n0 c0 a1 n1 c1 a2 n2 c2 a3 n3 c3 a4 n4 c4 a5 n5 c5 x.pct).toArray), (1, .map (some m0)), (2, .map (some m1)), (3, .map (some m2)), (4, .map (some m3)), (5, .map (some m4)), (6, .map (some m5)), (7, .map (some m6)), (8, .map (some m7))]) rfl (by rw [List.map_toArray]; rfl) (bldSit a0 n0 c0 a1 n1 c1 a2 n2 c2 a3 n3 c3 a4 n4 c4 a5 n5 c5 x.pct m0 m1 m2 m3 m4 m5 m6 m7 w'), ?_⟩)
   go_simp
   refine hK _ ?_
   clear hK K
   refine Text.eff rfl rfl (fun K hK => ?_)
   refine wp_box 82 (.tmp 30) rfl (sitC a0 n0 c0 a1 n1 c1 a2 n2 c2 a3 n3 c3 a4 n4 c4 a5 n5 c5 x.pct m0 m1 m2 m3 m4 m5 m6 m7) rfl ?_
   intro w5 a1' a2' a3'
   have HT5 := Lib.hid a1'
   have HB5 := Lib.hid (below_thenB HB4.out HB4.out.size a2')
   have HM5 := Lib.hid (HMP.out.kept a2')
   have HS5 := Lib.hid (HS4.out.kept a2')
   have q0 := HS5.out.get (j := 0) rfl
   have HGB : Hid (w3.heap.size ≤ w4.heap.size) := Lib.hid (by have := HMP.out.pl.lt; have := HG.out m0 (by simp); omega)
   have HGW : Hid (w.heap.size < w3.heap.size) := Lib.hid HS3.out.lt
   clear a1' a2' a3'
   go_simp
   refine hK _ _ trivial ?_
   clear hK K
   refine Text.purek rfl rfl (fun K hK => ⟨_, fun w' => by go_simp <;> rfl, ?_⟩)
   go_simp
   refine hK _ ?_
   clear hK K
   refine Text.done ?_
   obtain ⟨gb, hgb⟩ : ∃ gb, gb = w4.heap.size := ⟨_, rfl⟩
   rw [← hgb] at HT5 HGB ⊢
   clear hgb
   have HGB2 : Hid (w.heap.size < gb) := Lib.hid (by have := HGB.out; have := HGW.out; omega)
   have HG2 : Hid (∀ i ∈ [m0, m1, m2, m3, m4, m5, m6, m7], w.heap.size < i) := Lib.hid (fun i hi => by have := HG.out i hi; have := HGW.out; omega)
   clear HG HGB HGW
   go_wp2_with fail
   clear q0
   go_loopw [35] (fun iv wr => ∃ k : Nat, k ≤ n0 ∧ iv = .int .i64 (k : Int) ∧ Hid (StM wr gb m0 m1 m2 m3 m4 m5 m6 m7 a0 n0 c0 a1 n1 c1 a2 n2 c2 a3 n3 c3 a4 n4 c4 a5 n5 c5 x.pct (stK x (x.sp.take k))) ∧ Hid (BL wr w.heap.size 33 (siC a0 n0 c0 a1 n1 c1 a2 n2 c2 a3 n3 c3 a4 n4 c4 a5 n5 c5 x.pct)) ∧ Hid (Below w.heap.size w wr)) (fun iv _ => n0 - (intOf iv).toNat)
   case atStart => exact ⟨0, by omega, rfl, Lib.hid ⟨HT5.out, HM5.out⟩, HS5, HB5⟩
   case round =>
    obtain ⟨k, hk, rfl, hst, hsx, hb⟩ := hrel
    obtain ⟨wx, hwx⟩ : ∃ x, x = wr := ⟨_, rfl⟩
    rw [← hwx] at hst hsx hb ⊢
    clear hwx
    by_cases hlt : k < n0
    ·
     obtain ⟨s, g, o, cs, hs, rfl, hat, hsp⟩ := H.out.sp.at_ stay_sp (Below.refl _ _) hlt
     have HSP := Lib.hid hsp
     obtain ⟨A, m, c, rfl, hlr, hid, _⟩ := hsp
     have HLR := Lib.hid hlr
     have HID := Lib.hid hid
     have HSB := Lib.hid (okB_at (siB_sp HR.out) hs)
     have HFR : Hid (((x.sp.take k).any fun z => z.id == s.id) = false) := Lib.hid (okB_fresh (siB_sp HR.out) hs)
     have HTK : Hid (x.sp.take (k + 1) = x.sp.take k ++ [s]) := Lib.hid (take_next hs)
     have HTL : Hid ((x.sp.take k).length = k) := Lib.hid (by rw [List.length_take, HL.out]; omega)
     have HSM : Hid (Small (stK x (x.sp.take k))) := Lib.hid (stK_small HR.out (fun s hs => List.mem_of_mem_take hs) (by have := HTL.out; have := HBG.out; have := HL.out; omega))
     have HA := Lib.hid (hat.kept hb.out)
     have HKS := Lib.hid (keyS s.id (reach_key hid))
     clear hs hat hlr hid
     cases h1 : liveB x s.id with
     | true =>
      have HLB := Lib.hid h1
      have HLV : Hid (liveT { stK x (x.sp.take k) with pl := plF (x.sp.take k ++ [s]) } s.id = true) := Lib.hid (by rw [stK_live HFR.out]; exact h1)
      clear h1
      go_wp2_with (first
       | ((with_reducible show OpW 39); refine wpList_loadv _ rfl 61 (.tmp 38) rfl 6 (by kernel_rfl) g (o + k * 6) (spC s A m c) (by go_simp) HA.out rfl ?_)
       | ((with_reducible show OpW 5); refine wpList_alloc _ rfl 61 rfl spZ spZero ?_; intro w3 a1 a2 a3; have HV3 := Lib.hid a1; have HX3 := Lib.hid a2; clear a1 a2 a3)
       | ((with_reducible show OpN); refine wpList_storev _ rfl 61 (.tmp 5) (.tmp 39) rfl 6 (by kernel_rfl) wx.heap.size 0 _ spZ (spC s A m c) rfl rfl HV3.out rfl (one_sp s A m c) (by decide) ?_; intro w4 a1 a2 a3; have HV4 : Hid (BL w4 wx.heap.size 61 (spC s A m c)) := Lib.hid a1; have HX4 : Hid (Below wx.heap.size wx w4) := Lib.hid (((Kp.of_below (S := fun _ => False) HX3.out).after a2 (fun i hi e => by omega)).below (Nat.le_refl _) (fun _ h => h.elim)); clear a1 a2 a3; have r0 := HV4.out.get (j := 0) rfl; have q7 := (hst.out.blk.kept HX4.out).get (j := 7) rfl)
       | fail)
      have HM4 := Lib.hid (hst.out.maps.kept HX4.out.drew)
      refine Text.wp_region_text (fun _ => True) [(0, 4), (1, 4), (2, 4), (4, 4), (6, 4), (3, 1), (5, 1), (7, 2)] (by kernel_rfl) (by kernel_rfl) (fun _ _ _ _ _ h => h) (trivial) ?_
      iterate 5 (refine Text.purek rfl rfl (fun K hK => ⟨_, fun w' => by go_simp <;> rfl, ?_⟩); go_simp; refine hK _ ?_; clear hK K)
      iterate 2 (refine Text.readk rfl rfl (fun K hK => ⟨_, by go_simp <;> rfl, ?_⟩); go_simp; refine hK _ ?_; clear hK K)
      refine Text.eff rfl rfl (fun K hK => ?_)
      refine wp_updF (fun x y h => usC_inj h) (.tmp 43) (.tmp 45) (.tmp 46) 77 9 3 rfl strKeyed mapSI m0 _ rfl HM4.out.pl s.id (.int .i64 (k : Int)) rfl rfl HKS.out ?_
      intro w5 b1 b2 b3
      have HM5 : Hid (Maps8 w5 m0 m1 m2 m3 m4 m5 m6 m7 { stK x (x.sp.take k) with pl := plF (x.sp.take k ++ [s]) }) := Lib.hid (HM4.out.setPl b2 (b1.to (fun y => by
       rw [plF_step HFR.out]
       by_cases h : y = s.id
       ·
        rw [if_pos h, if_pos h, HTL.out]; rfl
       ·
        rw [if_neg h, if_neg h]; rfl)))
      have HK5 : Hid (Kp (· = m0) w4 w5) := Lib.hid ((Kp.of_below (Below.refl _ _).drew).trans b2)
      clear b1 b2 b3
      go_simp
      refine hK _ _ trivial ?_
      clear hK K
      refine Text.done ?_
      have HL4 := Lib.hid (hst.out.maps.pl.lt)
      have HST5 : Hid (StM w5 gb m0 m1 m2 m3 m4 m5 m6 m7 _ _ _ _ _ _ _ _ _ _ _ _ _ _ _ _ _ _ x.pct { stK x (x.sp.take k) with pl := plF (x.sp.take k ++ [s]) }) := Lib.hid ⟨HK5.out.bl (hst.out.blk.kept HX4.out) (by
       intro e
       subst e
       exact HM4.out.pl.no_cells (hst.out.blk.kept HX4.out.drew)), HM5.out⟩
      have HV5 := Lib.hid (HK5.out.bl HV4.out (by have := HL4.out; omega))
      have HSX5 := Lib.hid (HK5.out.bl (hsx.out.kept HX4.out) (by have := HG2.out m0 (by simp); omega))
      have HB5 : Hid (Below w.heap.size w w5) := Lib.hid (((Kp.of_below (S := fun _ => False) (below_thenB hb.out hb.out.size HX4.out)).after HK5.out (fun i hi e => by have h6 := HG2.out m0 (by simp); omega)).below (Nat.le_refl _) (fun _ h => h.elim))
      have HSM5 : Hid (Small { stK x (x.sp.take k) with pl := plF (x.sp.take k ++ [s]) }) := Lib.hid ⟨HSM.out.1, HSM.out.2⟩
      have HRL : Hid (m ≤ 1000000) := Lib.hid (by have h1 := (spB_refs HSB.out).1; have h2 := HLR.out.1; omega)
      have p0 := HV5.out.get (j := 0) rfl
      go_wp2_with (first
       | (go_at_call 78; refine (live_st _ _ _ _ _ _ _ _ _ _ _ _ _ _ _ _ _ _ _ _ _ _ _ _ _ _ _ _ _ _ HST5.out s.id HID.out).mono ?_; rintro e w6 ⟨rfl, hw⟩; rw [hw, HLV.out]; clear hw w6)
       | ((with_reducible show OpW 52); refine wpList_loadv _ rfl 61 (.tmp 5) rfl 6 (by kernel_rfl) wx.heap.size 0 (spC s A m c) rfl (BL.all HV5.out) rfl ?_)
       | (go_at_call 79; refine (count_any _ _ _ _ _ _ _ _ _ _ _ _ _ _ _ _ _ _ _ _ _ _ _ _ _ _ _ _ _ _ HST5.out HSM5.out s A m c (HLR.out.kept stay_rf HB5.out) HRL.out 1 (by omega) (by omega)).mono ?_; rintro e w7 ⟨rfl, h7, k7⟩; have HST7 := Lib.hid h7; have HK7 := Lib.hid k7; clear h7 k7))
      have HB7 : Hid (Below w.heap.size w w7) := Lib.hid (((Kp.of_below (S := fun _ => False) HB5.out).after HK7.out (fun i hi e => by have h6 := HG2.out m6 (by simp); have h7 := HG2.out m7 (by simp); omega)).below (Nat.le_refl _) (fun _ h => h.elim))
      have HS7 := Lib.hid (HK7.out.bl HSX5.out (by have h6 := HG2.out m6 (by simp); have h7 := HG2.out m7 (by simp); omega))
      go_roundw
      case rel => exact ⟨k + 1, by omega, by go_num, Lib.hid (by have := HST7.out; rw [stK_step_live HLB.out, ← HTK.out] at this; exact this), HS7, HB7⟩
      case measure => simp [intOf]; omega
     | false =>
      have HLB := Lib.hid h1
      have HLV : Hid (liveT { stK x (x.sp.take k) with pl := plF (x.sp.take k ++ [s]) } s.id = false) := Lib.hid (by rw [stK_live HFR.out]; exact h1)
      clear h1
      go_wp2_with (first
       | ((with_reducible show OpW 39); refine wpList_loadv _ rfl 61 (.tmp 38) rfl 6 (by kernel_rfl) g (o + k * 6) (spC s A m c) (by go_simp) HA.out rfl ?_)
       | ((with_reducible show OpW 5); refine wpList_alloc _ rfl 61 rfl spZ spZero ?_; intro w3 a1 a2 a3; have HV3 := Lib.hid a1; have HX3 := Lib.hid a2; clear a1 a2 a3)
       | ((with_reducible show OpN); refine wpList_storev _ rfl 61 (.tmp 5) (.tmp 39) rfl 6 (by kernel_rfl) wx.heap.size 0 _ spZ (spC s A m c) rfl rfl HV3.out rfl (one_sp s A m c) (by decide) ?_; intro w4 a1 a2 a3; have HV4 : Hid (BL w4 wx.heap.size 61 (spC s A m c)) := Lib.hid a1; have HX4 : Hid (Below wx.heap.size wx w4) := Lib.hid (((Kp.of_below (S := fun _ => False) HX3.out).after a2 (fun i hi e => by omega)).below (Nat.le_refl _) (fun _ h => h.elim)); clear a1 a2 a3; have r0 := HV4.out.get (j := 0) rfl; have q7 := (hst.out.blk.kept HX4.out).get (j := 7) rfl)
       | fail)
      have HM4 := Lib.hid (hst.out.maps.kept HX4.out.drew)
      refine Text.wp_region_text (fun _ => True) [(0, 4), (1, 4), (2, 4), (4, 4), (6, 4), (3, 1), (5, 1), (7, 2)] (by kernel_rfl) (by kernel_rfl) (fun _ _ _ _ _ h => h) (trivial) ?_
      iterate 5 (refine Text.purek rfl rfl (fun K hK => ⟨_, fun w' => by go_simp <;> rfl, ?_⟩); go_simp; refine hK _ ?_; clear hK K)
      iterate 2 (refine Text.readk rfl rfl (fun K hK => ⟨_, by go_simp <;> rfl, ?_⟩); go_simp; refine hK _ ?_; clear hK K)
      refine Text.eff rfl rfl (fun K hK => ?_)
      refine wp_updF (fun x y h => usC_inj h) (.tmp 43) (.tmp 45) (.tmp 46) 77 9 3 rfl strKeyed mapSI m0 _ rfl HM4.out.pl s.id (.int .i64 (k : Int)) rfl rfl HKS.out ?_
      intro w5 b1 b2 b3
      have HM5 : Hid (Maps8 w5 m0 m1 m2 m3 m4 m5 m6 m7 { stK x (x.sp.take k) with pl := plF (x.sp.take k ++ [s]) }) := Lib.hid (HM4.out.setPl b2 (b1.to (fun y => by
       rw [plF_step HFR.out]
       by_cases h : y = s.id
       ·
        rw [if_pos h, if_pos h, HTL.out]; rfl
       ·
        rw [if_neg h, if_neg h]; rfl)))
      have HK5 : Hid (Kp (· = m0) w4 w5) := Lib.hid ((Kp.of_below (Below.refl _ _).drew).trans b2)
      clear b1 b2 b3
      go_simp
      refine hK _ _ trivial ?_
      clear hK K
      refine Text.done ?_
      have HL4 := Lib.hid (hst.out.maps.pl.lt)
      have HST5 : Hid (StM w5 gb m0 m1 m2 m3 m4 m5 m6 m7 _ _ _ _ _ _ _ _ _ _ _ _ _ _ _ _ _ _ x.pct { stK x (x.sp.take k) with pl := plF (x.sp.take k ++ [s]) }) := Lib.hid ⟨HK5.out.bl (hst.out.blk.kept HX4.out) (by
       intro e
       subst e
       exact HM4.out.pl.no_cells (hst.out.blk.kept HX4.out.drew)), HM5.out⟩
      have HV5 := Lib.hid (HK5.out.bl HV4.out (by have := HL4.out; omega))
      have HSX5 := Lib.hid (HK5.out.bl (hsx.out.kept HX4.out) (by have := HG2.out m0 (by simp); omega))
      have HB5 : Hid (Below w.heap.size w w5) := Lib.hid (((Kp.of_below (S := fun _ => False) (below_thenB hb.out hb.out.size HX4.out)).after HK5.out (fun i hi e => by have h6 := HG2.out m0 (by simp); omega)).below (Nat.le_refl _) (fun _ h => h.elim))
      have HSM5 : Hid (Small { stK x (x.sp.take k) with pl := plF (x.sp.take k ++ [s]) }) := Lib.hid ⟨HSM.out.1, HSM.out.2⟩
      have HRL : Hid (m ≤ 1000000) := Lib.hid (by have h1 := (spB_refs HSB.out).1; have h2 := HLR.out.1; omega)
      have p0 := HV5.out.get (j := 0) rfl
      go_wp2_with (first
       | (go_at_call 78; refine (live_st _ _ _ _ _ _ _ _ _ _ _ _ _ _ _ _ _ _ _ _ _ _ _ _ _ _ _ _ _ _ HST5.out s.id HID.out).mono ?_; rintro e w6 ⟨rfl, hw⟩; rw [hw, HLV.out]; clear hw w6))
      go_roundw
      case rel => exact ⟨k + 1, by omega, by go_num, Lib.hid (by have := HST5.out; rw [stK_step_dead HLB.out, ← HTK.out] at this; exact this), HSX5, HB5⟩
      case measure => simp [intOf]; omega
    ·
     obtain rfl : n0 = k := by omega
     have HST : Hid (StM wx gb m0 m1 m2 m3 m4 m5 m6 m7 a0 n0 c0 a1 n1 c1 a2 n2 c2 a3 n3 c3 a4 n4 c4 a5 n5 c5 x.pct { stK x x.sp with held := fun p => (x.held.take 0).any fun q => q == p }) := Lib.hid (by
      have := hst.out
      rw [take_end HL.out] at this
      exact this)
     have p5 := hsx.out.get (j := 5) rfl
     clear hst
     go_wp2_with fail
     clear p5
     go_loopw [58] (fun iv wr => ∃ j : Nat, j ≤ n5 ∧ iv = .int .i64 (j : Int) ∧ Hid (StM wr gb m0 m1 m2 m3 m4 m5 m6 m7 a0 n0 c0 a1 n1 c1 a2 n2 c2 a3 n3 c3 a4 n4 c4 a5 n5 c5 x.pct { stK x x.sp with held := fun p => (x.held.take j).any fun q => q == p }) ∧ Hid (Below w.heap.size w wr)) (fun iv _ => n5 - (intOf iv).toNat)
     case atStart => exact ⟨0, by omega, rfl, HST, hb⟩
     case round =>
      obtain ⟨j, hj, rfl, hst, hb'⟩ := hrel
      obtain ⟨wy, hwy⟩ : ∃ x, x = wr := ⟨_, rfl⟩
      rw [← hwy] at hst hb' ⊢
      clear hwy
      by_cases hlt' : j < n5
      ·
       obtain ⟨q, g, o, cs, hs, rfl, hat, rfl, hok⟩ := H.out.held.at_ stay_pc (Below.refl _ _) hlt'
       have HA := Lib.hid (hat.kept hb'.out)
       have HKP := Lib.hid (keyP q hok)
       have HX := Lib.hid hs
       clear hs hat hok
       go_wp2_with (first
        | ((with_reducible show OpW 61); refine wpList_loadv _ rfl 39 (.tmp 60) rfl 2 (by kernel_rfl) g (o + j * 2) (pcL q) (by go_simp) HA.out rfl ?_)
        | ((with_reducible show OpW 7); refine wpList_alloc _ rfl 39 rfl pcZ pcZero ?_; intro w3 a1 a2 a3; have HV3 := Lib.hid a1; have HX3 := Lib.hid a2; clear a1 a2 a3)
        | ((with_reducible show OpN); refine wpList_storev _ rfl 39 (.tmp 7) (.tmp 61) rfl 2 (by kernel_rfl) wy.heap.size 0 _ pcZ (pcL q) rfl rfl HV3.out rfl (one_pc q) (by decide) ?_; intro w4 a1 a2 a3; have HV4 : Hid (BL w4 wy.heap.size 39 (pcL q)) := Lib.hid a1; have HX4 : Hid (Below wy.heap.size wy w4) := Lib.hid (((Kp.of_below (S := fun _ => False) HX3.out).after a2 (fun i hi e => by omega)).below (Nat.le_refl _) (fun _ h => h.elim)); clear a1 a2 a3; have q12 := (hst.out.blk.kept HX4.out).get (j := 12) rfl)
        | fail)
       have HM4 := Lib.hid (hst.out.maps.kept HX4.out.drew)
       refine Text.wp_region_text (fun w' => BL w' wy.heap.size 39 (pcL q)) [(0, 4), (1, 4), (2, 4), (4, 0), (3, 1), (5, 3)] (by kernel_rfl) (by kernel_rfl) (fun _ _ _ _ _ h => h) (HV4.out.kept (Below.refl _ _).drew) ?_
       iterate 3 (refine Text.purek rfl rfl (fun K hK => ⟨_, fun w' => by go_simp <;> rfl, ?_⟩); go_simp; refine hK _ ?_; clear hK K)
       refine Text.heldk rfl rfl (fun K hK => ?_)
       refine ⟨_, fun w' hw' => exec_loadv 39 (.tmp 7) rfl 2 (by kernel_rfl) wy.heap.size 0 (pcL q) rfl (BL.all hw') rfl, ?_⟩
       go_simp
       refine hK _ ?_
       clear hK K
       (refine Text.readk rfl rfl (fun K hK => ⟨_, by go_simp <;> rfl, ?_⟩); go_simp; refine hK _ ?_; clear hK K)
       refine Text.last rfl rfl (fun K hK => ?_)
       refine wp_updG _ pcV_inj (.tmp 65) (.tmp 66) (.const (.bool true)) 79 39 4 rfl pidKeyed mapPB (.bool false) m5 _ rfl HM4.out.held q (.bool true) rfl rfl HKP.out ?_
       intro w5 b1 b2 b3
       have HM5 : Hid (Maps8 w5 m0 m1 m2 m3 m4 m5 m6 m7 { stK x x.sp with held := fun p => (x.held.take (j + 1)).any fun q => q == p }) := Lib.hid (HM4.out.setHeld b2 (b1.to (fun y => set_next (f := pcI) HX.out y)))
       have HK5 : Hid (Kp (· = m5) w4 w5) := Lib.hid ((Kp.of_below (Below.refl _ _).drew).trans b2)
       clear b1 b2 b3
       go_simp
       refine hK _ _ ?_
       clear hK K
       refine Text.done ?_
       have HST5 := Lib.hid (StM.mk (HK5.out.bl (hst.out.blk.kept HX4.out) (by
        intro e
        subst e
        exact HM4.out.held.no_cells (hst.out.blk.kept HX4.out.drew))) HM5.out)
       have HB5 : Hid (Below w.heap.size w w5) := Lib.hid (((Kp.of_below (S := fun _ => False) (below_thenB hb'.out hb'.out.size HX4.out)).after HK5.out (fun i hi e => by have h6 := HG2.out m5 (by simp); omega)).below (Nat.le_refl _) (fun _ h => h.elim))
       go_wp2_with fail
       go_roundw
       case rel => exact ⟨j + 1, by omega, by go_num, HST5, HB5⟩
       case measure => simp [intOf]; omega
      ·
       obtain rfl : n5 = j := by omega
       have HST9 : Hid (StM wy gb m0 m1 m2 m3 m4 m5 m6 m7 a0 n0 c0 a1 n1 c1 a2 n2 c2 a3 n3 c3 a4 n4 c4 a5 n5 c5 x.pct (st0 x)) := Lib.hid (by
        have := hst.out
        rw [take_end HL5.out] at this
        exact this)
       go_wp2_with fail
       go_ret2
       unfold ReadR
       rw [HR.out, if_pos rfl]
       exact ⟨gb, m0, m1, m2, m3, m4, m5, m6, m7, rfl, HST9.out, hb'.out, by have := HGB2.out; omega, fun i hi => by have := HG2.out i hi; omega⟩
end Go.Proofs.Ytboglaokdgnpaaa
