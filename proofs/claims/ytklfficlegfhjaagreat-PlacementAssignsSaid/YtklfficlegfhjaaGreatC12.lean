/- Several texts in one: Qv, Qw, Qx. -/
import Derived.Test.YtklfficlegfhjaaGreatC11
import Derived.Test.YtklfficlegfhjaaGreatC7
import Derived.Test.YtklfficlegfhjaaGreatC1
/- combinations: the lists of so many of the items, one by one. -/
namespace Go.Proofs.YtklfficlegfhjaaGreat
open Go Go.RowKit Go.Shelf Gf Sha
attribute [local go_sem] Oper.semAt_some

theorem infoI : (Tryz.prog.info? 3).map (fun i => (i.zero, i.size, i.bytes)) = some (some (.int .i64 0), 1, 8) := by kernel_rfl
theorem bslI (z : Int) (w : World) : (Instr.buildSlice 39 1 #[(0, .int .i64 z)]).run Tryz.prog w = .ok (.slice (some ⟨w.heap.size, 0, none⟩) 1 1) (w.alloc (.cells [.int .i64 z].toArray 3)) := by kernel_rfl
theorem LS.int_at {w w' : World} {A : Option Addr} {n c : Nat} {m : List Int} (h : LS rInt 1 8 w A n c m) (hb : Below w.heap.size w w') {k : Nat} (hk : k < n) :
  ∃ x g o, m[k]? = some x ∧ A = some ⟨g, o, none⟩ ∧ w'.cell? ⟨g, o + k, none⟩ = some (.int .i64 x) := by
 obtain ⟨x, g, o, cs, hx, e, hat, rfl, _⟩ := h.at_ stay_int hb hk
 refine ⟨x, g, o, hx, e, ?_⟩
 rw [Nat.mul_one] at hat
 exact hat 0 _ rfl
section
variable {P : Program} {w : World} {o : Oper} {a : Act} {Q : Exit → Act → World → Prop} {K : Act → World → Prop}
theorem wp_store1 (t : TypeId) (x y : Operand) (hop : o.op = .store t x y) (hs : (sizeOf t).run P w = .ok 1 w) (g p : Nat) (te : TypeId) (l : List Value) (u : Value) (hx : a.eval x = .pointer (some ⟨g, p, none⟩)) (hy : a.eval y = u)
  (hb : BL w g te l) (hu : u.cells = #[u]) (h1 : u.oneCell' = true) (hp : p < l.length)
  (h : ∀ w', BL w' g te (l.set p u) → Kp (· = g) w w' → w'.heap.size = w.heap.size → K (a.put o.dst undef) w') : o.wp P a w K Q := by
 obtain ⟨w', hr, hb', hk, hz⟩ := run_storeCells (P := P) [u] (by simpa using h1) p 1 0 l w rfl hb (by simp; omega)
 have e : l.take (p + 0) ++ [u].drop 0 ++ l.drop (p + [u].length) = l.set p u := by
  rw [List.set_eq_take_append_cons_drop, if_pos hp]
  simp
 rw [e] at hb'
 rw [List.drop_zero] at hr
 unfold Oper.wp execOp
 simp only [hop, hx, hy]
 simp [Instr.storeAt, Instr.sureAddr, storeVar, Sem.run_bind, hs, hu, hr, Result.andThen]
 exact h w' hb' hk hz
end
section
variable {P : Program} (w : World) {ops : Array Oper} {rest : List Oper} {o : Oper} {a : Act} {Q : Exit → Act → World → Prop}
theorem wpList_preV (hg : o.guard = none) (s hi : Operand) (ty te : TypeId) (m : Nat) (hop : o.op = .slice ty s none (some hi) none) (hu : P.underlying ty = some (.slice te)) (hs : (sizeOf te).run P w = .ok m w)
  (g p n c k : Nat) (hv : a.eval s = .slice (some ⟨g, p, none⟩) n c) (hlo : a.eval hi = .int .i64 (k : Int)) (hk : k ≤ n) (hc : n ≤ c) (hc0 : 0 < c)
  (h : wpList P ops Q rest (a.put o.dst (.slice (some ⟨g, p, none⟩) k c)) w) : wpList P ops Q (o :: rest) a w :=
 wpList_plain hg fun K hK => by
  unfold Oper.wp execOp
  simp only [hop, Option.map_some, Option.map_none, hv, hlo]
  have h1 : k ≤ c := by omega
  have h2 : ¬ c = 0 := by omega
  simp [Instr.sliceAt, Instr.slice, run_underlying hu, Instr.sliceBounds, Instr.sliceBound, asIntOf, hs, Result.andThen, addr_add, h1, h2]
  exact hK _ _ h
end
section
variable {w : World} {n c : Nat}
theorem RW.cut {te : TypeId} {s k : Nat} {A : Option Addr} {l : List Value} (h : RW w te s (.slice A n c) n l) (hk : k ≤ n) : RW w te s (.slice A k c) k (l.take (k * s)) := by
 have hks : k * s ≤ n * s := Nat.mul_le_mul_right _ hk
 rcases h.2 with ⟨e, h0⟩ | ⟨g', o', c', cs, e, hb, h1, h2, h3, h4⟩
 ·
  cases e
  obtain rfl : k = 0 := by omega
  simpa using RW.nil w te s
 ·
  cases e
  refine ⟨by rw [List.length_take, h.1]; omega, .inr ⟨g', o', c, cs, rfl, hb, by omega, h2, h3, ?_⟩⟩
  rw [← h4, List.take_take, Nat.min_eq_left hks]
end
/-- Ints in a block. -/
abbrev iL (L : List Int) : List Value := L.map intV
theorem ints_ls {w : World} {A : Option Addr} {n c : Nat} {L : List Int} (h : RW w 3 1 (.slice A n c) n (iL L)) (hl : L.length = n) (hok : ∀ x ∈ L, wfI x) (hb : n * 8 ≤ lim) : LS rInt 1 8 w A n c L := by
 obtain ⟨A', c', e, hnc⟩ := h.form
 cases e
 refine ⟨hl, hnc, hb, fun k hk => ?_⟩
 obtain ⟨g, o, c', e, _, hat⟩ := h.at_ (by omega)
 cases e
 refine ⟨g, o, [intV L[k]], rfl, ?_, rfl, hok _ (List.getElem_mem hk)⟩
 intro j v hj
 cases j with
 | zero =>
  have e9 : v = intV L[k] := by simpa using hj.symm
  subst e9
  have := hat k (intV L[k]) (by unfold iL; rw [List.getElem?_map, List.getElem?_eq_getElem hk]; rfl)
  rw [Nat.mul_one]; exact this
 | succ j => simp at hj
theorem clone_ints (v : Value) (L : List Int) (w : World) (h : RW w 3 1 v L.length (iL L)) (hok : ∀ x ∈ L, wfI x) (hn : L.length ≤ 1000000) :
  Calls Tryz.prog 100 #[v] w fun e w' => ∃ A' c', e = .returned (.slice A' L.length c') ∧ LS rInt 1 8 w' A' L.length c' L ∧ (∀ b o, A' = some ⟨b, o, none⟩ → w.heap.size ≤ b ∧ b < w'.heap.size) ∧ Below w.heap.size w w' := by
 have fin : ∀ (v' : Value) (w' : World), w'.ownsRow w.heap.size 3 1 v' L.length (iL L) → ∃ A' c', v' = .slice A' L.length c' ∧ LS rInt 1 8 w' A' L.length c' L ∧ (∀ b o, A' = some ⟨b, o, none⟩ → w.heap.size ≤ b ∧ b < w'.heap.size) := fun v' w' h1 => by
  obtain ⟨h2, h3⟩ := RW.of_own h1
  obtain ⟨A', c', rfl, _⟩ := h2.form
  exact ⟨A', c', rfl, ints_ls h2 rfl hok (by unfold lim; omega), fun b o e => ⟨h3 b (by rw [e]; rfl), h2.lt (by rw [e]; rfl)⟩⟩
 obtain ⟨A, c, rfl, hc⟩ := h.form
 by_cases h0 : L.length = 0
 ·
  have hL : L = [] := List.eq_nil_of_length_eq_zero h0
  subst hL
  cases A with
  | none =>
   refine (Tryz.slices_Clone_int_nil 0 c w).mono ?_
   rintro e w' ⟨rfl, rfl⟩
   exact ⟨none, 0, rfl, ⟨rfl, Nat.le_refl _, by decide, (fun k hk => by simp at hk)⟩, (fun b o e => by cases e), Below.refl _ _⟩
  | some a =>
   refine (Tryz.slices_Clone_int_zero a c w).mono ?_
   rintro e w' ⟨v', rfl, h1, _, h2⟩
   obtain ⟨A', c', rfl, h3, h4⟩ := fin v' w' h1
   exact ⟨A', c', rfl, h3, h4, h2⟩
 ·
  obtain ⟨g, o, c', e, _, hat⟩ := h.at_ (by omega)
  cases e
  refine (Tryz.slices_Clone_int g o L.length c L w (Nat.le_refl _) (by omega) (fun j hj => ?_)).mono ?_
  ·
   have := hat j (intV L[j]) (by unfold iL; rw [List.getElem?_map, List.getElem?_eq_getElem hj]; rfl)
   rw [this, List.getD_eq_getElem?_getD, List.getElem?_eq_getElem hj]; rfl
  ·
   rintro e w' ⟨v', rfl, h1, _, h2⟩
   rw [List.take_length] at h1
   obtain ⟨A', c', rfl, h3, h4⟩ := fin v' w' h1
   exact ⟨A', c', rfl, h3, h4, h2⟩
/-! ### plainly -/
theorem combos_none {α : Type} : ∀ (l : List α) (n : Nat), l.length < n → combos l n = []
 | [], n + 1, _ => by simp [combos]
 | x :: l, n + 1, h => by
  have h1 : l.length < n := by simpa using h
  rw [combos, combos_none l n h1, combos_none l (n + 1) (by omega)]; rfl
theorem combos_drop {α : Type} {l : List α} {i : Nat} {x : α} (h : l[i]? = some x) (n : Nat) : combos (l.drop i) (n + 1) = (combos (l.drop (i + 1)) n).map (x :: ·) ++ combos (l.drop (i + 1)) (n + 1) := by
 obtain ⟨hl, rfl⟩ := List.getElem?_eq_some_iff.1 h
 rw [List.drop_eq_getElem_cons hl, combos]
theorem combos_zero {α : Type} (l : List α) : combos l 0 = [[]] := by cases l <;> rfl
/-- What combinations hands over: a slice of its own. -/
def chE (c : List Int) (vs : Array Value) (G : Nat → Prop) (A : World) : Prop := ∃ A0 c0, vs = #[.slice A0 c.length c0] ∧ LS rInt 1 8 A A0 c.length c0 c ∧ ∀ b o, A0 = some ⟨b, o, none⟩ → G b
structure CbS (W : World) (gs gy gi ge gc l : Nat) (sz : Int) (Ai : Option Addr) (ni ci : Nat) (items : List Int) : Prop where
 bs : BL W gs 3 [.int .i64 sz]
 bY : BL W gy 138 [.func (.yield l) #[] #[]]
 bi : BL W gi 39 [.slice Ai ni ci]
 be : BL W ge 103 [.func (.func 99) #[] #[.pointer (some ⟨gc, 0, none⟩), .pointer (some ⟨gs, 0, none⟩), .pointer (some ⟨gy, 0, none⟩), .pointer (some ⟨gi, 0, none⟩), .pointer (some ⟨ge, 0, none⟩)]]
 it : LS rInt 1 8 W Ai ni ci items
theorem CbS.kp {W W' : World} {gs gy gi ge gc l : Nat} {sz : Int} {Ai : Option Addr} {ni ci : Nat} {items : List Int} (h : CbS W gs gy gi ge gc l sz Ai ni ci items) {S : Nat → Prop} (hk : Kp S W W') (h1 : ¬ S gs) (h2 : ¬ S gy) (h3 : ¬ S gi) (h4 : ¬ S ge) (h5 : ∀ a, Ai = some a → ¬ S a.block) : CbS W' gs gy gi ge gc l sz Ai ni ci items :=
 ⟨hk.bl h.bs h1, hk.bl h.bY h2, hk.bl h.bi h3, hk.bl h.be h4, h.it.kpn (fun _ _ hr => hr) hk h5⟩
/-- The items chosen so far, in memory of the iterator's own. -/
def ChB (W : World) (gc B0 : Nat) (S : Nat → Prop) (ch : List Int) : Prop := ∃ v, BL W gc 39 [v] ∧ RW W 3 1 v ch.length (iL ch) ∧ ∀ b, v.ownBlock = some b → B0 ≤ b ∧ ¬ S b
/-- What a call of yield hands back, in one. -/
theorem yield_b {J Jx : Nat → (Nat → Prop) → World → Prop} {B : Nat} {need S G : Nat → Prop} {z k : Nat} {A : World} : ∀ (e : Ending) (A' : World),
  ((e = .returned (.bool true) ∧ ∃ S', J (k + 1) S' A' ∧ RoundTo B need S G z A S' A') ∨ (e = .returned (.bool false) ∧ ∃ S', Jx (k + 1) S' A' ∧ RoundTo B need S G z A S' A')) →
  ∃ b, e = .returned (.bool b) ∧ ∃ S', (if b = true then J (k + 1) S' A' else Jx (k + 1) S' A') ∧ RoundTo B need S G z A S' A' := by
 rintro e A' (⟨rfl, S', h1, h2⟩ | ⟨rfl, S', h1, h2⟩)
 ·
  exact ⟨true, rfl, S', h1, h2⟩
 ·
  exact ⟨false, rfl, S', h1, h2⟩
section
set_option maxRecDepth 100000
set_option maxHeartbeats 4000000
theorem extend_any (l B0 gs gy gi ge gc : Nat) (sz : Int) (Ai : Option Addr) (ni ci : Nat) (items : List Int) (need : Nat → Prop) (xs : List (List Int)) (J Jx : Nat → (Nat → Prop) → World → Prop) (hJ : Abid B0 J)
  (hn : ni ≤ 100) (hg : B0 ≤ gy ∧ B0 ≤ ge ∧ B0 ≤ gc) (hne : gc ≠ gy ∧ gc ≠ ge) (hneed : need gs ∧ need gi ∧ ∀ a, Ai = some a → need a.block) (hlow : gs < B0 ∧ gi < B0 ∧ ∀ a, Ai = some a → a.block < B0)
  (hY : ∀ (m k : Nat) (x : List Int) (vs : Array Value) (G S : Nat → Prop) (A : World), xs[k]? = some x → chE x vs G A → (∀ i, G i → B0 ≤ i ∧ i < A.heap.size ∧ ¬ S i) → (∀ i, S i → B0 ≤ i ∧ i < A.heap.size) → J k S A →
   YieldAt Fence.wide m Tryz.prog l vs A fun e A' =>
    (e = .returned (.bool true) ∧ ∃ S', J (k + 1) S' A' ∧ RoundTo B0 need S G A.heap.size A S' A') ∨
    (e = .returned (.bool false) ∧ ∃ S', Jx (k + 1) S' A' ∧ RoundTo B0 need S G A.heap.size A S' A')) :
  ∀ (r : Nat) (frm k : Nat) (ch : List Int) (rest : List (List Int)) (S : Nat → Prop) (W : World), sz = (ch.length : Int) + (r : Int) → ch.length + r ≤ 100 → frm ≤ ni → (∀ x ∈ ch, wfI x) → k ≤ xs.length → xs.drop k = (combos (items.drop frm) r).map (ch ++ ·) ++ rest →
   CbS W gs gy gi ge gc l sz Ai ni ci items → ChB W gc B0 S ch → (¬ S gy ∧ ¬ S ge ∧ ¬ S gc) → (∀ i, S i → B0 ≤ i ∧ i < W.heap.size) → J k S W →
   CallsIn Fence.wide 0 Tryz.prog 99 #[.int .i64 (frm : Int), .pointer (some ⟨gc, 0, none⟩), .pointer (some ⟨gs, 0, none⟩), .pointer (some ⟨gy, 0, none⟩), .pointer (some ⟨gi, 0, none⟩), .pointer (some ⟨ge, 0, none⟩)] W fun e W' =>
    (e = .returned (.bool true) ∧ ∃ k' S', J k' S' W' ∧ k' ≤ xs.length ∧ xs.drop k' = rest ∧ CbS W' gs gy gi ge gc l sz Ai ni ci items ∧ ChB W' gc B0 S' ch ∧ (¬ S' gy ∧ ¬ S' ge ∧ ¬ S' gc) ∧ (∀ i, S' i → B0 ≤ i ∧ i < W'.heap.size) ∧ W.heap.size ≤ W'.heap.size) ∨
    (e = .returned (.bool false) ∧ ∃ k' S', k' ≤ xs.length ∧ Jx k' S' W' ∧ ∀ i, S' i → B0 ≤ i ∧ i < W'.heap.size) := by
 intro r
 induction r with
 | zero =>
  intro frm k ch rest S W hsz hlen hfrm hok hk hxs hC hB hSb hS hj
  have hx : xs[k]? = some ch := by
   have h1 : (xs.drop k)[0]? = some ch := by rw [hxs, combos_zero]; simp
   rw [List.getElem?_drop] at h1
   simpa using h1
  obtain ⟨v, hb1, hb2, hb3⟩ := hB
  have c1 := hb1.get (j := 0) rfl
  have c2 := hC.bs.get (j := 0) rfl
  have c3 := hC.bY.get (j := 0) rfl
  obtain ⟨A1, cc1, ev, _⟩ := hb2.form
  have f1 : ((ch.length : Int) == sz) = true := by rw [beq_iff_eq]; omega
  subst ev
  have HX := Lib.hid hx
  have HC := Lib.hid hC
  have HB1 := Lib.hid hb1
  have HB2 := Lib.hid hb2
  have HB3 := Lib.hid hb3
  have HOK := Lib.hid hok
  have HS := Lib.hid hS
  have HSB := Lib.hid hSb
  have HJ := Lib.hid hJ
  have HY := Lib.hid hY
  have HJJ := Lib.hid hj
  have HXS := Lib.hid hxs
  have HLEN := Lib.hid hlen
  clear hx hC hb1 hb2 hb3 hok hS hSb hJ hY hj hxs hlen hsz
  refine callsIn_of_wp (F := Fence.wide) Tryz.func99 rfl trivial ?_ rfl
  simp only [Tryz.ntmps99, List.size_toArray, List.length_cons, List.length_nil, Nat.reduceAdd, Nat.reduceSub, Array.replicate_succ, Array.replicate_zero, List.push_toArray, List.append_toArray, List.nil_append, List.cons_append]
  have hmo : Tryz.prog.follows .mixedOrders = true := by kernel_rfl
  gi_wp2_with fail
  gi_region_with_o (first
   | (refine ⟨trivial, rfl, ?_⟩; gi_at_call 100; refine (fw_calls (ro := none) (clone_ints _ ch _ HB2.out.drew HOK.out (by have := HLEN.out; omega))).mono ?_; rintro e w2 ⟨A2, c2', rfl, s1, s2, s3⟩; have HS1 := Lib.hid s1; have HS2 := Lib.hid s2; have HS3 : Hid (Below W.heap.size W w2) := Lib.hid ((Below.refl _ W).drew.trans s3); have c3' := (HC.out.bY.kept HS3.out).get (j := 0) rfl; obtain ⟨fn, tmps, assign, body, hy, hR⟩ := HY.out 0 k ch #[.slice A2 ch.length c2'] (fun b => ∃ o, A2 = some ⟨b, o, none⟩) S w2 HX.out ⟨A2, c2', rfl, s1, fun b o e => ⟨o, e⟩⟩ (fun i ⟨o, e⟩ => by have h9 := s2 i o e; have h8 : W.heap.size ≤ i := h9.1; have h7 := HB1.out.lt; exact ⟨by omega, h9.2, fun h => by have := (HS.out i h).2; omega⟩) (fun i h => ⟨(HS.out i h).1, Nat.lt_of_lt_of_le (HS.out i h).2 HS3.out.size⟩) (HJ.out _ _ _ _ HJJ.out (Kp.of_below HS3.out)); have HHR := Lib.hid (hR.mono (yield_b (J := J) (Jx := Jx))); clear hR s1 s2 s3)
   | (refine ⟨rfl, HHR.out.mono ?_⟩; rintro e W3 ⟨b, rfl, hres⟩; have HRES := Lib.hid hres; clear hres))
  all_goals (
   gi_wp2
   go_ret
   obtain ⟨S', hj3, hr3⟩ := HRES.out
   have hbnd : ∀ i, S' i → B0 ≤ i ∧ i < W3.heap.size := fun i hi => by
    have h9 := hr3.2 i hi
    refine ⟨?_, h9.1⟩
    have h7 := HB1.out.lt
    have h6 := HS3.out.size
    rcases h9.2 with h8 | ⟨o, h8⟩ | h8
    ·
     exact (HS.out i h8).1
    ·
     have : W.heap.size ≤ i := (HS2.out i o h8).1; omega
    ·
     omega
   have hkeep : ∀ g, g < W.heap.size → ¬ S g → (B0 ≤ g ∨ need g) → ¬ (S g ∨ (g < B0 ∧ ¬ need g)) := fun g _ h1 h2 h3 => by
    rcases h3 with h3 | h3
    ·
     exact h1 h3
    ·
     rcases h2 with h2 | h2
     ·
      omega
     ·
      exact h3.2 h2
   have hnS : ∀ g, g < W.heap.size → ¬ S g → ¬ S' g := fun g hg1 h1 h2 => by
    rcases (hr3.2 g h2).2 with h8 | ⟨o, h8⟩ | h8
    ·
     exact h1 h8
    ·
     have : W.heap.size ≤ g := (HS2.out g o h8).1; omega
    ·
     have := HS3.out.size; omega
   have hSlow : ∀ g, g < B0 → ¬ S g := fun g hg1 h1 => by have := (HS.out g h1).1; omega
   have hC3 := (HC.out.kp (S := fun _ => False) (Kp.of_below HS3.out) (fun h => h) (fun h => h) (fun h => h) (fun h => h) (fun _ _ h => h) : CbS w2 gs gy gi ge gc l sz Ai ni ci items)
   cases b with
   | false => exact .inr ⟨rfl, k + 1, S', by have := (List.getElem?_eq_some_iff.1 HX.out).1; omega, hj3, hbnd⟩
   | true =>
    refine .inl ⟨rfl, k + 1, S', hj3, by have := (List.getElem?_eq_some_iff.1 HX.out).1; omega, ?_, ?_, ⟨.slice A1 ch.length cc1, ?_, ?_, ?_⟩, ⟨hnS gy HC.out.bY.lt HSB.out.1, hnS ge HC.out.be.lt HSB.out.2.1, hnS gc HB1.out.lt HSB.out.2.2⟩, hbnd, ?_⟩
    ·
     have h9 := HXS.out
     rw [combos_zero] at h9
     have h8 : (xs.drop k).tail = rest := by rw [h9]; rfl
     rw [← h8, List.tail_drop]
    ·
     exact hC3.kp hr3.1 (hkeep gs HC.out.bs.lt (hSlow _ hlow.1) (.inr hneed.1)) (hkeep gy HC.out.bY.lt HSB.out.1 (.inl hg.1)) (hkeep gi HC.out.bi.lt (hSlow _ hlow.2.1) (.inr hneed.2.1)) (hkeep ge HC.out.be.lt HSB.out.2.1 (.inl hg.2.1)) (fun a ha => hkeep a.block (by have := hlow.2.2 a ha; have := HB1.out.lt; omega) (hSlow _ (hlow.2.2 a ha)) (.inr (hneed.2.2 a ha)))
    ·
     exact hr3.1.bl (HB1.out.kept HS3.out) (hkeep gc HB1.out.lt HSB.out.2.2 (.inl hg.2.2))
    ·
     exact (HB2.out.kept HS3.out).kp hr3.1 (fun b hb => hkeep b (HB2.out.lt hb) (HB3.out b hb).2 (.inl (HB3.out b hb).1))
    ·
     exact fun b hb => ⟨(HB3.out b hb).1, hnS b (HB2.out.lt hb) (HB3.out b hb).2⟩
    ·
     have := hr3.1.size; have := HS3.out.size; omega)
 | succ r ih =>
  intro frm k ch rest S W hsz hlen hfrm hok hk hxs hC hB hSb hS hj
  have f1 : ((ch.length : Int) == sz) = false := by rw [beq_eq_false_iff_ne]; omega
  obtain ⟨R, hR⟩ : ∃ R : Int, R = ((r + 1 : Nat) : Int) := ⟨_, rfl⟩
  obtain ⟨M, hM⟩ : ∃ M : Int, M = (ni : Int) - R := ⟨_, rfl⟩
  have hw1 : IntKind.i64.wrap (sz - (ch.length : Int)) = R := by rw [hsz, hR]; exact (congrArg _ (by omega)).trans (IntWalk.i64_in ((r + 1 : Nat) : Int) (by omega))
  have hw2 : IntKind.i64.wrap ((ni : Int) - R) = M := by rw [hM]; exact IntWalk.i64_in _ (by omega)
  have HRM : Hid (M = (ni : Int) - ((r + 1 : Nat) : Int)) := Lib.hid (by rw [hM, hR])
  clear hR hM
  have HC := Lib.hid hC
  have HB := Lib.hid hB
  have HOK := Lib.hid hok
  have HS := Lib.hid hS
  have HSB := Lib.hid hSb
  have HJ := Lib.hid hJ
  have HY := Lib.hid hY
  have HJJ := Lib.hid hj
  have HXS := Lib.hid hxs
  have HLEN := Lib.hid hlen
  have HIH := Lib.hid ih
  have HSZ := Lib.hid hsz
  obtain ⟨v0, hb1, hb2, hb3⟩ := hB
  have c1 := hb1.get (j := 0) rfl
  have c2 := hC.bs.get (j := 0) rfl
  obtain ⟨A1, cc1, ev, _⟩ := hb2.form
  subst ev
  clear hb1 hb2 hb3 hC hok hS hSb hJ hY hj hxs hlen ih hsz
  refine callsIn_of_wp (F := Fence.wide) Tryz.func99 rfl trivial ?_ rfl
  simp only [Tryz.ntmps99, List.size_toArray, List.length_cons, List.length_nil, Nat.reduceAdd, Nat.reduceSub, Array.replicate_succ, Array.replicate_zero, List.push_toArray, List.append_toArray, List.nil_append, List.cons_append]
  gi_wp2_with fail
  clear c1 c2 f1
  gi_loopw [8] (fun iv wr => ∃ (i k' : Nat) (S' : Nat → Prop), iv = .int .i64 (i : Int) ∧ i ≤ ni ∧ Hid (k' ≤ xs.length ∧ xs.drop k' = (combos (items.drop i) (r + 1)).map (ch ++ ·) ++ rest) ∧ Hid (CbS wr gs gy gi ge gc l sz Ai ni ci items) ∧ Hid (ChB wr gc B0 S' ch) ∧ Hid (¬ S' gy ∧ ¬ S' ge ∧ ¬ S' gc) ∧ Hid (∀ i, S' i → B0 ≤ i ∧ i < wr.heap.size) ∧ Hid (J k' S' wr) ∧ Hid (W.heap.size ≤ wr.heap.size)) (fun iv _ => ni + 1 - (intOf iv).toNat)
  case atStart => exact ⟨frm, k, S, rfl, hfrm, Lib.hid ⟨hk, HXS.out⟩, HC, HB, HSB, HS, HJJ, Lib.hid (Nat.le_refl _)⟩
  case round =>
   obtain ⟨i, k', S', rfl, hini, hxk, hC, hB, hSb, hS, hj, hWs⟩ := hrel
   obtain ⟨wx, hwx⟩ : ∃ x, x = wr := ⟨_, rfl⟩
   rw [← hwx] at hC hB hS hj hWs ⊢
   clear hwx
   obtain ⟨v, hb1, hb2, hb3⟩ := hB.out
   have c1 := hb1.get (j := 0) rfl
   have c2 := hC.out.bs.get (j := 0) rfl
   have c4 := hC.out.bi.get (j := 0) rfl
   obtain ⟨A2, cc2, ev, _⟩ := hb2.form
   subst ev
   have HV1 := Lib.hid hb1
   have HV2 := Lib.hid hb2
   have HV3 := Lib.hid hb3
   clear hb1 hb2 hb3
   by_cases hin : i + (r + 1) ≤ ni
   ·
    have f2 : decide ((i : Int) ≤ M) = true := decide_eq_true (by have := HRM.out; omega)
    have hlt : i < ni := by omega
    obtain ⟨x, g, o, hx, ea, cx⟩ := hC.out.it.int_at (Below.refl _ _) hlt
    have HX := Lib.hid hx
    have hxw : wfI x := by
     obtain ⟨y, g', o', cs, hy, _, _, hr⟩ := hC.out.it.elem_at hlt
     rw [hx] at hy; cases hy; exact hr.2
    have HXW := Lib.hid hxw
    have hltI : (i : Int) < (ni : Int) := by omega
    subst ea
    clear hx hxw
    gi_wp2_with fail
    refine Text.wp_region_text_in (fun w' => w'.cell? ⟨gc, 0, none⟩ = some (.slice A2 ch.length cc2)) [(2, 4), (0, 0), (1, 1), (3, 4), (4, 1), (5, 2), (6, 2), (7, 3)] (by kernel_rfl) (by kernel_rfl) (nodef rfl) (HV1.out.drew.get (j := 0) rfl) ?_
    (refine Text.purek rfl rfl (fun K hK => ⟨_, fun w' => by go_simp <;> rfl, ?_⟩); go_simp; refine hK _ ?_; clear hK K)
    (refine Text.heldk rfl rfl (fun K hK => ⟨_, fun w' hw' => by go_simp <;> rfl, ?_⟩); go_simp; refine hK _ ?_; clear hK K)
    (refine Text.readk rfl rfl (fun K hK => ⟨_, by go_simp <;> rfl, ?_⟩); go_simp; refine hK _ ?_; clear hK K)
    (refine Text.purek rfl rfl (fun K hK => ⟨_, fun w' => by go_simp <;> rfl, ?_⟩); go_simp; refine hK _ ?_; clear hK K)
    (refine Text.readk rfl rfl (fun K hK => ⟨_, by go_simp <;> rfl, ?_⟩); go_simp; refine hK _ ?_; clear hK K)
    refine Text.eff rfl rfl (fun K hK => ?_)
    refine wp_bslice 39 3 1 _ rfl #[(0, .int .i64 x)] (by rw [List.map_toArray]; rfl) [.int .i64 x] (bslI x _) ?_
    intro w5 a1 a2 a3
    have HG5 := Lib.hid a1
    have HX5 : Hid (Below wx.heap.size wx w5) := Lib.hid ((Below.refl _ wx).drew.trans a2)
    have HV5 := Lib.hid (HV1.out.kept HX5.out)
    clear a1 a2 a3
    refine hK _ _ (HV5.out.get (j := 0) rfl) ?_
    clear hK K
    refine Text.eff rfl rfl (fun K hK => ?_)
    obtain ⟨iS, i1, i2, i3, i4⟩ := info_some infoI
    refine wp_appRW _ (.tmp 29) (.tmp 34) 39 3 1 iS _ rfl Tryz.underlying39 i1 i2 i3 rfl _ ch.length _ rfl (HV2.out.kept HX5.out) _ _ rfl HG5.out rfl (fun u hu => by rw [List.mem_singleton.1 hu]; rfl) (by rw [i4]; have := HLEN.out; omega) (by have := HLEN.out; omega) ?_
    intro v' w6 a1
    have HR6 := Lib.hid a1
    have HV6 : Hid (BL w6 gc 39 [.slice A2 ch.length cc2]) := Lib.hid (a1.bl (HV2.out.kept HX5.out) HV5.out (by decide))
    clear a1 i1 i2 i3 i4
    refine hK _ _ (HV6.out.get (j := 0) rfl) ?_
    clear hK K
    refine Text.last rfl rfl (fun K hK => ?_)
    refine wp_store1 39 (.tmp 1) (.tmp 35) rfl (sz1 _ (by kernel_rfl) _) gc 0 _ _ v' rfl rfl HV6.out (by obtain ⟨A', c', e, _⟩ := HR6.out.row.form; rw [e]; rfl) (by obtain ⟨A', c', e, _⟩ := HR6.out.row.form; rw [e]; rfl) (by simp) ?_
    intro w7 a1 a2 a3
    have HV7 : Hid (BL w7 gc 39 [v']) := Lib.hid a1
    have HK7 := Lib.hid a2
    have HZ7 := Lib.hid a3
    clear a1 a2 a3
    refine hK _ _ ?_
    clear hK K
    refine Text.done ⟨rfl, ?_⟩
    have HT : Hid (Kp (fun b => b = gc ∨ (Value.slice A2 ch.length cc2).ownBlock = some b) wx w7) := Lib.hid (((Kp.of_below HX5.out).trans (HR6.out.kp.mono (fun _ _ h => .inr h))).trans (HK7.out.mono (fun _ _ h => .inl h)))
    have HC7 : Hid (CbS w7 gs gy gi ge gc l sz _ ni ci items) := Lib.hid (hC.out.kp HT.out
     (fun h => h.elim (fun h => by have := hlow.1; have := hg.2.2; omega) (fun h => by have := (HV3.out gs h).1; have := hlow.1; omega))
     (fun h => h.elim (fun h => hne.1 h.symm) (fun h => HV2.out.ne_bl hC.out.bY (by decide) _ h rfl))
     (fun h => h.elim (fun h => by have := hlow.2.1; have := hg.2.2; omega) (fun h => by have := (HV3.out gi h).1; have := hlow.2.1; omega))
     (fun h => h.elim (fun h => hne.2 h.symm) (fun h => HV2.out.ne_bl hC.out.be (by decide) _ h rfl))
     (fun b hb h => h.elim (fun h => by have := hlow.2.2 b hb; have := hg.2.2; omega) (fun h => by have := (HV3.out b.block h).1; have := hlow.2.2 b hb; omega)))
    have HB7 : Hid (ChB w7 gc B0 S' (ch ++ [x])) := Lib.hid (by
     refine ⟨v', HV7.out, ?_, fun b hb => ?_⟩
     ·
      have h1 := HR6.out.row.kp HK7.out (fun b hb e => HR6.out.row.ne_bl HV6.out (by decide) b hb e)
      have e1 : (ch ++ [x]).length = ch.length + 1 := by simp
      have e2 : iL (ch ++ [x]) = iL ch ++ [.int .i64 x] := by simp [iL, intV]
      rw [e1, e2]; exact h1
     ·
      rcases HR6.out.own b hb with h | h
      ·
       exact HV3.out b h
      ·
       have := HX5.out.size
       have h8 := HV1.out.lt
       exact ⟨by have := hg.2.2; omega, fun h => by have := (hS.out b h).2; omega⟩)
    have HJ7 : Hid (J k' S' w7) := Lib.hid (HJ.out _ _ _ _ hj.out (HT.out.mono (fun b _ h => h.elim (fun h => by subst h; exact ⟨hg.2.2, hSb.out.2.2⟩) (fun h => HV3.out b h))))
    have HS7 : Hid (∀ i, S' i → B0 ≤ i ∧ i < w7.heap.size) := Lib.hid (fun i h => ⟨(hS.out i h).1, Nat.lt_of_lt_of_le (hS.out i h).2 HT.out.size⟩)
    have c5 := HC7.out.be.get (j := 0) rfl
    have f3 : IntKind.i64.wrap ((i : Int) + 1) = ((i + 1 : Nat) : Int) := IntWalk.i64_in _ (by omega)
    gi_wp2_with fail
    have hcall := HIH.out (i + 1) k' (ch ++ [x]) ((combos (items.drop (i + 1)) (r + 1)).map (ch ++ ·) ++ rest) S' w7 (by rw [HSZ.out]; simp; omega) (by simp; have := HLEN.out; omega) (by omega)
     (fun y hy => by rcases List.mem_append.1 hy with h | h; exact HOK.out y h; rw [List.mem_singleton.1 h]; exact HXW.out) hxk.out.1
     (by rw [hxk.out.2, combos_drop HX.out, List.map_append, List.map_map, List.append_assoc]; congr 1; refine List.map_congr_left (fun y _ => ?_); simp) HC7.out HB7.out hSb.out HS7.out HJ7.out
    rw [show ((i + 1 : Nat) : Int) = (i : Int) + 1 by omega] at hcall
    refine ⟨trivial, rfl, hcall.mono ?_⟩
    clear hcall
    rintro e W8 (⟨rfl, k8, S8, j8, n8, x8, p8, q8, b8, s8, z8⟩ | ⟨rfl, k8, S8, n8, j8, s8⟩)
    ·
     obtain ⟨v8, u1, u2, u3⟩ := q8
     have c8 := u1.get (j := 0) rfl
     obtain ⟨g8, o8, cc8, ev, hcc8, _⟩ := u2.at_ (by simp)
     have hl8 : (ch ++ [x]).length = ch.length + 1 := by simp
     rw [hl8] at ev hcc8
     subst ev
     have f8 : IntKind.i64.wrap (ch.length : Int) = (ch.length : Int) := IntWalk.i64_in _ (by have := HLEN.out; omega)
     have J8 := Lib.hid j8
     have N8 := Lib.hid n8
     have X8 := Lib.hid x8
     have P8 := Lib.hid p8
     have U1 := Lib.hid u1
     have U2 := Lib.hid u2
     have U3 := Lib.hid u3
     have B8 := Lib.hid b8
     have S8h := Lib.hid s8
     have Z8 := Lib.hid z8
     have HCC := Lib.hid hcc8
     clear j8 n8 x8 p8 u1 u2 u3 b8 s8 z8 hcc8 hl8
     have U2' : Hid (RW W8 3 1 (.slice (some ⟨g8, o8, none⟩) ch.length cc8) ch.length (iL ch)) := Lib.hid (by
      have h0 := U2.out
      rw [show (ch ++ [x]).length = ch.length + 1 by simp] at h0
      have h1 := h0.cut (k := ch.length) (by omega)
      simpa [iL] using h1)
     gi_wp2_with (first
      | ((with_reducible show wpListIn _ _ _ _ _ (⟨some 45, _, _, _, _, _⟩ :: _) _ _); refine fw_list (by intro c h; cases h) ?_; refine wpList_preV _ rfl (.tmp 41) (.tmp 44) 39 3 1 rfl Tryz.underlying39 (sz1 _ (by kernel_rfl) _) g8 o8 (ch.length + 1) cc8 ch.length rfl (by go_simp) (by omega) HCC.out (by have := HCC.out; omega) ?_; refine fw_back ?_)
      | ((with_reducible show wpListIn _ _ _ _ _ (⟨none, _, _, _, _, _⟩ :: _) _ _); refine fw_list (by intro c h; cases h) ?_; refine wpList_store1 _ rfl 39 (.tmp 1) (.tmp 45) rfl (sz1 _ (by kernel_rfl) _) gc 0 _ _ (.slice (some ⟨g8, o8, none⟩) ch.length cc8) rfl rfl U1.out rfl rfl (by simp) ?_; intro w9 a1 a2 a3; have HV9 : Hid (BL w9 gc 39 [.slice (some ⟨g8, o8, none⟩) ch.length cc8]) := Lib.hid a1; have HK9 := Lib.hid a2; have HZ9 := Lib.hid a3; clear a1 a2 a3; refine fw_back ?_))
     have hz8 := Z8.out
     have hz7 := HT.out.size
     have hz0 := hWs.out
     refine ⟨⟨i + 1, k8, S8, by rw [show ((i + 1 : Nat) : Int) = (i : Int) + 1 by omega], by omega, Lib.hid ⟨N8.out, X8.out⟩, Lib.hid ?_, Lib.hid ⟨_, HV9.out, ?_, U3.out⟩, B8, Lib.hid (fun j h => ⟨(S8h.out j h).1, by rw [HZ9.out]; exact (S8h.out j h).2⟩), Lib.hid ?_, Lib.hid (by rw [HZ9.out]; omega)⟩, ?_⟩
     ·
      exact P8.out.kp HK9.out (fun h => by have := hlow.1; have := hg.2.2; omega) (fun h => hne.1 h.symm) (fun h => by have := hlow.2.1; have := hg.2.2; omega) (fun h => hne.2 h.symm) (fun b hb h => by have := hlow.2.2 b hb; have := hg.2.2; omega)
     ·
      exact U2'.out.kp HK9.out (fun b hb e => U2'.out.ne_bl U1.out (by decide) b hb e)
     ·
      exact HJ.out _ _ _ _ J8.out (HK9.out.mono (fun b _ h => by subst h; exact ⟨hg.2.2, B8.out.2.2⟩))
     ·
      simp [intOf]; omega
    ·
     gi_wp2_with fail
     go_ret
     exact .inr ⟨rfl, k8, S8, n8, j8, s8⟩
   ·
    have f2 : decide ((i : Int) ≤ M) = false := decide_eq_false (by have := HRM.out; omega)
    gi_wp2_with fail
    go_ret
    have h9 := hxk.out.2
    rw [combos_none _ _ (by rw [List.length_drop, hC.out.it.1]; omega)] at h9
    exact .inl ⟨rfl, k', S', hj.out, hxk.out.1, by simpa using h9, hC.out, ⟨_, HV1.out, HV2.out, HV3.out⟩, hSb.out, hS.out, hWs.out⟩
end
end Go.Proofs.YtklfficlegfhjaaGreat
/- combinations: the iterator; choices. -/
namespace Go.Proofs.YtklfficlegfhjaaGreat
open Go Go.RowKit Go.Shelf Gf Sha
attribute [local go_sem] Oper.semAt_some

theorem nilSl : (Tryz.prog.info? 39).map (·.zero) = some (some (.slice none 0 0)) := by kernel_rfl
theorem nilFn : (Tryz.prog.info? 103).map (·.zero) = some (some .nilFunc) := by kernel_rfl
section
set_option maxRecDepth 100000
set_option maxHeartbeats 4000000
theorem combos_itr (gs gi z : Nat) (Ai : Option Addr) (ni ci : Nat) (items : List Int) (W : World) (hs : BL W gs 3 [.int .i64 (z : Int)]) (hi : BL W gi 39 [.slice Ai ni ci]) (h : LS rInt 1 8 W Ai ni ci items) (hn : ni ≤ 100) (hz : z ≤ 100)
  (hlow : ∀ a, Ai = some a → a.block < W.heap.size) :
  Itr Fence.wide Tryz.prog 98 #[.pointer (some ⟨gs, 0, none⟩), .pointer (some ⟨gi, 0, none⟩)] (fun i => i = gs ∨ i = gi ∨ ∃ a, Ai = some a ∧ a.block = i) (combos items z) chE W := by
 intro n l J Jx hJ hJx hY h0
 have HJ := Lib.hid hJ
 have HJX := Lib.hid hJx
 have HY := Lib.hid hY
 have H0 := Lib.hid h0
 have HS := Lib.hid hs
 have HI := Lib.hid hi
 have H := Lib.hid h
 have HLOW := Lib.hid hlow
 clear hJ hJx hY h0 hs hi h hlow
 refine callsIn_of_wp (F := Fence.wide) Tryz.func98 rfl trivial ?_ rfl
 simp only [Tryz.ntmps98, List.size_toArray, List.length_cons, List.length_nil, Nat.reduceAdd, Nat.reduceSub, Array.replicate_succ, Array.replicate_zero, List.push_toArray, List.append_toArray, List.nil_append, List.cons_append]
 gi_wp2_with (first
  | ((with_reducible show wpListIn _ _ _ _ _ (⟨some 3, _, _, _, _, _⟩ :: _) _ _); refine fw_list (by intro c h; cases h) ?_; refine wpList_box1 _ rfl 138 (.tmp 0) rfl _ rfl rfl ?_; intro w1 a1 a2 a3; have HV1 := Lib.hid a1; have HX1 := Lib.hid a2; have HZ1 := Lib.hid a3; clear a1 a2 a3; refine fw_back ?_)
  | ((with_reducible show wpListIn _ _ _ _ _ (⟨some 4, _, _, _, _, _⟩ :: _) _ _); refine fw_list (by intro c h; cases h) ?_; refine wpList_alloc1 _ rfl 39 rfl (.slice none 0 0) nilSl rfl ?_; intro w2 a1 a2 a3; have HV2 := Lib.hid a1; have HX2 := Lib.hid a2; have HZ2 : Hid (w2.heap.size = W.heap.size + 2) := Lib.hid (by rw [a3, HZ1.out]); rw [HZ1.out] at HV2 ⊢; clear a1 a2 a3; refine fw_back ?_)
  | ((with_reducible show wpListIn _ _ _ _ _ (⟨some 5, _, _, _, _, _⟩ :: _) _ _); refine fw_list (by intro c h; cases h) ?_; refine wpList_alloc1 _ rfl 103 rfl .nilFunc nilFn rfl ?_; intro w5 a1 a2 a3; have HV5 := Lib.hid a1; have HX5 := Lib.hid a2; have HZ5 : Hid (w5.heap.size = W.heap.size + 3) := Lib.hid (by rw [a3, HZ2.out]); rw [HZ2.out] at HV5 ⊢; clear a1 a2 a3; refine fw_back ?_)
  | ((with_reducible show wpListIn _ _ _ _ _ (⟨none, _, _, _, _, _⟩ :: _) _ _); refine fw_list (by intro c h; cases h) ?_; refine wpList_store1 _ rfl 103 (.tmp 5) (.tmp 6) rfl (sz1 _ (by kernel_rfl) _) (W.heap.size + 2) 0 _ _ _ rfl rfl HV5.out rfl rfl (by simp) ?_; intro w6 a1 a2 a3; have HV6 := Lib.hid a1; have HK6 := Lib.hid a2; have HZ6 := Lib.hid a3; have c6 := HV6.out.get (j := 0) rfl; clear a1 a2 a3; refine fw_back ?_))
 have hs6 : w6.heap.size = W.heap.size + 3 := HZ6.out.trans HZ5.out
 have hB : Below W.heap.size W w6 := ((((HX1.out.trans (HX2.out.mono (by have := HX1.out.size; omega))).trans (HX5.out.mono (by have := HX2.out.size; have := HX1.out.size; omega)))).trans (HK6.out.below (b := W.heap.size) (by have := HZ5.out; omega) (fun k h => by subst h; omega)))
 have hkp : ∀ g, g < W.heap.size → w6.heap[g]? = W.heap[g]? := fun g hg => hB.block g hg
 have hv1 : BL w6 W.heap.size 138 [.func (.yield l) #[] #[]] := HK6.out.bl ((HV1.out.kept HX2.out).kept HX5.out) (by omega)
 have hv2 : BL w6 (W.heap.size + 1) 39 [.slice none 0 0] := HK6.out.bl (HV2.out.kept HX5.out) (by omega)
 have hB' := Lib.hid hB
 have hcall := extend_any l W.heap.size gs W.heap.size gi (W.heap.size + 2) (W.heap.size + 1) (z : Int) Ai ni ci items (fun i => i = gs ∨ i = gi ∨ ∃ a, Ai = some a ∧ a.block = i) (combos items z) J Jx HJ.out hn ⟨by omega, by omega, by omega⟩ ⟨by omega, by omega⟩
  ⟨.inl rfl, .inr (.inl rfl), fun a ha => .inr (.inr ⟨a, ha, rfl⟩)⟩ ⟨HS.out.lt, HI.out.lt, HLOW.out⟩ (fun m k x vs G S A h1 h2 h3 h4 h5 => HY.out m k x vs G S A h1 h2 h3 h4 h5) z 0 0 [] [] (fun _ => False) w6 (by simp) (by simpa using hz) (Nat.zero_le _) (fun x h => by cases h) (Nat.zero_le _) (by simp)
  ⟨HS.out.kept hB, hv1, HI.out.kept hB, HV6.out, H.out.kept stay_int hB⟩ ⟨_, hv2, RW.nil _ _ _, fun b hb => by cases hb⟩ ⟨fun h => h, fun h => h, fun h => h⟩ (fun i h => h.elim) (HJ.out _ _ _ _ H0.out (Kp.of_below hB))
 refine ⟨trivial, fun h => (by cases h), (fw_calls (ro := none) (n := _) (calls_fw (ro := none) (n := 0) hcall)).mono ?_⟩
 clear hcall
 rintro e W8 (⟨rfl, k8, S8, j8, n8, x8, p8, q8, b8, s8, z8⟩ | ⟨rfl, k8, S8, n8, j8, s8⟩)
 ·
  gi_wp2_with fail
  go_end0
  have hk8 : k8 = (combos items z).length := by
   have := List.drop_eq_nil_iff.1 x8
   omega
  subst hk8
  exact ⟨⟨_, rfl⟩, .inl ⟨S8, j8, s8⟩⟩
 ·
  gi_wp2_with fail
  go_end0
  exact ⟨⟨_, rfl⟩, .inr ⟨k8, S8, n8, j8, s8⟩⟩
theorem combinations_any (A : Option Addr) (n c : Nat) (z : Int) (w : World) :
  Calls Tryz.prog 84 #[.slice A n c, .int .i64 z] w fun e w' => ∃ gs gi, e = .returned (.func (.func 98) #[] #[.pointer (some ⟨gs, 0, none⟩), .pointer (some ⟨gi, 0, none⟩)]) ∧
   BL w' gs 3 [.int .i64 z] ∧ BL w' gi 39 [.slice A n c] ∧ w.heap.size ≤ gs ∧ w.heap.size ≤ gi ∧ Below w.heap.size w w' := by
 go_enter Tryz.func84, Tryz.ntmps84
 go_wp2_with (first
  | ((with_reducible show OpW 2); refine wpList_box1 _ rfl 39 (.tmp 0) rfl _ rfl rfl ?_; intro w1 a1 a2 a3; have HV1 := Lib.hid a1; have HX1 := Lib.hid a2; have HZ1 := Lib.hid a3; clear a1 a2 a3)
  | ((with_reducible show OpW 3); refine wpList_box1 _ rfl 3 (.tmp 1) rfl _ rfl rfl ?_; intro w2 a1 a2 a3; have HV2 := Lib.hid a1; have HX2 := Lib.hid a2; have HZ2 := Lib.hid a3; clear a1 a2 a3))
 go_ret
 refine ⟨_, _, rfl, HV2.out, HV1.out.kept HX2.out, by rw [HZ1.out]; omega, Nat.le_refl _, HX1.out.trans (HX2.out.mono (by have := HX1.out.size; omega))⟩
end
end Go.Proofs.YtklfficlegfhjaaGreat
/- The search's memory; free. -/
namespace Go.Proofs.YtklfficlegfhjaaGreat
open Go Go.RowKit Go.Shelf Go.WideMaps Go.ChangeMaps Gf Sha

def rIs : Rdg (List Int) := fun w cs x => ∃ A n c, cs = [.slice A n c] ∧ LS rInt 1 8 w A n c x
/-- Where a search lies. -/
structure SX where
 g : Nat
 Aw : Option Addr
 cw : Nat
 Ah : Option Addr
 ch : Nat
 vl : Value
 bm : Nat
 Am : Option Addr
 cm : Nat
 gc : Nat
 cc : Nat
 vs : Value
 vf : Value
abbrev sxL (x : SX) (nw nh n : Nat) : List Value := [.slice x.Aw nw x.cw, .slice x.Ah nh x.ch, x.vl, .map (some x.bm), .slice x.Am nw x.cm, .slice (some ⟨x.gc, 0, none⟩) nw x.cc, x.vs, x.vf, .int .i64 (n : Int)]
/-- What of a search stays: as it is in W0, whatever turns in T. -/
structure SrC (W0 : World) (T : Nat → Prop) (x : SX) (ws : List Wt) (hs : List Hd) (ps : List Pl) : Prop where
 w : ∀ W, Kp T W0 W → LS rWt 4 40 W x.Aw ws.length x.cw ws
 h : ∀ W, Kp T W0 W → LS rHd 3 24 W x.Ah hs.length x.ch hs
 m : ∀ W, Kp T W0 W → MG Tryz.prog 90 odV (.bool false) W x.bm (fun y => .bool (hasAt ps y.1 y.2))
 mi : ∀ W, Kp T W0 W → LS rIs 1 24 W x.Am ws.length x.cm (ws.map (fun w => withoutL w ps))
 tg : T x.g
 tc : T x.gc
 tl : ∀ b, x.vl.ownBlock = some b → T b
 lt : ∀ b, T b → b < W0.heap.size
/-- What of a search turns. -/
structure SrV (W0 W : World) (T : Nat → Prop) (x : SX) (ws : List Wt) (hs : List Hd) (left : List Int) (n : Nat) : Prop where
 kp : Kp T W0 W
 bg : BL W x.g 100 (sxL x ws.length hs.length n)
 l : RW W 3 1 x.vl hs.length (iL left)
theorem SrV.kept {W0 W W' : World} {T : Nat → Prop} {x : SX} {ws : List Wt} {hs : List Hd} {left : List Int} {n : Nat} (h : SrV W0 W T x ws hs left n) (hb : Below W.heap.size W W') : SrV W0 W' T x ws hs left n :=
 ⟨h.kp.then hb, h.bg.kept hb, h.l.kept hb⟩
/-- A list of ints that a call has made. -/
def NewI (W W' : World) (A : Option Addr) (n c : Nat) (l : List Int) : Prop := LS rInt 1 8 W' A n c l ∧ ∀ a, A = some a → W.heap.size ≤ a.block ∧ a.block < W'.heap.size
theorem exec_bld {P : Program} {w : World} {o : Oper} {a : Act} {t : TypeId} {parts : Array (Nat × Operand)} (hop : o.op = .build t parts) {ps : Array (Nat × Value)} (hps : (parts.map fun (i, x) => (i, a.eval x)) = ps) {v : Value} (hr : (Instr.build t ps).run P w = .ok v w) :
  (execOp a.eval o).run P w = .ok (.value v) w := by
 unfold execOp
 simp only [hop, hps]
 simp [hr, Result.andThen]
/-- A list of ints of the call's own. -/
def OwnI (w : World) (base : Nat) (v : Value) (L : List Int) : Prop := RW w 3 1 v L.length (iL L) ∧ ∀ b, v.ownBlock = some b → base ≤ b
section
variable {w w' : World} {base : Nat} {v : Value} {L : List Int}
theorem OwnI.kept (h : OwnI w base v L) (hb : Below w.heap.size w w') : OwnI w' base v L := ⟨h.1.kept hb, h.2⟩
theorem LS.wt_ok {A : Option Addr} {n c : Nat} {ws : List Wt} (h : LS rWt 4 40 w A n c ws) {i : Nat} {x : Wt} (hi : ws[i]? = some x) : okWt x := by
 have hl := (List.getElem?_eq_some_iff.1 hi).1
 obtain ⟨y, g, o, cs, hy, _, _, hr⟩ := h.elem_at (k := i) (by rw [← h.1]; exact hl)
 rw [hi] at hy; cases hy; exact hr.2
theorem OwnI.nil (w : World) (base : Nat) : OwnI w base (.slice none 0 0) [] := ⟨RW.nil _ _ _, fun b hb => by cases hb⟩
theorem OwnI.push {v' : Value} {z : Int} (h : OwnI w base v L) (ap : AppR w 3 1 v L.length 1 (iL L) [.int .i64 z] v' w') (hb : base ≤ w.heap.size) : OwnI w' base v' (L ++ [z]) := by
 refine ⟨?_, fun b e => ?_⟩
 ·
  have h1 := ap.row
  have e1 : (L ++ [z]).length = L.length + 1 := by simp
  have e2 : iL (L ++ [z]) = iL L ++ [.int .i64 z] := by simp [iL, intV]
  rw [e1, e2]; exact h1
 ·
  rcases ap.own b e with h1 | h1
  ·
   exact h.2 b h1
  ·
   omega
theorem OwnI.new (h : OwnI w' base v L) (W : World) (hb : base = W.heap.size) (hok : ∀ x ∈ L, wfI x) (hl : L.length * 8 ≤ lim) : ∃ A m c, v = .slice A m c ∧ NewI W w' A m c L := by
 obtain ⟨A, c, rfl, _⟩ := h.1.form
 refine ⟨A, L.length, c, rfl, ints_ls h.1 rfl hok hl, fun a ha => ?_⟩
 subst ha
 have h1 : (Value.slice (some a) L.length c).ownBlock = some a.block := rfl
 exact ⟨hb ▸ h.2 _ h1, h.1.lt h1⟩
end
theorem wpList_pushI {w : World} {ops : Array Oper} {rest : List Oper} {o : Oper} {a : Act} {Q : Exit → Act → World → Prop} (hg : o.guard = none) (sl x : Operand)
  (hop : o.op = .call { callee := .builtin .append, args := #[sl, x], argTypes := #[39, 39] }) (base : Nat) (v : Value) (L : List Int) (hv : a.eval sl = v) (h : OwnI w base v L) (hb : base ≤ w.heap.size)
  (g : Nat) (z : Int) (hx : a.eval x = .slice (some ⟨g, 0, none⟩) 1 1) (hbl : BL w g 3 [.int .i64 z]) (hl : L.length ≤ 10000)
  (hK : ∀ v' w', OwnI w' base v' (L ++ [z]) → AppR w 3 1 v L.length 1 (iL L) [.int .i64 z] v' w' → wpList Tryz.prog ops Q rest (a.put o.dst v') w') : wpList Tryz.prog ops Q (o :: rest) a w := by
 obtain ⟨iS, i1, i2, i3, i4⟩ := info_some infoI
 refine wpList_appRW _ hg sl x 39 3 1 iS _ hop Tryz.underlying39 i1 i2 i3 rfl v _ _ hv h.1 g _ hx hbl rfl (fun u hu => by rw [List.mem_singleton.1 hu]; rfl) (by rw [i4]; omega) (by omega) ?_
 intro v' w' ap
 exact hK v' w' (h.push ap hb) ap
theorem free_next {hs : List Hd} {ps : List Pl} {left : List Int} {w : Wt} {k : Nat} (_hk : k < hs.length) : ((List.range (k + 1)).map (fun k : Nat => (k : Int))).filter (fun j => !hasAt ps w.st (hAt hs j).dv && decide (w.sz ≤ zAt left j)) =
  ((List.range k).map (fun k : Nat => (k : Int))).filter (fun j => !hasAt ps w.st (hAt hs j).dv && decide (w.sz ≤ zAt left j)) ++ (if (!hasAt ps w.st (hAt hs k).dv && decide (w.sz ≤ zAt left k)) = true then [(k : Int)] else []) := by
 rw [List.range_succ, List.map_append, List.filter_append]
 congr 1
 by_cases h : (!hasAt ps w.st (hAt hs k).dv && decide (w.sz ≤ zAt left k)) = true
 ·
  simp [h]
 ·
  simp [h]
section
set_option maxRecDepth 100000
set_option maxHeartbeats 4000000
theorem free_any {W0 W : World} {T : Nat → Prop} {x : SX} {ws : List Wt} {hs : List Hd} {ps : List Pl} {left : List Int} {n : Nat} (hC : SrC W0 T x ws hs ps) (hV : SrV W0 W T x ws hs left n) (i : Nat) (w : Wt) (hi : ws[i]? = some w) (_hw : ws.length ≤ 8) (hh : hs.length ≤ 12) :
  Calls Tryz.prog 47 #[.pointer (some ⟨x.g, 0, none⟩), .int .i64 (i : Int)] W fun e W' => ∃ A m c, e = .returned (.slice A m c) ∧ NewI W W' A m c (freeP hs ps left w) ∧ Below W.heap.size W W' := by
 obtain ⟨xg, Aw, cw, Ah, ch, vl, bm, Am, cm, gc, cc, vs, vf⟩ := x
 have q0 := hV.bg.get (j := 0) rfl
 have q1 := hV.bg.get (j := 1) rfl
 obtain ⟨g, o, ea, hin, hat⟩ := LS.wt_at (hC.w W hV.kp) (Below.refl _ _) hi
 have hin' : (i : Int) < (ws.length : Int) := by omega
 subst ea
 have HA := Lib.hid hat
 have HC := Lib.hid hC
 have HV := Lib.hid hV
 have HI := Lib.hid hi
 clear hat hC hV hi
 go_enter Tryz.func47, Tryz.ntmps47
 go_wp2_with (first
  | ((with_reducible show OpW 15); refine wpList_loadv _ rfl 74 (.tmp 14) rfl 4 (by kernel_rfl) g (o + i * 4) (wtL w) (by go_simp) HA.out rfl ?_)
  | ((with_reducible show OpW 5); refine wpList_alloc _ rfl 74 rfl wtZ wtZero ?_; intro w3 a1 a2 a3; have HV3 := Lib.hid a1; have HX3 := Lib.hid a2; clear a1 a2 a3)
  | ((with_reducible show OpN); refine wpList_storev _ rfl 74 (.tmp 5) (.tmp 15) rfl 4 (by kernel_rfl) W.heap.size 0 _ wtZ (wtL w) rfl rfl HV3.out rfl (one_wt w) (by decide) ?_; intro w4 a1 a2 a3; have HV4 : Hid (BL w4 W.heap.size 74 (wtL w)) := Lib.hid a1; have HX4 : Hid (Below W.heap.size W w4) := Lib.hid (((Kp.of_below (S := fun _ => False) HX3.out).after a2 (fun i hi e => by omega)).below (Nat.le_refl _) (fun _ h => h.elim)); clear a1 a2 a3; have HV5 : Hid (SrV W0 w4 T _ ws hs left n) := Lib.hid (HV.out.kept HX4.out); have r1 := HV5.out.bg.get (j := 1) rfl)
  | fail)
 have HW4 := HV4
 have HZ4 := Lib.hid HV4.out.lt
 have HX0 := HX4
 generalize w4 = wa at *
 clear HV3 HX3 HV4 HX4
 go_loopw [6, 21] (fun v iv wr => ∃ k : Nat, iv = .int .i64 (k : Int) ∧ k ≤ hs.length ∧ Hid (OwnI wr wa.heap.size v (((List.range k).map (fun k : Nat => (k : Int))).filter (fun j => !hasAt ps w.st (hAt hs j).dv && decide (w.sz ≤ zAt left j)))) ∧ Hid (Below wa.heap.size wa wr)) (fun _ iv _ => hs.length - (intOf iv).toNat)
 case atStart => exact ⟨0, rfl, by omega, Lib.hid (OwnI.nil _ _), Lib.hid (Below.refl _ _)⟩
 case round =>
  obtain ⟨k, rfl, hk, ho, hb⟩ := hrel
  obtain ⟨wx, hwx⟩ : ∃ x, x = wr := ⟨_, rfl⟩
  rw [← hwx] at ho hb ⊢
  clear hwx
  have HVx := Lib.hid (HV5.out.kept hb.out)
  by_cases hlt : k < hs.length
  ·
   obtain ⟨y, gh, oh, cs, hy, eh, hat, hr⟩ := LS.elem_at (HC.out.h wx HVx.out.kp) hlt
   obtain ⟨rfl, hok⟩ := hr
   subst eh
   have HY := Lib.hid hy
   have HAY := Lib.hid hat
   have HK := Lib.hid (keyOd (w.st, y.dv) ⟨(LS.wt_ok (HC.out.w W HV.out.kp) HI.out).1, hok.1⟩)
   have hltI : (k : Int) < (hs.length : Int) := by omega
   clear hy hat hok
   go_wp2_with (first
    | ((with_reducible show OpW 25); refine wpList_loadv _ rfl 76 (.tmp 24) rfl 3 (by kernel_rfl) gh (oh + k * 3) (hdL y) (by go_simp) HAY.out rfl ?_)
    | ((with_reducible show OpW 8); refine wpList_alloc _ rfl 76 rfl hdZ hdZero ?_; intro w3 a1 a2 a3; have HV3 := Lib.hid a1; have HX3 := Lib.hid a2; clear a1 a2 a3)
    | ((with_reducible show OpN); refine wpList_storev _ rfl 76 (.tmp 8) (.tmp 25) rfl 3 (by kernel_rfl) wx.heap.size 0 _ hdZ (hdL y) rfl rfl HV3.out rfl (one_hd y) (by decide) ?_; intro w4 a1 a2 a3; have HV4 : Hid (BL w4 wx.heap.size 76 (hdL y)) := Lib.hid a1; have HX4 : Hid (Below wx.heap.size wx w4) := Lib.hid (((Kp.of_below (S := fun _ => False) HX3.out).after a2 (fun i hi e => by omega)).below (Nat.le_refl _) (fun _ h => h.elim)); clear a1 a2 a3; have HV9 : Hid (SrV W0 w4 T _ ws hs left n) := Lib.hid (HVx.out.kept HX4.out))
    | fail)
   have HW9 : Hid (BL w4 W.heap.size 74 (wtL w)) := Lib.hid ((HW4.out.kept hb.out).kept HX4.out)
   have HB9 : Hid (Below wa.heap.size wa w4) := Lib.hid (below_then hb.out HX4.out)
   have HO9 := Lib.hid (ho.out.kept HX4.out)
   have HM9 := Lib.hid (HC.out.m w4.drew (HV9.out.kp.then (Below.refl _ _).drew))
   obtain ⟨gl, ol, cl, ev, hcl, hatl⟩ := HV9.out.l.at_ (by omega)
   have hll : left.length = hs.length := by have := HV9.out.l.1; simpa [iL] using this
   have hzk : left[k]? = some (zAt left k) := by
    unfold zAt
    rw [Int.toNat_natCast, List.getD_eq_getElem?_getD, List.getElem?_eq_getElem (by omega)]; rfl
   have hcz := hatl k (intV (zAt left k)) (by unfold iL; rw [List.getElem?_map, hzk]; rfl)
   have hhk : hAt hs k = y := by
    unfold hAt
    rw [Int.toNat_natCast, List.getD_eq_getElem?_getD, HY.out]; rfl
   have HN := Lib.hid (free_next (ps := ps) (left := left) (w := w) hlt)
   rw [hhk] at HN
   have s2 : w4.drew.cell? ⟨xg, 2, none⟩ = some (.slice (some ⟨gl, ol, none⟩) hs.length cl) := by rw [← ev]; exact HV9.out.bg.get (j := 2) rfl
   have s3 : w4.drew.cell? ⟨xg, 3, none⟩ = some (.map (some bm)) := HV9.out.bg.get (j := 3) rfl
   have s4 : w4.drew.cell? ⟨gl, ol + k, none⟩ = some (.int .i64 (zAt left k)) := hcz
   have s5 : w4.drew.cell? ⟨W.heap.size, 0, none⟩ = some (.string (strB w.st)) := HW9.out.get (j := 0) rfl
   have s6 : w4.drew.cell? ⟨W.heap.size, 1, none⟩ = some (.int .i64 w.sz) := HW9.out.get (j := 1) rfl
   have s7 : w4.drew.cell? ⟨wx.heap.size, 0, none⟩ = some (.int .i64 y.dv) := HV4.out.get (j := 0) rfl
   clear ev hatl hcz hll hzk hhk
   obtain ⟨z, hz⟩ : ∃ z, z = zAt left k := ⟨_, rfl⟩
   rw [← hz] at HN s4
   clear hz
   cases f1 : hasAt ps w.st y.dv with
   | true =>
    refine Text.wp_region_text (fun w' => MG Tryz.prog 90 odV (.bool false) w' bm (fun y => .bool (hasAt ps y.1 y.2))) [(0, 4), (1, 4), (2, 4), (4, 4), (6, 4), (3, 1), (5, 1), (7, 1), (8, 0), (9, 0), (10, 4), (11, 4), (12, 4), (13, 4), (14, 4), (15, 4), (16, 4), (17, 4), (18, 4), (19, 4), (20, 4), (21, 4), (22, 4)] (by kernel_rfl) (by kernel_rfl) (fun _ _ _ _ _ h => h) (HM9.out) ?_
    iterate 5 (refine Text.purek rfl rfl (fun K hK => ⟨_, fun w' => by go_simp <;> rfl, ?_⟩); go_simp; refine hK _ ?_; clear hK K)
    iterate 3 (refine Text.readk rfl rfl (fun K hK => ⟨_, by go_simp <;> rfl, ?_⟩); go_simp; refine hK _ ?_; clear hK K)
    refine Text.heldk rfl rfl (fun K hK => ?_)
    refine ⟨_, fun w' hw' => exec_bld rfl (ps := #[(0, .string (strB w.st)), (1, .int .i64 y.dv)]) (by rw [List.map_toArray]; rfl) (bldOd _ _ _), ?_⟩
    refine hK _ ?_
    clear hK K
    refine Text.heldk rfl rfl (fun K hK => ?_)
    refine ⟨_, fun w' hw' => exec_lookG w' (.tmp 29) (.tmp 34) 88 90 4 rfl odKeyed mapOdB (.bool false) boolZero bm _ rfl hw' (w.st, y.dv) rfl HK.out, ?_⟩
    rw [f1]
    go_simp
    refine hK _ ?_
    clear hK K
    iterate 2 (refine Text.purek rfl rfl (fun K hK => ⟨_, fun w' => by go_simp <;> rfl, ?_⟩); go_simp; refine hK _ ?_; clear hK K)
    iterate 10 (refine Text.skipk (.inr (.inr rfl)) rfl rfl (fun K hK => ?_); go_simp; refine hK _ ?_; clear hK K)
    (refine Text.purek rfl rfl (fun K hK => ⟨_, fun w' => by go_simp <;> rfl, ?_⟩); go_simp; refine hK _ ?_; clear hK K)
    refine Text.done ?_
    have HN0 : Hid ((((List.range (k + 1)).map (fun k : Nat => (k : Int))).filter (fun j => !hasAt ps w.st (hAt hs j).dv && decide (w.sz ≤ zAt left j))) = (((List.range k).map (fun k : Nat => (k : Int))).filter (fun j => !hasAt ps w.st (hAt hs j).dv && decide (w.sz ≤ zAt left j)))) := Lib.hid (by rw [HN.out, f1]; simp)
    clear HN
    go_wp2_with fail
    go_roundw
    case rel => exact ⟨k + 1, by go_num, by omega, by rw [HN0.out]; exact Lib.hid (HO9.out.kept (Below.refl _ _).drew), Lib.hid HB9.out.drew⟩
    case measure => simp [intOf]; omega
   | false =>
    cases f2 : decide (w.sz ≤ z) with
    | false =>
     have f3 : decide (z ≥ w.sz) = false := f2
     have HN0 : Hid ((((List.range (k + 1)).map (fun k : Nat => (k : Int))).filter (fun j => !hasAt ps w.st (hAt hs j).dv && decide (w.sz ≤ zAt left j))) = (((List.range k).map (fun k : Nat => (k : Int))).filter (fun j => !hasAt ps w.st (hAt hs j).dv && decide (w.sz ≤ zAt left j)))) := Lib.hid (by rw [HN.out, f1, f2]; simp)
     clear HN
     refine Text.wp_region_text (fun w' => MG Tryz.prog 90 odV (.bool false) w' bm (fun y => .bool (hasAt ps y.1 y.2))) [(0, 4), (1, 4), (2, 4), (4, 4), (6, 4), (3, 1), (5, 1), (7, 1), (8, 0), (9, 0), (10, 4), (11, 4), (12, 4), (13, 4), (14, 4), (16, 4), (19, 4), (15, 1), (17, 4), (18, 1), (20, 1), (21, 4), (22, 4)] (by kernel_rfl) (by kernel_rfl) (fun _ _ _ _ _ h => h) (HM9.out) ?_
     iterate 5 (refine Text.purek rfl rfl (fun K hK => ⟨_, fun w' => by go_simp <;> rfl, ?_⟩); go_simp; refine hK _ ?_; clear hK K)
     iterate 3 (refine Text.readk rfl rfl (fun K hK => ⟨_, by go_simp <;> rfl, ?_⟩); go_simp; refine hK _ ?_; clear hK K)
     refine Text.heldk rfl rfl (fun K hK => ?_)
     refine ⟨_, fun w' hw' => exec_bld rfl (ps := #[(0, .string (strB w.st)), (1, .int .i64 y.dv)]) (by rw [List.map_toArray]; rfl) (bldOd _ _ _), ?_⟩
     refine hK _ ?_
     clear hK K
     refine Text.heldk rfl rfl (fun K hK => ?_)
     refine ⟨_, fun w' hw' => exec_lookG w' (.tmp 29) (.tmp 34) 88 90 4 rfl odKeyed mapOdB (.bool false) boolZero bm _ rfl hw' (w.st, y.dv) rfl HK.out, ?_⟩
     rw [f1]
     go_simp
     refine hK _ ?_
     clear hK K
     iterate 7 (refine Text.purek rfl rfl (fun K hK => ⟨_, fun w' => by go_simp <;> rfl, ?_⟩); go_simp; refine hK _ ?_; clear hK K)
     (refine Text.readk rfl rfl (fun K hK => ⟨_, by go_simp <;> rfl, ?_⟩); go_simp; refine hK _ ?_; clear hK K)
     (refine Text.purek rfl rfl (fun K hK => ⟨_, fun w' => by go_simp <;> rfl, ?_⟩); go_simp; refine hK _ ?_; clear hK K)
     iterate 2 (refine Text.readk rfl rfl (fun K hK => ⟨_, by go_simp <;> rfl, ?_⟩); go_simp; refine hK _ ?_; clear hK K)
     iterate 2 (refine Text.purek rfl rfl (fun K hK => ⟨_, fun w' => by go_simp <;> rfl, ?_⟩); go_simp; refine hK _ ?_; clear hK K)
     refine Text.done ?_
     go_wp2_with fail
     go_roundw
     case rel => exact ⟨k + 1, by go_num, by omega, by rw [HN0.out]; exact Lib.hid (HO9.out.kept (Below.refl _ _).drew), Lib.hid HB9.out.drew⟩
     case measure => simp [intOf]; omega
    | true =>
     have f3 : decide (z ≥ w.sz) = true := f2
     have HN0 : Hid ((((List.range (k + 1)).map (fun k : Nat => (k : Int))).filter (fun j => !hasAt ps w.st (hAt hs j).dv && decide (w.sz ≤ zAt left j))) = (((List.range k).map (fun k : Nat => (k : Int))).filter (fun j => !hasAt ps w.st (hAt hs j).dv && decide (w.sz ≤ zAt left j))) ++ [(k : Int)]) := Lib.hid (by rw [HN.out, f1, f2]; simp)
     have HLN : Hid ((((List.range k).map (fun k : Nat => (k : Int))).filter (fun j => !hasAt ps w.st (hAt hs j).dv && decide (w.sz ≤ zAt left j))).length ≤ k) := Lib.hid (by
      refine Nat.le_trans (List.length_filter_le _ _) ?_
      simp)
     clear HN
     refine Text.wp_region_text (fun w' => MG Tryz.prog 90 odV (.bool false) w' bm (fun y => .bool (hasAt ps y.1 y.2))) [(0, 4), (1, 4), (2, 4), (4, 4), (6, 4), (3, 1), (5, 1), (7, 1), (8, 0), (9, 0), (10, 4), (11, 4), (12, 4), (13, 4), (14, 4), (16, 4), (19, 4), (15, 1), (17, 4), (18, 1), (20, 1), (21, 4), (22, 4)] (by kernel_rfl) (by kernel_rfl) (fun _ _ _ _ _ h => h) (HM9.out) ?_
     iterate 5 (refine Text.purek rfl rfl (fun K hK => ⟨_, fun w' => by go_simp <;> rfl, ?_⟩); go_simp; refine hK _ ?_; clear hK K)
     iterate 3 (refine Text.readk rfl rfl (fun K hK => ⟨_, by go_simp <;> rfl, ?_⟩); go_simp; refine hK _ ?_; clear hK K)
     refine Text.heldk rfl rfl (fun K hK => ?_)
     refine ⟨_, fun w' hw' => exec_bld rfl (ps := #[(0, .string (strB w.st)), (1, .int .i64 y.dv)]) (by rw [List.map_toArray]; rfl) (bldOd _ _ _), ?_⟩
     refine hK _ ?_
     clear hK K
     refine Text.heldk rfl rfl (fun K hK => ?_)
     refine ⟨_, fun w' hw' => exec_lookG w' (.tmp 29) (.tmp 34) 88 90 4 rfl odKeyed mapOdB (.bool false) boolZero bm _ rfl hw' (w.st, y.dv) rfl HK.out, ?_⟩
     rw [f1]
     go_simp
     refine hK _ ?_
     clear hK K
     iterate 7 (refine Text.purek rfl rfl (fun K hK => ⟨_, fun w' => by go_simp <;> rfl, ?_⟩); go_simp; refine hK _ ?_; clear hK K)
     (refine Text.readk rfl rfl (fun K hK => ⟨_, by go_simp <;> rfl, ?_⟩); go_simp; refine hK _ ?_; clear hK K)
     (refine Text.purek rfl rfl (fun K hK => ⟨_, fun w' => by go_simp <;> rfl, ?_⟩); go_simp; refine hK _ ?_; clear hK K)
     iterate 2 (refine Text.readk rfl rfl (fun K hK => ⟨_, by go_simp <;> rfl, ?_⟩); go_simp; refine hK _ ?_; clear hK K)
     iterate 2 (refine Text.purek rfl rfl (fun K hK => ⟨_, fun w' => by go_simp <;> rfl, ?_⟩); go_simp; refine hK _ ?_; clear hK K)
     refine Text.done ?_
     obtain ⟨L, hL⟩ : ∃ L, L = (((List.range k).map (fun k : Nat => (k : Int))).filter (fun j => !hasAt ps w.st (hAt hs j).dv && decide (w.sz ≤ zAt left j))) := ⟨_, rfl⟩
     rw [← hL] at HN0 HLN HO9
     clear hL
     go_wp2_with (first
      | ((with_reducible show OpW 51); refine wpList_bslice _ rfl 39 3 1 _ rfl #[(0, .int .i64 (k : Int))] (by rw [List.map_toArray]; rfl) [.int .i64 (k : Int)] (bslI _ _) ?_; intro w6 a1 a2 a3; have HG6 := Lib.hid a1; have HX6 : Hid (Below w4.heap.size w4 w6) := Lib.hid ((Below.refl _ w4).drew.trans a2); clear a1 a2 a3)
      | ((with_reducible show OpW 52); refine wpList_pushI rfl (.tmp 49) (.tmp 51) rfl wa.heap.size _ _ rfl (HO9.out.kept HX6.out) (by have := HB9.out.size; have := HX6.out.size; omega) w4.drew.heap.size (k : Int) rfl HG6.out (by have := HLN.out; omega) ?_; intro v' w7 a1 a2; have HO7 := Lib.hid a1; have HA7 := Lib.hid a2; clear a1 a2))
     go_roundw
     case rel =>
      refine ⟨k + 1, by go_num, by omega, by rw [HN0.out]; exact HO7, Lib.hid ?_⟩
      exact (((Kp.of_below (S := fun b => wa.heap.size ≤ b) HB9.out).trans (Kp.of_below HX6.out)).trans (HA7.out.kp.mono (fun b _ e => HO9.out.2 b e))).below (Nat.le_refl _) (fun i h => h)
     case measure => simp [intOf]; omega
  ·
   obtain rfl : k = hs.length := by omega
   have HF : Hid (freeP hs ps left w = (((List.range hs.length).map (fun k : Nat => (k : Int))).filter (fun j => !hasAt ps w.st (hAt hs j).dv && decide (w.sz ≤ zAt left j)))) := Lib.hid (by unfold freeP upI; rw [Int.toNat_natCast])
   rw [← HF.out] at ho
   go_wp2_with fail
   go_ret
   have hle : ∀ x ∈ freeP hs ps left w, wfI x := fun x hx => by
    have := upI_mem.1 ((List.mem_filter.1 hx).1)
    exact wfI_of (by omega) (by omega)
   have hln : (freeP hs ps left w).length ≤ 12 := by
    refine Nat.le_trans (List.length_filter_le _ _) ?_
    rw [upI_length]; omega
   have hBW : Below W.heap.size W wx := HX0.out.trans (hb.out.mono HX0.out.size)
   obtain ⟨A, m, c, rfl, h1⟩ := (ho.out.new wa rfl hle (by unfold lim; omega))
   exact ⟨A, m, c, rfl, ⟨h1.1, fun a ha => ⟨by have := (h1.2 a ha).1; have := HX0.out.size; omega, (h1.2 a ha).2⟩⟩, hBW⟩
end
end Go.Proofs.YtklfficlegfhjaaGreat
