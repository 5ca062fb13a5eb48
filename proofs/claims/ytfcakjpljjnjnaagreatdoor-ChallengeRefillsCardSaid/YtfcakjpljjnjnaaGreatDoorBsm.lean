/- Laws for Refills' literals: what a store into a zero stripe leaves alone; operations of a bag. -/
import Derived.Test.YtfcakjpljjnjnaaGreatDoorBqm
import Derived.Test.YtfcakjpljjnjnaaGreatDoorBpm
import Derived.Test.YtfcakjpljjnjnaaGreatDoorBrm
import Derived.Test.YtfcakjpljjnjnaaGreatDoorC21
namespace Go.Proofs.YtfcakjpljjnjnaaGreatDoor
open Go Go.RowKit Go.Shelf Gf Sha

section
variable {P : Program} {o : Oper} {a : Act} {w : World}
theorem exec_move {x : Operand} {v : Value} (hop : o.op = .move x) (hx : a.eval x = v) : (execOp a.eval o).run P w = .ok (.value v) w := by
 unfold execOp
 simp only [hop, hx]
 rfl
theorem exec_assign {x : Operand} {v : Value} (hop : o.op = .assign x) (hx : a.eval x = v) : (execOp a.eval o).run P w = .ok (.value v) w := by
 unfold execOp
 simp only [hop, hx]
 rfl
theorem exec_extract {x : Operand} {i : Nat} {vs : Array Value} {v : Value} (hop : o.op = .extract x i) (hx : a.eval x = .tuple vs) (hv : vs[i]? = some v) : (execOp a.eval o).run P w = .ok (.value v) w := by
 unfold execOp
 simp only [hop, hx]
 simp [Instr.extract, hv]
theorem exec_bsl {t : TypeId} {n : Nat} {parts : Array (Nat × Operand)} (hop : o.op = .buildSlice t n parts) {ps : Array (Nat × Value)} (hps : (parts.map fun (i, x) => (i, a.eval x)) = ps) {v : Value} {w' : World} (hr : (Instr.buildSlice t n ps).run P w = .ok v w') : (execOp a.eval o).run P w = .ok (.value v) w' := by
 unfold execOp
 simp only [hop, hps]
 simp [hr, Result.andThen]
theorem exec_mks {t : TypeId} {l c : Operand} {vl vc : Value} (hop : o.op = .makeSlice t l c) (hl : a.eval l = vl) (hc : a.eval c = vc) {v : Value} {w' : World} (hr : (Instr.makeSlice t vl vc).run P w = .ok v w') : (execOp a.eval o).run P w = .ok (.value v) w' := by
 unfold execOp
 simp only [hop, hl, hc]
 simp [hr, Result.andThen]
theorem exec_alloc {t : TypeId} {l : List Value} (hop : o.op = .alloc t) (hz : (P.info? t).map (·.zero) = some (some (.agg l.toArray))) : (execOp a.eval o).run P w = .ok (.value (.pointer (some ⟨w.heap.size, 0, none⟩))) (w.alloc (.cells l.toArray t)) := by
 cases hi : P.info? t with
 | none => simp [hi] at hz
 | some i =>
  have hz' : i.zero = some (.agg l.toArray) := by simpa [hi] using hz
  unfold execOp
  simp only [hop]
  simp [Instr.alloc, zeroValue, typeInfo, hi, hz', newVar, newRow, Value.cells, Result.andThen]
/-- A call of a function by its number. -/
theorem exec_fn {F : FuncId} {xs : Array Operand} {ts : Array TypeId} {vs : Array Value} (hop : o.op = .call { callee := .value (.func F), args := xs, argTypes := ts }) (hx : xs.map a.eval = vs) (he : (callFunc F vs).run P w = .ok (.enter F vs) w) : (execOp a.eval o).run P w = .ok (.enter F vs) w := by
 have hf : a.eval (.func F) = .func (.func F) #[] #[] := rfl
 unfold execOp
 simp only [hop, resolve, invoke, hf, hx]
 go_simp
end

section
variable {w w' : World} {g : Nat} {t : TypeId}
/-- A cell that holds no zero stays where a zero stripe is written over. -/
theorem cell_storeZ {g' k : Nat} {v : Value} (hb : BL w g t spZ) (hk : Kp (fun b => b = g) w w') (hc : w.cell? ⟨g', k, none⟩ = some v) (hv : v ∉ spZ) : w'.cell? ⟨g', k, none⟩ = some v := by
 refine hk.cell hc (fun e => hv ?_)
 have e3 : g' = g := e
 subst e3
 rw [Blk.cell hb] at hc
 exact List.mem_of_getElem? (by simpa using hc : spZ[k]? = some v)
theorem u8_spZ (b : UInt8) : B b ∉ spZ := fun h => by
 simp only [spZ, List.mem_cons, List.not_mem_nil, or_false] at h
 rcases h with h | h | h | h | h | h <;> cases h
theorem str_spZ {l : List UInt8} (hl : l ≠ []) : Value.string (strB l) ∉ spZ := fun h => by
 simp only [spZ, List.mem_cons, List.not_mem_nil, or_false] at h
 rcases h with h | h | h | h | h | h <;> first | (injection h with h; exact hl (strB_inj h)) | cases h
theorem BS.storeZ {A : Option Addr} {n c : Nat} {l : List UInt8} (h : BS w A n c l) (hb : BL w g t spZ) (hk : Kp (fun b => b = g) w w') : BS w' A n c l :=
 ⟨h.1, h.2.1, h.2.2.1, fun k hk9 => let ⟨g', o, e, hc⟩ := h.2.2.2 k hk9; ⟨g', o, e, cell_storeZ hb hk hc (u8_spZ _)⟩⟩
theorem MS.storeZ {A : Option Addr} {n c : Nat} {m : List (List UInt8)} (h : MS w A n c m) (hl : ∀ k, k < n → (gR m k).length ≠ 0) (hb : BL w g t spZ) (hk : Kp (fun b => b = g) w w') : MS w' A n c m :=
 ⟨h.1, h.2.1, h.2.2.1, fun k hk9 => by
  obtain ⟨g', o, A', n', c', e, hc, hs⟩ := h.2.2.2 k hk9
  refine ⟨g', o, A', n', c', e, cell_storeZ hb hk hc (fun hm => ?_), hs.storeZ hb hk⟩
  simp only [spZ, List.mem_cons, List.not_mem_nil, or_false] at hm
  have := hl k hk9
  rw [hs.1] at this
  rcases hm with h | h | h | h | h | h <;> first | (injection h with _ h2 _; exact this h2) | cases h⟩
theorem LS.storeZ {α : Type} {R : Rdg α} {s b n c : Nat} {A : Option Addr} {L : List α} (h : LS R s b w A n c L) (hf : ∀ cs x, x ∈ L → R w cs x → ∃ z r, cs = .string (strB z) :: r ∧ z ≠ []) (hR : ∀ cs x, x ∈ L → R w cs x → R w' cs x) (hb : BL w g t spZ) (hk : Kp (fun b => b = g) w w') : LS R s b w' A n c L :=
 ⟨h.1, h.2.1, h.2.2.1, fun k hk9 => by
  obtain ⟨g', o, cs, e, h1, h2⟩ := h.2.2.2 k hk9
  obtain ⟨z, r, hz, hz0⟩ := hf _ _ (List.getElem_mem hk9) h2
  have hne : g' ≠ g := fun e9 => by
   subst e9
   have hc := h1 0 (.string (strB z)) (by rw [hz]; rfl)
   rw [Blk.cell hb] at hc
   exact str_spZ hz0 (List.mem_of_getElem? (by simpa using hc))
  exact ⟨g', o, cs, e, h1.kp hk hne, hR _ _ (List.getElem_mem hk9) h2⟩⟩
theorem R2_ne (x : UInt8) {r : Rf} (h : r ∈ R2 x) : r.1 ≠ [] := by
 unfold R2 at h
 simp only [List.mem_cons, List.not_mem_nil, or_false] at h
 rcases h with rfl | rfl <;> (unfold nameL; intro h; cases h)
theorem refs_storeZ {x : UInt8} {A : Option Addr} {n c : Nat} (h : LS rRf 3 32 w A n c (R2 x)) (hb : BL w g t spZ) (hk : Kp (fun b => b = g) w w') : LS rRf 3 32 w' A n c (R2 x) :=
 h.storeZ (fun _ r hr hc => ⟨r.1, _, hc.1, R2_ne x hr⟩) (fun _ _ _ h => h) hb hk
theorem sp_storeZ {x : UInt8} {b : List UInt8} {cs : List Value} (h : rSp w cs (spR x b)) (hb : BL w g t spZ) (hk : Kp (fun b => b = g) w w') : rSp w' cs (spR x b) :=
 let ⟨A, n, c, e, h1, r⟩ := h; ⟨A, n, c, e, refs_storeZ h1 hb hk, r⟩
theorem pcs_storeZ {b : List UInt8} (h64 : b.length = 64) {A : Option Addr} {n c : Nat} (h : LS rPe 4 72 w A n c (pcsL (rwB b))) (hb : BL w g t spZ) (hk : Kp (fun b => b = g) w w') : LS rPe 4 72 w' A n c (pcsL (rwB b)) :=
 h.storeZ (fun cs y hy hc => by
  obtain ⟨A', n', c', B', m', d', rfl, _⟩ := hc
  refine ⟨y.id, _, rfl, fun h0 => ?_⟩
  unfold pcsL at hy
  obtain ⟨i, _, rfl⟩ := List.mem_map.1 hy
  have h9 := idR_len h64
  have h8 : (pieN (rwB b) i).id = rt (sumsL (rwB b)) := rfl
  rw [h8] at h0
  rw [h0] at h9
  cases h9) (fun cs y hy hc => pe_storeG spZ_zero hc (pcsL_sm (rwB_rect h64) (by decide) y hy) hb hk) hb hk
end

/-- What the operations of Make's literal yield. -/
def cV (x : Value) : World → Value → Prop := fun _ v => v = x
def refsV (x : UInt8) : World → Value → Prop := fun w v => ∃ g, v = .slice (some ⟨g, 0, none⟩) 2 2 ∧ LS rRf 3 32 w (some ⟨g, 0, none⟩) 2 2 (R2 x)
def zerV : World → Value → Prop := fun w v => ∃ g, v = .slice (some ⟨g, 0, none⟩) 64 64 ∧ BS w (some ⟨g, 0, none⟩) 64 64 (zeros 64)
def blkV (b : List UInt8) : World → Value → Prop := fun w v => ∃ g, v = .slice (some ⟨g, 0, none⟩) 2 2 ∧ MS w (some ⟨g, 0, none⟩) 2 2 (mB b)
def spV (x : UInt8) (b : List UInt8) : World → Value → Prop := fun w v => ∃ cs, v = .agg cs.toArray ∧ rSp w cs (spR x b)
def psV (b : List UInt8) : World → Value → Prop := fun w v => ∃ A c, v = .slice A 4 c ∧ LS rPe 4 72 w A 4 c (pcsL (rwB b))
def mkV (x : UInt8) (b : List UInt8) : World → Value → Prop := fun w v => ∃ cs v2, v = .tuple #[.agg cs.toArray, v2, .int .i64 0] ∧ rSp w cs (spR x b) ∧ psV b w v2
def anyV : World → Value → Prop := fun _ _ => True
def StayZ (R : World → Value → Prop) : Prop := ∀ w w' v g t, R w v → BL w g t spZ → Kp (fun b => b = g) w w' → R w' v
theorem spec_stayz {l : List (World → Value → Prop)} (h : ∀ R ∈ l, StayZ R) (i : Nat) (w w' : World) (v : Value) (g : Nat) (hv : Text.spec l i w v) (hb : BL w g 26 spZ) (hk : Kp (fun b => b = g) w w') : Text.spec l i w' v := by
 unfold Text.spec at *
 rw [List.getD_eq_getElem?_getD] at *
 cases hi : l[i]? with
 | none => rw [hi] at hv; exact hv.elim
 | some R => rw [hi] at hv; exact h R (List.mem_of_getElem? hi) w w' v g _ hv hb hk
theorem stay_refsV (x : UInt8) : Text.StayS (refsV x) := fun _ _ _ ⟨g, h1, h2⟩ hb => ⟨g, h1, h2.kept stay_rf hb⟩
theorem stay_zerV : Text.StayS zerV := fun _ _ _ ⟨g, h1, h2⟩ hb => ⟨g, h1, h2.kept hb⟩
theorem stay_blkV (b : List UInt8) : Text.StayS (blkV b) := fun _ _ _ ⟨g, h1, h2⟩ hb => ⟨g, h1, h2.kept hb⟩
theorem stay_spV (x : UInt8) (b : List UInt8) : Text.StayS (spV x b) := fun _ _ _ ⟨g, h1, h2⟩ hb => ⟨g, h1, stay_sp _ _ _ _ h2 hb⟩
theorem stay_psV (b : List UInt8) : Text.StayS (psV b) := fun _ _ _ ⟨A, c, h1, h2⟩ hb => ⟨A, c, h1, h2.kept stay_pe hb⟩
theorem stay_mkV (x : UInt8) (b : List UInt8) : Text.StayS (mkV x b) := fun _ _ _ ⟨g, v2, h1, h2, h3⟩ hb => ⟨g, v2, h1, stay_sp _ _ _ _ h2 hb, stay_psV b _ _ _ h3 hb⟩
theorem stayz_c (x : Value) : StayZ (cV x) := fun _ _ _ _ _ h _ _ => h
theorem stayz_refsV (x : UInt8) : StayZ (refsV x) := fun _ _ _ _ _ ⟨g, h1, h2⟩ hb hk => ⟨g, h1, refs_storeZ h2 hb hk⟩
theorem stayz_zerV : StayZ zerV := fun _ _ _ _ _ ⟨g, h1, h2⟩ hb hk => ⟨g, h1, h2.storeZ hb hk⟩
theorem stayz_blkV {b : List UInt8} (h64 : b.length = 64) : StayZ (blkV b) := fun _ _ _ _ _ ⟨g, h1, h2⟩ hb hk => ⟨g, h1, h2.storeZ (fun k hk9 => by rw [mB_rect h64 k hk9]; decide) hb hk⟩
theorem stayz_spV (x : UInt8) (b : List UInt8) : StayZ (spV x b) := fun _ _ _ _ _ ⟨g, h1, h2⟩ hb hk => ⟨g, h1, sp_storeZ h2 hb hk⟩
theorem stayz_psV {b : List UInt8} (h64 : b.length = 64) : StayZ (psV b) := fun _ _ _ _ _ ⟨A, c, h1, h2⟩ hb hk => ⟨A, c, h1, pcs_storeZ h64 h2 hb hk⟩
theorem stayz_mkV (x : UInt8) {b : List UInt8} (h64 : b.length = 64) : StayZ (mkV x b) := fun _ _ _ _ _ ⟨g, v2, h1, h2, h3⟩ hb hk => ⟨g, v2, h1, sp_storeZ h2 hb hk, stayz_psV h64 _ _ _ _ _ h3 hb hk⟩
theorem bldRf (s : ByteArray) (i : Int) (w : World) : (Instr.build 44 #[(0, .string s), (2, .int .i64 i)]).run Tryz.prog w = .ok (.agg [.string s, .int .i64 0, .int .i64 i].toArray) w := by kernel_rfl
theorem bslRf2 (r q : Rf) (w : World) : (Instr.buildSlice 24 2 #[(0, .agg (rfL r).toArray), (1, .agg (rfL q).toArray)]).run Tryz.prog w = .ok (.slice (some ⟨w.heap.size, 0, none⟩) 2 2) (w.alloc (.cells (rfL r ++ rfL q).toArray 44)) := by kernel_rfl
theorem bslBs2 (A : Option Addr) (n c : Nat) (A' : Option Addr) (n' c' : Nat) (w : World) : (Instr.buildSlice 45 2 #[(0, .slice A n c), (1, .slice A' n' c')]).run Tryz.prog w = .ok (.slice (some ⟨w.heap.size, 0, none⟩) 2 2) (w.alloc (.cells [.slice A n c, .slice A' n' c'].toArray 39)) := by kernel_rfl
theorem refs_new (x : UInt8) (w : World) : refsV x (w.alloc (.cells (rfL (nameL x 1, 0, 10) ++ rfL (nameL x 2, 0, 20)).toArray 44)) (.slice (some ⟨w.heap.size, 0, none⟩) 2 2) := by
 have hb := BL.new w 44 (rfL (nameL x 1, 0, 10) ++ rfL (nameL x 2, 0, 20))
 have hok : ∀ (y : UInt8) (n : Int), wfI n → okRf ((nameL x y, 0, n) : Rf) := fun y n hn => ⟨by show (nameL x y).length ≤ reachBytes; rw [nameL_len]; decide, rfl, hn⟩
 refine ⟨_, rfl, rfl, by decide, by decide, fun k hk => ?_⟩
 match k, hk with
 | 0, _ => exact ⟨_, 0, rfC (nameL x 1, 0, 10), rfl, fun j v hj => hb.all _ _ (by
   obtain ⟨h9, _⟩ := List.getElem?_eq_some_iff.1 hj
   rw [List.getElem?_append_left (show j < (rfL ((nameL x 1, 0, 10) : Rf)).length from h9)]; exact hj), rfl, hok 1 10 rfl⟩
 | 1, _ => exact ⟨_, 0, rfC (nameL x 2, 0, 20), rfl, fun j v hj => by
   have h8 := hb.all (3 + j) v (by rw [List.getElem?_append_right (by show 3 ≤ 3 + j; omega), show 3 + j - (rfL ((nameL x 1, 0, 10) : Rf)).length = j by show 3 + j - 3 = j; omega]; exact hj)
   rw [Nat.zero_add] at h8 ⊢
   exact h8, rfl, hok 2 20 rfl⟩
theorem blk_new {w : World} {A : Option Addr} {c g : Nat} {b : List UInt8} (h : BS w A 64 c b) (hz : BS w (some ⟨g, 0, none⟩) 64 64 (zeros 64)) : blkV b (w.alloc (.cells [.slice A 64 c, .slice (some ⟨g, 0, none⟩) 64 64].toArray 39)) (.slice (some ⟨w.heap.size, 0, none⟩) 2 2) := by
 have hx : Below w.heap.size w (w.alloc (.cells [.slice A 64 c, .slice (some ⟨g, 0, none⟩) 64 64].toArray 39)) := (Below.refl _ _).alloc (Nat.le_refl _) _
 have hb := BL.new w 39 [.slice A 64 c, .slice (some ⟨g, 0, none⟩) 64 64]
 refine ⟨_, rfl, rfl, by decide, by decide, fun k hk => ?_⟩
 match k, hk with
 | 0, _ => exact ⟨_, 0, A, 64, c, rfl, hb.get (j := 0) rfl, h.kept hx⟩
 | 1, _ => exact ⟨_, 0, _, 64, 64, rfl, hb.get (j := 1) rfl, hz.kept hx⟩
theorem rem_nat (i : Int) : ∃ k : Nat, (i.tmod 4 + 4).tmod 4 = (k : Int) ∧ k < 4 := by
 have h1 := Int.tmod_lt_of_pos i (show (0 : Int) < 4 by decide)
 have h2 : -4 < i.tmod 4 := by
  have h9 : -(i.tmod 4) = (-i).tmod 4 := (Int.neg_tmod i 4).symm
  have h8 := Int.tmod_lt_of_pos (-i) (show (0 : Int) < 4 by decide)
  omega
 have h3 : 0 ≤ (i.tmod 4 + 4).tmod 4 := Int.tmod_nonneg _ (by omega)
 have h4 := Int.tmod_lt_of_pos (i.tmod 4 + 4) (show (0 : Int) < 4 by decide)
 exact ⟨((i.tmod 4 + 4).tmod 4).toNat, by omega, by omega⟩
theorem rem_b (i : Int) : -4 < i.tmod 4 ∧ i.tmod 4 < 4 := by
 have h1 := Int.tmod_lt_of_pos i (show (0 : Int) < 4 by decide)
 have h9 : -(i.tmod 4) = (-i).tmod 4 := (Int.neg_tmod i 4).symm
 have h8 := Int.tmod_lt_of_pos (-i) (show (0 : Int) < 4 by decide)
 omega
theorem rem_w (i : Int) : IntKind.i64.wrap (i.tmod 4) = i.tmod 4 := IntWalk.i64_in _ (by have := rem_b i; omega)
theorem rem_w4 (i : Int) : IntKind.i64.wrap (i.tmod 4 + 4) = i.tmod 4 + 4 := IntWalk.i64_in _ (by have := rem_b i; omega)
/-- The pieces below m but k and w. -/
def othN (k w m : Nat) : List Nat := (List.range m).filter fun q => q != k && q != w
def othL (rows : List (List UInt8)) (k w m : Nat) : List Pe := (othN k w m).map (pieN rows)
theorem othL_yes {rows : List (List UInt8)} {k w m : Nat} (h1 : m ≠ k) (h2 : m ≠ w) : othL rows k w (m + 1) = othL rows k w m ++ [pieN rows m] := by
 unfold othL othN
 rw [List.range_succ, List.filter_append]
 simp [h1, h2]
theorem othL_no {rows : List (List UInt8)} {k w m : Nat} (h : m = k ∨ m = w) : othL rows k w (m + 1) = othL rows k w m := by
 unfold othL othN
 rw [List.range_succ, List.filter_append]
 rcases h with rfl | rfl <;> simp
theorem othN_two : ∀ k, k < 4 → ∀ w, w < 4 → ∃ j1 j2 js, othN k w 4 = j1 :: j2 :: js ∧ j1 < 4 ∧ j2 < 4 ∧ j1 ≠ j2 := by
 intro k hk w hw
 match k, hk, w, hw with
 | 0, _, 0, _ => exact ⟨1, 2, [3], rfl, by decide, by decide, by decide⟩
 | 0, _, 1, _ => exact ⟨2, 3, [], rfl, by decide, by decide, by decide⟩
 | 0, _, 2, _ => exact ⟨1, 3, [], rfl, by decide, by decide, by decide⟩
 | 0, _, 3, _ => exact ⟨1, 2, [], rfl, by decide, by decide, by decide⟩
 | 1, _, 0, _ => exact ⟨2, 3, [], rfl, by decide, by decide, by decide⟩
 | 1, _, 1, _ => exact ⟨0, 2, [3], rfl, by decide, by decide, by decide⟩
 | 1, _, 2, _ => exact ⟨0, 3, [], rfl, by decide, by decide, by decide⟩
 | 1, _, 3, _ => exact ⟨0, 2, [], rfl, by decide, by decide, by decide⟩
 | 2, _, 0, _ => exact ⟨1, 3, [], rfl, by decide, by decide, by decide⟩
 | 2, _, 1, _ => exact ⟨0, 3, [], rfl, by decide, by decide, by decide⟩
 | 2, _, 2, _ => exact ⟨0, 1, [3], rfl, by decide, by decide, by decide⟩
 | 2, _, 3, _ => exact ⟨0, 1, [], rfl, by decide, by decide, by decide⟩
 | 3, _, 0, _ => exact ⟨1, 2, [], rfl, by decide, by decide, by decide⟩
 | 3, _, 1, _ => exact ⟨0, 2, [], rfl, by decide, by decide, by decide⟩
 | 3, _, 2, _ => exact ⟨0, 1, [], rfl, by decide, by decide, by decide⟩
 | 3, _, 3, _ => exact ⟨0, 1, [2], rfl, by decide, by decide, by decide⟩
theorem othN_len (k w : Nat) : (othN k w 4).length ≤ 4 := Nat.le_trans (List.length_filter_le _ _) (by decide)
/-- Refilled from the others: the tokens of the piece itself. -/
theorem rfi_oth (x : UInt8) {b : List UInt8} (hb : b.length = 64) {k w : Nat} (hk : k < 4) (hw : w < 4) :
  rfiV (keysK x) (spR x b) (k : Int) (othL (rwB b) k w 4) 3 2 = (tksV (keysK x) (pieN (rwB b) k).id (pieN (rwB b) k).da (pieN (rwB b) k).ix (pieN (rwB b) k).da.length 3 2, 0) := by
 obtain ⟨j1, j2, js, e, h1, h2, h3⟩ := othN_two k hk w hw
 unfold othL
 rw [e]
 exact rfi_two x hb h1 h2 h3 js hk
theorem bslPe0 (w : World) : (Instr.buildSlice 27 0 #[]).run Tryz.prog w = .ok (.slice (some ⟨w.heap.size, 0, none⟩) 0 0) (w.alloc (.cells ([] : List Value).toArray 48)) := by kernel_rfl
end Go.Proofs.YtfcakjpljjnjnaaGreatDoor
