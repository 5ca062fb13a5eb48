/- Several texts in one: Bg. -/
import Derived.Test.YtfcakjpljjnjnaaGreatDoorC38
/- What stripe.restore and the reference's Whole return, plainly; slices for them. -/
namespace Go.Proofs.YtfcakjpljjnjnaaGreatDoor
open Go Go.RowKit Go.Shelf Gf Sha

/-- The pieces that are taken, as long as there are too few. -/
def tkR (s : Sp) : List Int × List (List UInt8) → List Pe → List Int × List (List UInt8)
 | st, [] => st
 | st, p :: r => if (st.2.length : Int) = s.d then st else tkR s (tkS s st p) r
structure TkOk (s : Sp) (st : List Int × List (List UInt8)) : Prop where
 len : st.1.length = st.2.length
 nd : st.1.Nodup
 rg : ∀ i ∈ st.1, 0 ≤ i ∧ i < s.t
 ln : ∀ x ∈ st.2, (x.length : Int) = s.b ∧ 1 ≤ x.length ∧ x.length ≤ 65536
 le : (st.2.length : Int) ≤ s.d
theorem verP_spec {p : Pe} (h : verP p = true) : 0 ≤ p.ix ∧ p.ix < (p.sm.length : Int) ∧ 1 ≤ p.da.length ∧ p.da.length ≤ 65536 := by
 unfold verP at h
 simp only [Bool.and_eq_true, decide_eq_true_eq] at h
 omega
theorem sfi_spec {s : Sp} {p : Pe} (h : sfiB s p = true) : p.id = s.id ∧ 0 ≤ p.ix ∧ p.ix < s.t ∧ (p.da.length : Int) = s.b ∧ 1 ≤ p.da.length ∧ p.da.length ≤ 65536 := by
 unfold sfiB at h
 simp only [Bool.and_eq_true, decide_eq_true_eq] at h
 have := verP_spec h.2.2.2
 exact ⟨h.1, by omega, by omega, h.2.2.1, by omega, by omega⟩
theorem TkOk.step {s : Sp} {st : List Int × List (List UInt8)} {p : Pe} (h : TkOk s st) (hn : (st.2.length : Int) ≠ s.d) : TkOk s (tkS s st p) := by
 unfold tkS
 split
 ·
  rename_i hc
  rw [Bool.and_eq_true, Bool.not_eq_true'] at hc
  obtain ⟨_, h1, h2, h3, h4, h5⟩ := sfi_spec hc.2
  have hle := h.le
  refine ⟨by simp [h.len], ?_, fun i hi => ?_, fun x hx => ?_, by simp; omega⟩
  ·
   rw [List.nodup_append]
   refine ⟨h.nd, by simp, fun a ha b hb => ?_⟩
   rw [List.mem_singleton.1 hb]
   intro e
   have := hc.1
   rw [← e] at this
   simp at this
   exact this ha
  ·
   rcases List.mem_append.1 hi with h9 | h9
   ·
    exact h.rg i h9
   ·
    rw [List.mem_singleton.1 h9]; exact ⟨h1, h2⟩
  ·
   rcases List.mem_append.1 hx with h9 | h9
   ·
    exact h.ln x h9
   ·
    rw [List.mem_singleton.1 h9]; exact ⟨h3, h4, h5⟩
 ·
  exact h
theorem TkOk.run {s : Sp} : ∀ (r : List Pe) {st : List Int × List (List UInt8)}, TkOk s st → TkOk s (tkR s st r)
 | [], _, h => h
 | p :: r, st, h => by
  unfold tkR
  split
  ·
   exact h
  ·
   rename_i hn; exact TkOk.run r (h.step hn)
theorem TkOk.nil {s : Sp} (h : 0 ≤ s.d) : TkOk s ([], []) := ⟨rfl, List.nodup_nil, fun i hi => (by cases hi), fun x hx => (by cases hx), by simpa using h⟩
/-- Enough pieces, as Reconstruct wants them. -/
structure Gvn (d t L : Nat) (z : List Nat) (m : List (List UInt8)) : Prop where
 d1 : 1 ≤ d
 d8 : d ≤ 8
 dt : d ≤ t
 t16 : t ≤ 16
 zl : z.length = d
 ml : m.length = d
 rect : Rect m L
 L1 : 1 ≤ L
 L6 : L ≤ 65536
 gv : gvE d t (ints z) m = 0
 z16 : ∀ i, i < d → gN z i < 16
 reg : Reg d z
 eq : refRec d z m L = recM d z m L
 nd : (z.take d).Nodup
 z16' : ∀ r ∈ z.take d, r < 16
theorem TkOk.gvn {s : Sp} {st : List Int × List (List UInt8)} (h : TkOk s st) (hv : cdB s.d s.t = true) (hf : (st.2.length : Int) = s.d) :
  st.1 = ints (st.1.map Int.toNat) ∧ s.d = (s.d.toNat : Int) ∧ s.t = (s.t.toNat : Int) ∧ s.b = (s.b.toNat : Int) ∧ Gvn s.d.toNat s.t.toNat s.b.toNat (st.1.map Int.toNat) st.2 := by
 unfold cdB at hv
 simp only [Bool.and_eq_true, decide_eq_true_eq] at hv
 have hl := h.len
 obtain ⟨d, hd⟩ : ∃ d : Nat, s.d = (d : Int) := ⟨s.d.toNat, by omega⟩
 obtain ⟨t, ht⟩ : ∃ t : Nat, s.t = (t : Int) := ⟨s.t.toNat, by omega⟩
 have hne : 0 < st.2.length := by omega
 have h0 := h.ln _ (List.getElem_mem hne)
 obtain ⟨L, hL⟩ : ∃ L : Nat, s.b = (L : Int) := ⟨s.b.toNat, by omega⟩
 have hz : st.1 = ints (st.1.map Int.toNat) := by
  unfold ints
  rw [List.map_map]
  conv => lhs; rw [← List.map_id st.1]
  refine List.map_congr_left (fun i hi => ?_)
  have := (h.rg i hi).1
  simp; omega
 rw [hd, ht, hL]
 have e1 : ((d : Int)).toNat = d := Int.toNat_natCast d
 have e2 : ((t : Int)).toNat = t := Int.toNat_natCast t
 have e3 : ((L : Int)).toNat = L := Int.toNat_natCast L
 rw [e1, e2, e3]
 refine ⟨hz, rfl, rfl, rfl, ?_⟩
 obtain ⟨z, hze⟩ : ∃ z, z = st.1.map Int.toNat := ⟨_, rfl⟩
 rw [← hze] at hz ⊢
 have hzl : z.length = d := by rw [hze, List.length_map]; omega
 have hml : st.2.length = d := by omega
 have hrow : ∀ i, i < st.2.length → (gR st.2 i).length = L ∧ 1 ≤ L ∧ L ≤ 65536 := fun i hi => by
  have := h.ln _ (List.getElem_mem hi)
  rw [gR_eq hi]
  omega
 have hrect : Rect st.2 L := fun i hi => (hrow i hi).1
 have hL6 := hrow 0 hne
 have hlt : ∀ i, i < d → gN z i < t := fun i hi => by
  have hi' : i < st.1.length := by omega
  have h9 := h.rg _ (List.getElem_mem hi')
  rw [ht] at h9
  rw [gN_eq (by omega)]
  have e : z[i]'(by omega) = (st.1[i]).toNat := by simp [hze]
  rw [e]; omega
 have hnd : z.Nodup := by
  have h9 := h.nd
  rw [hz] at h9
  unfold ints at h9
  unfold List.Nodup at h9 ⊢
  rw [List.pairwise_map] at h9
  exact h9.imp (fun hab e => hab (by rw [e]))
 have htk : z.take d = z := List.take_of_length_le (by omega)
 have hz16 : ∀ r ∈ z.take d, r < 16 := fun r hr => by
  rw [htk] at hr
  obtain ⟨i, hi, rfl⟩ := List.getElem_of_mem hr
  have := hlt i (by omega)
  rw [gN_eq hi] at this
  omega
 have hgv : gvE (d : Int) (t : Int) (ints z) st.2 = 0 := by
  unfold gvE ixE
  have v1 : vldB (d : Int) (t : Int) = true := vld_iff.2 ⟨by omega, by omega, by omega, by omega⟩
  have v2 : idxB (t : Int) (ints z) = true := idxB_true (fun i hi => by
   rw [ints_length] at hi
   unfold idxOk
   rw [gI_ints hi, decide_eq_true (by omega), decide_eq_true (by have := hlt i (by omega); omega), Bool.true_and, Bool.true_and, Bool.not_eq_true', List.any_eq_false]
   intro j hj
   have hj' := List.mem_range.1 hj
   rw [gI_ints (by omega)]
   have h9 := (List.pairwise_iff_getElem.1 hnd) j i (by omega) hi hj'
   rw [gN_eq (by omega), gN_eq hi]
   simp only [beq_iff_eq]
   omega)
  have v3 : e8oneB st.2 = true := oneB_true (fun i hi => by
   unfold okRow
   have := hrow i hi
   have := hrow 0 hne
   exact decide_eq_true ⟨by omega, by omega, by omega⟩)
  rw [v1, v2]
  rw [if_pos (by rfl), if_pos ⟨by rw [ints_length]; omega, v3⟩, if_neg (by rw [ints_length]; omega)]
 exact ⟨by omega, by omega, by omega, by omega, hzl, hml, hrect, hL6.2.1, hL6.2.2, hgv, fun i hi => by have := hlt i hi; omega, reg_all (by rw [htk]; exact hnd) hz16 (by omega) (by omega), refRec_eq (by rw [htk]; exact hnd) hz16 (by omega) (by omega) hrect (by omega), by rw [htk]; exact hnd, hz16⟩
def zerB (x : List UInt8) : Bool := x.all (fun b => decide (b = 0))
/-- What restore returns: its error, its pieces. -/
def resE (s : Sp) (ps : List Pe) : Int × List Pe :=
 let st := tkR s ([], []) ps
 if (st.2.length : Int) < s.d then (10, [])
 else
  let m := recM s.d.toNat (st.1.map Int.toNat) st.2 s.b.toNat
  if (m.drop s.refs.length).all zerB then
   let rows := encM s.d.toNat s.t.toNat m s.b.toNat
   if rt (sumsL rows) = s.id then (0, pcsL rows) else (9, [])
  else (9, [])
theorem any_nz (x : List UInt8) : (List.range x.length).any (fun k => !decide (gB x k = 0)) = !zerB x := by
 have h : (List.range x.length).any (fun k => !decide (gB x k = 0)) = x.any (fun b => !decide (b = 0)) := by
  rw [Bool.eq_iff_iff, List.any_eq_true, List.any_eq_true]
  constructor
  ·
   rintro ⟨k, hk, h⟩
   have hk' := List.mem_range.1 hk
   exact ⟨x[k], List.getElem_mem hk', by rw [gB_eq hk'] at h; exact h⟩
  ·
   rintro ⟨s, hs, h⟩
   obtain ⟨k, hk, rfl⟩ := List.getElem_of_mem hs
   exact ⟨k, List.mem_range.2 hk, by rw [gB_eq hk]; exact h⟩
 rw [h, zerB, List.not_all_eq_any_not]
def cutM (A : Option Addr) (c k m : Nat) : Option Addr := if c = k then A else A.map (·.add (k * m))
section
variable {P : Program} {w : World} {o : Oper} {a : Act}
theorem exec_cutM (s lo : Operand) (ty te : TypeId) (m : Nat) (hop : o.op = .slice ty s (some lo) none none) (hu : P.underlying ty = some (.slice te)) (h2 : (sizeOf te).run P w = .ok m w)
  (A : Option Addr) (n c k : Nat) (hs : a.eval s = .slice A n c) (hlo : a.eval lo = .int .i64 (k : Int)) (hk : k ≤ n) : (execOp a.eval o).run P w = .ok (.value (.slice (cutM A c k m) (n - k) (c - k))) w := by
 unfold execOp
 simp only [hop, Option.map_some, Option.map_none, hs, hlo]
 simp [Instr.sliceAt, Instr.slice, run_underlying hu, Instr.sliceBounds, Instr.sliceBound, asIntOf, hk, h2, Result.andThen]
 rfl
theorem exec_preM (s hi : Operand) (ty te : TypeId) (m : Nat) (hop : o.op = .slice ty s none (some hi) none) (hu : P.underlying ty = some (.slice te)) (h2 : (sizeOf te).run P w = .ok m w)
  (A : Option Addr) (n c k : Nat) (hs : a.eval s = .slice A n c) (hlo : a.eval hi = .int .i64 (k : Int)) (hk : k ≤ n) (hc : n ≤ c) : (execOp a.eval o).run P w = .ok (.value (.slice A k c)) w := by
 unfold execOp
 simp only [hop, Option.map_some, Option.map_none, hs, hlo]
 have h3 : k ≤ c := by omega
 simp [Instr.sliceAt, Instr.slice, run_underlying hu, Instr.sliceBounds, Instr.sliceBound, asIntOf, h3, h2, Result.andThen]
 intro _
 cases A <;> simp [Addr.add]
theorem wp_valu {K : Act → World → Prop} {Q : Exit → Act → World → Prop} {v : Value} (h : (execOp a.eval o).run P w = .ok (.value v) w) (hK : K (a.put o.dst v) w) : o.wp P a w K Q := by
 unfold Oper.wp
 rw [h]
 exact hK
end
theorem wpList_cutM {P : Program} {w : World} {ops : Array Oper} {rest : List Oper} {o : Oper} {a : Act} {Q : Exit → Act → World → Prop} (hg : o.guard = none) (s lo : Operand) (ty te : TypeId) (m : Nat) (hop : o.op = .slice ty s (some lo) none none) (hu : P.underlying ty = some (.slice te)) (h2 : (sizeOf te).run P w = .ok m w)
  (A : Option Addr) (n c k : Nat) (hs : a.eval s = .slice A n c) (hlo : a.eval lo = .int .i64 (k : Int)) (hk : k ≤ n) (A2 : Option Addr) (n2 c2 : Nat) (e1 : A2 = cutM A c k m) (e2 : n2 = n - k) (e3 : c2 = c - k) (h : wpList P ops Q rest (a.put o.dst (.slice A2 n2 c2)) w) : wpList P ops Q (o :: rest) a w := by
 subst e1 e2 e3
 exact wpList_plain hg fun _ hK => wp_valu (exec_cutM s lo ty te m hop hu h2 A n c k hs hlo hk) (hK _ _ h)
theorem wpList_preM {P : Program} {w : World} {ops : Array Oper} {rest : List Oper} {o : Oper} {a : Act} {Q : Exit → Act → World → Prop} (hg : o.guard = none) (s hi : Operand) (ty te : TypeId) (m : Nat) (hop : o.op = .slice ty s none (some hi) none) (hu : P.underlying ty = some (.slice te)) (h2 : (sizeOf te).run P w = .ok m w)
  (A : Option Addr) (n c k : Nat) (hs : a.eval s = .slice A n c) (hlo : a.eval hi = .int .i64 (k : Int)) (hk : k ≤ n) (hc : n ≤ c) (h : wpList P ops Q rest (a.put o.dst (.slice A k c)) w) : wpList P ops Q (o :: rest) a w :=
 wpList_plain hg fun _ hK => wp_valu (exec_preM s hi ty te m hop hu h2 A n c k hs hlo hk hc) (hK _ _ h)
theorem MS.cutM {n c : Nat} {w : World} {A : Option Addr} {m : List (List UInt8)} (h : MS w A n c m) {k : Nat} (hk : k ≤ n) : MS w (cutM A c k 1) (n - k) (c - k) (m.drop k) := by
 have hl := h.1
 refine ⟨by rw [List.length_drop, h.1], by have := h.2.1; omega, Nat.le_trans (Nat.mul_le_mul_right _ (Nat.sub_le _ _)) h.2.2.1, fun j hj => ?_⟩
 obtain ⟨g', o', A', n', c', e, h1, h2⟩ := h.2.2.2 (k + j) (by omega)
 have hc := h.2.1
 refine ⟨g', o' + k * 1, A', n', c', ?_, ?_, ?_⟩
 ·
  unfold Proofs.YtfcakjpljjnjnaaGreatDoor.cutM
  rw [if_neg (by omega), e, Option.map_some, addr_add]
 ·
  rw [Nat.mul_one, Nat.add_assoc]; exact h1
 ·
  have e9 : gR (m.drop k) j = gR m (k + j) := by
   rw [gR_eq (by rw [List.length_drop]; omega), gR_eq (by omega), List.getElem_drop]
  rw [e9]; exact h2
theorem LS.to_is {w : World} {A : Option Addr} {n c : Nat} {m : List Int} (h : LS rInt 1 8 w A n c m) : IS w A n c m :=
 ⟨h.1, h.2.1, h.2.2.1, fun k hk => by
  obtain ⟨x, g, o, hx, e, hc⟩ := h.int_at (Below.refl _ _) hk
  have hg : gI m k = x := by rw [gI, List.getD_eq_getElem?_getD, hx]; rfl
  exact ⟨g, o, e, by show _ = some (Value.int IntKind.i64 (gI m k)); rw [hg]; exact hc⟩⟩
theorem LS.to_ms {w : World} {A : Option Addr} {n c : Nat} {m : List (List UInt8)} (h : LS rBs 1 24 w A n c m) : MS w A n c m :=
 ⟨h.1, h.2.1, h.2.2.1, fun k hk => by
  have hk' : k < m.length := by rw [h.1]; exact hk
  obtain ⟨g, o, cs, e, hat, A', n', c', rfl, hb⟩ := h.2.2.2 k hk'
  exact ⟨g, o, A', n', c', e, by have h9 := hat 0 _ rfl; rw [Nat.mul_one] at h9; exact h9, by rw [gR_eq hk']; exact hb⟩⟩
end Go.Proofs.YtfcakjpljjnjnaaGreatDoor
