/- Several texts in one: Kf, Kg, Kh, Ki, Kj. -/
import Derived.Test.YtklfficlegfhjaaGreatC16
import Derived.Test.YtklfficlegfhjaaGreatC9
/- Assign: its sizes, and what it does with an assignment. -/
namespace Go.Proofs.YtklfficlegfhjaaGreat
open Go Go.RowKit Go.Shelf Go.WideMaps Go.ChangeMaps Gf Sha

/-! ### slices.Compare of ints -/
def cmpI : List Int → List Int → Int
 | x :: a, y :: b => if Lib.compareInt x y = 0 then cmpI a b else Lib.compareInt x y
 | _, _ => 0
theorem cmpI_gt : ∀ {a b : List Int}, a.length = b.length → decide (cmpI a b > 0) = greaterB a b
 | [], [], _ => rfl
 | [], _ :: _, h => by simp at h
 | _ :: _, [], h => by simp at h
 | x :: a, y :: b, h => by
  unfold cmpI greaterB
  by_cases e : x = y
  ·
   subst e
   rw [if_pos (by simp [Lib.compareInt]), if_pos rfl]
   exact cmpI_gt (by simpa using h)
  ·
   rw [if_neg e]
   by_cases h1 : x < y
   ·
    rw [if_neg (by simp [Lib.compareInt, h1])]
    have h2 : ¬ y < x := by omega
    simp [Lib.compareInt, h1, h2]
   ·
    have h2 : y < x := by omega
    rw [if_neg (by simp [Lib.compareInt, h1, h2])]
    simp [Lib.compareInt, h1, h2]
set_option maxRecDepth 100000 in
set_option maxHeartbeats 2000000 in
theorem compare_any (A : Option Addr) (n c : Nat) (a : List Int) (B : Option Addr) (d : Nat) (b : List Int) (w : World) (ha : LS rInt 1 8 w A n c a) (hb : LS rInt 1 8 w B n d b) :
  Calls Tryz.prog 58 #[.slice A n c, .slice B n d] w fun e w' => e = .returned (.int .i64 (cmpI a b)) ∧ w' = w := by
 have hn := ha.len_le
 have HA := Lib.hid ha
 have HB := Lib.hid hb
 have HLA := Lib.hid ha.1
 have HLB := Lib.hid hb.1
 clear ha hb
 go_enter Tryz.func58, Tryz.ntmps58
 go_wp2_with fail
 go_loopw [11] (fun iv wr => w = wr ∧ ∃ k : Nat, k ≤ n ∧ iv = .int .i64 (k : Int) ∧ Hid (cmpI a b = cmpI (a.drop k) (b.drop k))) (fun iv _ => n - (intOf iv).toNat)
 case atStart => exact ⟨rfl, 0, by omega, rfl, Lib.hid (by rw [List.drop_zero, List.drop_zero])⟩
 case round =>
  obtain ⟨rfl, k, hk, rfl, hc⟩ := hrel
  by_cases hlt : k < n
  ·
   obtain ⟨x, g, o, hx, ea, cx⟩ := HA.out.int_at (Below.refl _ _) hlt
   obtain ⟨y, g', o', hy, eb, cy⟩ := HB.out.int_at (Below.refl _ _) hlt
   subst ea
   subst eb
   have e1 : a.drop k = x :: a.drop (k + 1) := by
    obtain ⟨hl, rfl⟩ := List.getElem?_eq_some_iff.1 hx
    exact List.drop_eq_getElem_cons hl
   have e2 : b.drop k = y :: b.drop (k + 1) := by
    obtain ⟨hl, rfl⟩ := List.getElem?_eq_some_iff.1 hy
    exact List.drop_eq_getElem_cons hl
   obtain ⟨r, hr⟩ : ∃ r, r = Lib.compareInt x y := ⟨_, rfl⟩
   have HR := Lib.hid hr
   have HC : Hid (cmpI a b = if r = 0 then cmpI (a.drop (k + 1)) (b.drop (k + 1)) else r) := Lib.hid (by rw [hc.out, e1, e2, hr]; rfl)
   clear hx hy e1 e2 hr
   by_cases h0 : r = 0
   ·
    have f1 : (r != 0) = false := by rw [h0]; rfl
    have HC2 : Hid (cmpI a b = cmpI (a.drop (k + 1)) (b.drop (k + 1))) := Lib.hid (by rw [HC.out, if_pos h0])
    clear h0
    go_wp2_with (first
     | (go_at_call 70; refine (Compare_int x y w).mono ?_; rintro e w2 ⟨rfl, hw⟩; rw [hw, ← HR.out]; clear hw w2))
    go_roundw
    case rel => exact ⟨trivial, k + 1, by omega, by go_num, HC2⟩
    case measure => simp [intOf]; omega
   ·
    have f1 : (r != 0) = true := by rw [bne_iff_ne]; exact h0
    have HC2 : Hid (cmpI a b = r) := Lib.hid (by rw [HC.out, if_neg h0])
    clear h0
    go_wp2_with (first
     | (go_at_call 70; refine (Compare_int x y w).mono ?_; rintro e w2 ⟨rfl, hw⟩; rw [hw, ← HR.out]; clear hw w2))
    go_ret
    exact ⟨by rw [HC2.out]; rfl, rfl⟩
  ·
   obtain rfl : k = n := by omega
   have HC2 : Hid (cmpI a b = 0) := Lib.hid (by rw [hc.out, List.drop_eq_nil_of_le (show a.length ≤ k by rw [HLA.out]; exact Nat.le_refl _), List.drop_eq_nil_of_le (show b.length ≤ k by rw [HLB.out]; exact Nat.le_refl _)]; rfl)
   go_wp2_with fail
   go_ret
   exact ⟨by rw [HC2.out]; rfl, rfl⟩

/-! ### copy of one-celled values, block to block -/
section
variable {P : Program} (w : World)
theorem run_copyV {ty te rt : TypeId} (hu : P.underlying ty = some (.slice te)) (hsz : (match P.info? te with | some i => i.size == 1 | none => false) = true)
  {g m mc : Nat} {tb : TypeId} {l : List Value} (hb : BL w g tb l) {gs c : Nat} {ts : TypeId} {xs : List Value} (hs : BL w gs ts xs) (h1 : ∀ v ∈ xs, v.oneCell' = true) (hm : l.length = m) (hx : xs.length = m) :
  ∃ w', (Builtin.copy_ #[ty, ty] rt #[.slice (some ⟨g, 0, none⟩) m mc, .slice (some ⟨gs, 0, none⟩) m c]).run P w = .ok (.int .i64 (m : Int)) w' ∧ BL w' g tb xs ∧ Kp (· = g) w w' ∧ w'.heap.size = w.heap.size := by
 have h2 : (sizeOf te).run P w = .ok 1 w := by
  cases hi : P.info? te with
  | none => simp [hi] at hsz
  | some i => simp [hi] at hsz; simp [sizeOf, typeInfo, hi, hsz]
 obtain ⟨w', hr, hb', hk, hz⟩ := run_storeCells (P := P) xs h1 0 m 0 l w (by omega) hb (by omega)
 have e9 : l.take (0 + 0) ++ xs.drop 0 ++ l.drop (0 + xs.length) = xs := by
  have h0 : l.drop (0 + xs.length) = [] := List.drop_eq_nil_of_le (by omega)
  rw [h0]; simp
 rw [e9] at hb'
 refine ⟨w', ?_, hb', hk, hz⟩
 have hf : (Builtin.firstCells 1 m (.slice (some ⟨gs, 0, none⟩) m c)).run P w = .ok xs.toArray w := by
  have hl := run_loadCells_list (P := P) w ⟨gs, 0, none⟩ xs (fun j v hv => by
   rw [addr_add]
   simpa using hs.get hv)
  rw [hx] at hl
  simp [Builtin.firstCells, hl]
 rw [List.drop_zero] at hr
 have e1 : Nat.min m m = m := Nat.min_self m
 simp [Builtin.copy_, run_underlying hu, Builtin.lenOf, e1, h2, hf, hr, goInt, Result.andThen]
theorem wp_copyV {o : Oper} {a : Act} {Q : Exit → Act → World → Prop} {K : Act → World → Prop} (s x : Operand) (ty te : TypeId) (hop : o.op = .call { callee := .builtin .copy, args := #[s, x], argTypes := #[ty, ty] })
  (hu : P.underlying ty = some (.slice te)) (hsz : (match P.info? te with | some i => i.size == 1 | none => false) = true)
  (g m mc : Nat) (tb : TypeId) (l : List Value) (hs : a.eval s = .slice (some ⟨g, 0, none⟩) m mc) (hb : BL w g tb l) (gs c : Nat) (ts : TypeId) (xs : List Value) (hx : a.eval x = .slice (some ⟨gs, 0, none⟩) m c) (hxs : BL w gs ts xs) (h1 : ∀ v ∈ xs, v.oneCell' = true) (hm : l.length = m) (hxl : xs.length = m)
  (h : ∀ w', BL w' g tb xs → Kp (· = g) w w' → w'.heap.size = w.heap.size → K (a.put o.dst (.int .i64 (m : Int))) w') : o.wp P a w K Q := by
 obtain ⟨w', hr, h2, h3, h4⟩ := run_copyV w (rt := o.type) hu hsz hb (mc := mc) (c := c) hxs h1 hm hxl
 unfold Oper.wp execOp
 simp only [hop, resolve, invoke, builtin, Sem.run_bind, Sem.run_pure, Result.andThen_ok, List.map_toArray, List.map_cons, List.map_nil, hs, hx, hr]
 exact h w' h2 h3 h4
end
section
set_option maxRecDepth 100000
set_option maxHeartbeats 4000000
theorem asizes_any {W0 W : World} {T : Nat → Prop} {x : SX} {ws : List Wt} {H : List Hd} {ps : List Pl} {left : List Int} {n : Nat} (hC : SrC W0 T x ws H ps) (hV : SrV W0 W T x ws H left n) (sp : Nat) (hsp : BL W sp 94 [.pointer (some ⟨x.g, 0, none⟩)]) (i : Nat) (w : Wt) (hi : ws[i]? = some w) (fr : Nat) (_h8 : ws.length ≤ 8) :
  Calls Tryz.prog 55 #[.int .i64 (i : Int), .int .i64 (fr : Int), .pointer (some ⟨sp, 0, none⟩)] W fun e W' => e = .returned (.tuple #[.int .i64 (sizesP ps none w (fr : Int)).1, .int .i64 (sizesP ps none w (fr : Int)).2]) ∧ Below W.heap.size W W' := by
 have hilt : i < ws.length := (List.getElem?_eq_some_iff.1 hi).1
 have hiI : (i : Int) < (ws.length : Int) := by omega
 obtain ⟨mi, gm, om, cs1, hmi, em, hatm, Ai, ni, ci, rfl, hli⟩ := LS.elem_at (hC.mi W hV.kp) hilt
 have hmi2 : mi = withoutL w ps := by
  rw [List.getElem?_map, hi] at hmi
  simpa using hmi.symm
 have HNI : Hid (ni = (withoutL w ps).length) := Lib.hid (by rw [← hmi2]; exact hli.1.symm)
 have q0 : W.drew.cell? ⟨sp, 0, none⟩ = some (.pointer (some ⟨x.g, 0, none⟩)) := hsp.get (j := 0) rfl
 have q3 : W.drew.cell? ⟨x.g, 4, none⟩ = some (.slice (some ⟨gm, om, none⟩) ws.length x.cm) := by rw [← em]; exact hV.bg.get (j := 4) rfl
 have q5 : W.drew.cell? ⟨gm, om + i, none⟩ = some (.slice Ai ni ci) := by
  have h9 := hatm 0 _ rfl
  rw [Nat.mul_one] at h9
  exact h9
 clear hC hV hsp hi hmi em hatm hli hmi2
 go_enter Tryz.func55, Tryz.ntmps55
 go_wp2_with fail
 refine Text.wp_region_text (fun _ => True) [(0, 4), (5, 4), (10, 4), (1, 1), (2, 4), (3, 4), (4, 1), (6, 4), (7, 1), (8, 4), (9, 4), (11, 4)] (by kernel_rfl) (by kernel_rfl) (fun _ _ _ _ _ h => h) (trivial) ?_
 iterate 3 (refine Text.purek rfl rfl (fun K hK => ⟨_, fun w' => by go_simp <;> rfl, ?_⟩); go_simp; refine hK _ ?_; clear hK K)
 (refine Text.readk rfl rfl (fun K hK => ⟨_, by go_simp <;> rfl, ?_⟩); go_simp; refine hK _ ?_; clear hK K)
 iterate 2 (refine Text.purek rfl rfl (fun K hK => ⟨_, fun w' => by go_simp <;> rfl, ?_⟩); go_simp; refine hK _ ?_; clear hK K)
 (refine Text.readk rfl rfl (fun K hK => ⟨_, by go_simp <;> rfl, ?_⟩); go_simp; refine hK _ ?_; clear hK K)
 (refine Text.purek rfl rfl (fun K hK => ⟨_, fun w' => by go_simp <;> rfl, ?_⟩); go_simp; refine hK _ ?_; clear hK K)
 (refine Text.readk rfl rfl (fun K hK => ⟨_, by go_simp <;> rfl, ?_⟩); go_simp; refine hK _ ?_; clear hK K)
 iterate 3 (refine Text.purek rfl rfl (fun K hK => ⟨_, fun w' => by go_simp <;> rfl, ?_⟩); go_simp; refine hK _ ?_; clear hK K)
 refine Text.done ?_
 go_wp2_with fail
 go_ret2
 exact ⟨by show _ = Ending.returned (.tuple #[.int .i64 0, .int .i64 (min (fr : Int) ((withoutL w ps).length : Int))]); rw [← HNI.out]; rfl, (Below.refl _ _).drew⟩
end
/-- What Assign has found so far. -/
def XA (gch gbe nw : Nat) (ws : List Wt) (ps : List Pl) : Option (List (List Int)) → (Nat → Prop) → World → Prop
 | none, R, W => BL W gch 97 [.slice none 0 0] ∧ BL W gbe 39 [.slice none 0 0] ∧ R gch ∧ R gbe
 | some b, R, W => ∃ gq A c, BL W gch 97 [.slice (some ⟨gq, 0, none⟩) nw nw] ∧ Chs W gq nw R b ∧ BL W gbe 39 [.slice A nw c] ∧ LS rInt 1 8 W A nw c (surpP ps (ws.zip b)) ∧ (∀ k o, A = some ⟨k, o, none⟩ → R k ∧ k < W.heap.size) ∧ R gch ∧ R gbe ∧ R gq ∧ b.length = nw
section
variable {gch gbe nw : Nat} {ws : List Wt} {ps : List Pl}
theorem XA.kp {s : Option (List (List Int))} {R S : Nat → Prop} {W W' : World} (h : XA gch gbe nw ws ps s R W) (hk : Kp S W W') (hn : ∀ b, R b → ¬ S b) : XA gch gbe nw ws ps s R W' := by
 cases s with
 | none => exact ⟨hk.bl h.1 (hn _ h.2.2.1), hk.bl h.2.1 (hn _ h.2.2.2), h.2.2⟩
 | some b =>
  obtain ⟨gq, A, c, h1, h2, h3, h4, h5, h6, h7, h8, h9⟩ := h
  exact ⟨gq, A, c, hk.bl h1 (hn _ h6), h2.kp hk (hn _ h8) hn, hk.bl h3 (hn _ h7), h4.kpB hk (fun k o e => hn k (h5 k o e).1), fun k o e => ⟨(h5 k o e).1, Nat.lt_of_lt_of_le (h5 k o e).2 hk.size⟩, h6, h7, h8, h9⟩
theorem XA.mono {s : Option (List (List Int))} {R R' : Nat → Prop} {W : World} (h : XA gch gbe nw ws ps s R W) (hm : ∀ b, R b → b < W.heap.size → R' b) : XA gch gbe nw ws ps s R' W := by
 cases s with
 | none => exact ⟨h.1, h.2.1, hm _ h.2.2.1 h.1.lt, hm _ h.2.2.2 h.2.1.lt⟩
 | some b =>
  obtain ⟨gq, A, c, h1, h2, h3, h4, h5, h6, h7, h8, h9⟩ := h
  exact ⟨gq, A, c, h1, h2.mono hm, h3, h4, fun k o e => ⟨hm _ (h5 k o e).1 (h5 k o e).2, (h5 k o e).2⟩, hm _ h6 h1.lt, hm _ h7 h3.lt, hm _ h8 (by obtain ⟨csv, hb, _⟩ := h2; exact hb.lt), h9⟩
end
end Go.Proofs.YtklfficlegfhjaaGreat
/- Assign: what it does with an assignment. -/
namespace Go.Proofs.YtklfficlegfhjaaGreat
open Go Go.RowKit Go.Shelf Go.WideMaps Go.ChangeMaps Gf Sha

theorem eqNil_is (a : Addr) (n c : Nat) (w : World) : (binOp .eql 97 (.slice (some a) n c) (.slice none 0 0)).run Tryz.prog w = .ok (.bool false) w := Lib.run_eql_slice_nil w _ _ (some a) n c 0 0 Tryz.underlying97
theorem eqNil0_is (n c : Nat) (w : World) : (binOp .eql 97 (.slice none n c) (.slice none 0 0)).run Tryz.prog w = .ok (.bool true) w := Lib.run_eql_slice_nil w _ _ none n c 0 0 Tryz.underlying97
theorem szIss : (Tryz.prog.info? 97).map (·.size) = some 1 := by kernel_rfl
theorem hszIs : (match Tryz.prog.info? 39 with | some i => i.size == 1 | none => false) = true := by kernel_rfl
theorem chs_one {W : World} {gc nw : Nat} {R : Nat → Prop} {cs : List (List Int)} {csv : List Value} (_h : BL W gc 39 csv) (hl : csv.length = nw) (hcl : cs.length = nw) (hc : ∀ (j : Nat) (d : List Int), cs[j]? = some d → ∃ A n c, csv[j]? = some (.slice A n c) ∧ LS rInt 1 8 W A n c d ∧ ∀ b o, A = some ⟨b, o, none⟩ → R b ∧ b < W.heap.size) : ∀ v ∈ csv, v.oneCell' = true := fun v hv => by
 obtain ⟨j, hj, rfl⟩ := List.getElem_of_mem hv
 obtain ⟨A, n, c, e, _⟩ := hc j cs[j] (List.getElem?_eq_getElem (by omega))
 rw [List.getElem?_eq_getElem hj] at e
 rw [Option.some.inj e]; rfl
section
set_option maxRecDepth 100000
set_option maxHeartbeats 4000000
theorem afound_any {W0 W : World} {T R : Nat → Prop} {x : SX} {ws : List Wt} {H : List Hd} {ps : List Pl} {left : List Int} {n : Nat} (hC : SrC W0 T x ws H ps) (hV : SrV W0 W T x ws H left n) (cs : List (List Int)) (hcl : cs.length = ws.length) (hCs : Chs W x.gc ws.length R cs) (gch gbe sp bw : Nat) (st : Option (List (List Int)))
  (hX : XA gch gbe ws.length ws ps st R W) (hsp : BL W sp 94 [.pointer (some ⟨x.g, 0, none⟩)]) (Aw : Option Addr) (cw : Nat) (hbw : BL W bw 22 [.slice Aw ws.length cw]) (h8 : ws.length ≤ 8) (hwt : ∀ w ∈ ws, wtB w = true) (hne : x.gc ≠ gbe) :
  Calls Tryz.prog 56 #[.pointer (some ⟨sp, 0, none⟩), .pointer (some ⟨gch, 0, none⟩), .pointer (some ⟨gbe, 0, none⟩), .pointer (some ⟨bw, 0, none⟩)] W fun e W' =>
   e = .returned (.bool (fdA ws ps cs st).1) ∧ XA gch gbe ws.length ws ps (fdA ws ps cs st).2 (fun b => R b ∨ W.heap.size ≤ b) W' ∧ Chs W' x.gc ws.length R cs ∧ Kp (fun b => b = gch ∨ b = gbe) W W' := by
 have hsur := surpl_any hC hV cs hcl hCs h8 hwt
 obtain ⟨xg, Aw', cw', Ah, ch, vl, bm, Am, cm, gc, cc, vs, vf⟩ := x
 have HSUR := Lib.hid hsur
 have HV := Lib.hid hV
 have HCS := Lib.hid hCs
 have HCL := Lib.hid hcl
 have HSP := Lib.hid hsp
 have HBW := Lib.hid hbw
 obtain ⟨csv, hcb, hcsl, hcsv⟩ := hCs
 have HCB := Lib.hid hcb
 have HCSL := Lib.hid hcsl
 have HCSV := Lib.hid hcsv
 have HONE := Lib.hid (chs_one hcb hcsl hcl hcsv)
 have SWF : Hid (∀ z ∈ surpP ps (ws.zip cs), wfI z) := Lib.hid (fun z hz => by
  rw [surp_sort] at hz
  obtain ⟨y, hy, rfl⟩ := List.mem_map.1 ((sortI_both _).1.mem_iff.1 hz)
  have h1 := List.of_mem_zip hy
  obtain ⟨j, hj, e⟩ := List.getElem_of_mem h1.2
  obtain ⟨A9, n9, c9, _, h2, _⟩ := hcsv j y.2 (by rw [← e]; exact List.getElem?_eq_getElem hj)
  have h3 := h2.len_le
  have h4 := h2.1
  have h5 := (wo_ok (ps := ps) (hwt y.1 h1.1)).2
  have h6 := hwt y.1 h1.1
  simp [wtB] at h6
  exact wfI_of (by omega) (by omega))
 have HSL : Hid ((surpP ps (ws.zip cs)).length = ws.length) := Lib.hid (by rw [surpP_len, List.length_zip]; omega)
 cases st with
 | none =>
  obtain ⟨hch, hbe, hr1, hr2⟩ := hX
  have HCH := Lib.hid hch
  have HBE := Lib.hid hbe
  have HRR : Hid (R gch ∧ R gbe) := Lib.hid ⟨hr1, hr2⟩
  have HNE : Hid (gch ≠ gbe) := Lib.hid (fun e => by subst e; exact absurd (hch.ty hbe) (by decide))
  have HNB : Hid (¬ (bw = gch ∨ bw = gbe)) := Lib.hid (fun e => e.elim (fun e => by subst e; exact absurd (hbw.ty hch) (by decide)) (fun e => by subst e; exact absurd (hbw.ty hbe) (by decide)))
  have HNS : Hid (¬ (sp = gch ∨ sp = gbe)) := Lib.hid (fun e => e.elim (fun e => by subst e; exact absurd (hsp.ty hch) (by decide)) (fun e => by subst e; exact absurd (hsp.ty hbe) (by decide)))
  have HNX : Hid (¬ (xg = gch ∨ xg = gbe)) := Lib.hid (fun e => e.elim (fun e => by subst e; exact absurd (hV.bg.ty hch) (by decide)) (fun e => by subst e; exact absurd (hV.bg.ty hbe) (by decide)))
  have HNG : Hid (¬ (gc = gch ∨ gc = gbe)) := Lib.hid (fun e => e.elim (fun e => by subst e; exact absurd (hcb.ty hch) (by decide)) hne)
  have HTY : Hid (∀ b, b = gch ∨ b = gbe → ∃ te l, BL W b te l ∧ ∀ (j : Nat) (i : Int), l[j]? ≠ some (.int .i64 i)) := Lib.hid (fun b hb => by
   rcases hb with rfl | rfl
   ·
    exact ⟨_, _, hch, fun j i hj => by cases j <;> simp at hj⟩
   ·
    exact ⟨_, _, hbe, fun j i hj => by cases j <;> simp at hj⟩)
  have HFD : Hid ((fdA ws ps cs none).2 = some cs) := Lib.hid rfl
  have hen := eqNil0_is 0 0
  have q0 := hsp.get (j := 0) rfl
  clear hch hbe hr1 hr2 hC hV hsp hbw hcb hcsl hcsv hsur hne hwt
  go_enter Tryz.func56, Tryz.ntmps56
  go_wp2_with (first
   | (go_at_call 57; refine HSUR.out.mono ?_; rintro e w1 ⟨v, rfl, r1, r2⟩; obtain ⟨As, ms, cs1, rfl, r3⟩ := r1.new W rfl (fun z hz => SWF.out z hz) (by rw [HSL.out]; unfold lim; omega); have hms := r3.1.1; rw [HSL.out] at hms; subst hms; have HS1 := Lib.hid r3; have HB1 := Lib.hid r2; have HCH1 := Lib.hid (HCH.out.kept r2); have HBE1 := Lib.hid (HBE.out.kept r2); have q1 := HCH1.out.get (j := 0) rfl; have q2 := HBE1.out.get (j := 0) rfl; clear r1 r2 r3)
   | (go_at_call 58; refine (compare_any As ws.length cs1 _ Ab cb _ w1 HS1.out.1 (HBL.out.kept stay_int HB1.out)).mono ?_; rintro e w2 ⟨rfl, hw⟩; rw [hw, ← HRC.out]; clear hw w2)
   | ((with_reducible show OpN); refine wpList_store1 _ rfl 39 (.tmp 2) (.tmp 16) rfl (sz1 _ szIs _) gbe 0 _ _ (.slice As ws.length cs1) rfl rfl HBE1.out rfl rfl (by simp) ?_; intro w2 a1 a2 a3; have HBE2 : Hid (BL w2 gbe 39 [.slice As ws.length cs1]) := Lib.hid a1; have HK2 : Hid (Kp (fun b => b = gch ∨ b = gbe) W w2) := Lib.hid ((Kp.of_below HB1.out).trans (a2.mono (fun b _ e => .inr e))); have HL2 : Hid (Kp (fun b => b = gch ∨ b = gbe) w1 w2) := Lib.hid (a2.mono (fun b _ e => .inr e)); have HCH2 := Lib.hid (a2.bl HCH1.out (fun e => HNE.out e)); have q9 := (HK2.out.bl HBW.out (fun e => HNB.out e)).get (j := 0) rfl; clear a1 a2 a3)
   | ((with_reducible show OpW 19); refine wpList_mk _ rfl 97 39 (.tmp 18) (.tmp 18) rfl nilI 24 Tryz.underlying97 infoIs rfl ws.length ws.length _ _ rfl rfl rfl rfl (Nat.le_refl _) (by omega) (by omega) ?_; intro w3 a1 a2 a3; have HG3 := Lib.hid a1; have HK3 := Lib.hid (HK2.out.then a2); have HL3 := Lib.hid (HL2.out.then a2); have HBE3 := Lib.hid (HBE2.out.kept a2); have HCH3 := Lib.hid (HCH2.out.kept a2); clear a1 a2 a3)
   | ((with_reducible show OpN); refine wpList_store1 _ rfl 97 (.tmp 1) (.tmp 19) rfl (sz1 _ szIss _) gch 0 _ _ (.slice (some ⟨w2.heap.size, 0, none⟩) ws.length ws.length) rfl rfl HCH3.out rfl rfl (by simp) ?_; intro w4 a1 a2 a3; have HCH4 : Hid (BL w4 gch 97 [.slice (some ⟨w2.heap.size, 0, none⟩) ws.length ws.length]) := Lib.hid a1; have HK4 : Hid (Kp (fun b => b = gch ∨ b = gbe) W w4) := Lib.hid (HK3.out.trans (a2.mono (fun b _ e => .inl e))); have HL4 : Hid (Kp (fun b => b = gch ∨ b = gbe) w1 w4) := Lib.hid (HL3.out.trans (a2.mono (fun b _ e => .inl e))); have HBE4 := Lib.hid (a2.bl HBE3.out (fun e => HNE.out e.symm)); have HG4 := Lib.hid (a2.bl HG3.out (fun e => by have := HCH2.out.lt; omega)); clear a1 a2 a3))
  have HSZ : Hid (W.heap.size ≤ w2.heap.size) := Lib.hid HK2.out.size
  have HCC4 := Lib.hid (HK4.out.bl HCB.out (fun e => HNG.out e))
  have HSP4 := Lib.hid (HK4.out.bl HSP.out (fun e => HNS.out e))
  have HGG4 := Lib.hid (HK4.out.bl HV.out.bg (fun e => HNX.out e))
  have t5 := HGG4.out.drew.get (j := 5) rfl
  dsimp only at t5
  refine Text.wp_region_text (fun w' => w'.cell? ⟨gch, 0, none⟩ = some (.slice (some ⟨w2.heap.size, 0, none⟩) ws.length ws.length) ∧ w'.cell? ⟨sp, 0, none⟩ = some (.pointer (some ⟨xg, 0, none⟩)) ∧ w'.cell? ⟨xg, 5, none⟩ = some (.slice (some ⟨gc, 0, none⟩) ws.length cc)) [(0, 0), (1, 0), (2, 4), (3, 4), (4, 0), (5, 2)] (by kernel_rfl) (by kernel_rfl) (fun _ _ _ _ _ h => h) (⟨HCH4.out.drew.get (j := 0) rfl, HSP4.out.drew.get (j := 0) rfl, t5⟩) ?_
  iterate 2 (refine Text.heldk rfl rfl (fun K hK => ⟨_, fun w' hw' => by go_simp <;> rfl, ?_⟩); go_simp; refine hK _ ?_; clear hK K)
  iterate 2 (refine Text.purek rfl rfl (fun K hK => ⟨_, fun w' => by go_simp <;> rfl, ?_⟩); go_simp; refine hK _ ?_; clear hK K)
  (refine Text.heldk rfl rfl (fun K hK => ⟨_, fun w' hw' => by go_simp <;> rfl, ?_⟩); go_simp; refine hK _ ?_; clear hK K)
  refine Text.eff rfl rfl (fun K hK => ?_)
  refine wp_copyV _ (.tmp 20) (.tmp 24) 97 39 rfl Tryz.underlying97 hszIs w2.heap.size ws.length ws.length _ _ rfl HG4.out.drew gc cc _ csv rfl HCC4.out.drew HONE.out (by rw [List.length_replicate]) HCSL.out ?_
  intro w5 a1 a2 a3
  have HG5 := Lib.hid a1
  have HK5 : Hid (Kp (· = w2.heap.size) w4 w5) := Lib.hid ((Kp.of_below (Below.refl _ w4).drew).trans a2)
  clear a1 a2 a3
  have hcl4 := HCH4.out.lt
  refine hK _ _ ⟨(HK5.out.bl HCH4.out (fun e => by have := HCH2.out.lt; omega)).get (j := 0) rfl, (HK5.out.bl HSP4.out (fun e => by have := HSP.out.lt; have := HSZ.out; omega)).get (j := 0) rfl, (HK5.out.bl HGG4.out (fun e => by have := HV.out.bg.lt; have := HSZ.out; have e' : xg = w2.heap.size := e; omega)).get (j := 5) rfl⟩ ?_
  clear hK K
  refine Text.done ?_
  go_wp2_with fail
  go_ret
  have hk5 : Kp (fun b => b = gch ∨ b = gbe) W w5 := HK4.out.after HK5.out (fun b hb e => by have := HSZ.out; omega)
  have hcs5 : Chs w5 w2.heap.size ws.length (fun b => R b ∨ W.heap.size ≤ b) cs := ⟨csv, HG5.out, HCSL.out, fun j d hd => by
   obtain ⟨A9, n9, c9, e1, e2, e3⟩ := HCSV.out j d hd
   exact ⟨A9, n9, c9, e1, e2.kpT hk5 HTY.out, fun b o e => ⟨.inl (e3 b o e).1, Nat.lt_of_lt_of_le (e3 b o e).2 hk5.size⟩⟩⟩
  refine ⟨rfl, ?_, HCS.out.kpT hk5 (fun e => HNG.out e) HTY.out, hk5⟩
  rw [HFD.out]
  refine ⟨w2.heap.size, As, cs1, HK5.out.bl HCH4.out (fun e => by have := HCH2.out.lt; omega), hcs5, HK5.out.bl HBE4.out (fun e => by have := HBE2.out.lt; omega), ?_, ?_, .inl HRR.out.1, .inl HRR.out.2, .inr HSZ.out, HCL.out⟩
  ·
   refine HS1.out.1.kpB (HL4.out.after HK5.out (fun b hb e => by have := HL2.out.size; omega)) (fun b o e hS => ?_)
   have h1 := (HS1.out.2 _ e).1
   have h2 : gch < W.heap.size := HCH.out.lt
   have h3 : gbe < W.heap.size := HBE.out.lt
   have h4 : W.heap.size ≤ b := h1
   omega
  ·
   intro k o e
   have h1 := HS1.out.2 _ e
   have h2 := HL4.out.size
   have h3 := HK5.out.size
   exact ⟨.inr h1.1, Nat.lt_of_lt_of_le h1.2 (Nat.le_trans h2 h3)⟩
 | some b =>
  have HXX := Lib.hid hX
  obtain ⟨gq, Ab, cb, hch, _, hbe, hbl, _, hr1, hr2, _, _⟩ := hX
  have HBL := Lib.hid hbl
  obtain ⟨r, hr⟩ : ∃ r, r = cmpI (surpP ps (ws.zip cs)) (surpP ps (ws.zip b)) := ⟨_, rfl⟩
  have HRC := Lib.hid hr
  have hgr : decide (r > 0) = greaterB (surpP ps (ws.zip cs)) (surpP ps (ws.zip b)) := by rw [hr]; exact cmpI_gt (by rw [HSL.out, hbl.1])
  clear hbl hr
  have HCH := Lib.hid hch
  have HBE := Lib.hid hbe
  have HRR : Hid (R gch ∧ R gbe) := Lib.hid ⟨hr1, hr2⟩
  have HNE : Hid (gch ≠ gbe) := Lib.hid (fun e => by subst e; exact absurd (hch.ty hbe) (by decide))
  have HNB : Hid (¬ (bw = gch ∨ bw = gbe)) := Lib.hid (fun e => e.elim (fun e => by subst e; exact absurd (hbw.ty hch) (by decide)) (fun e => by subst e; exact absurd (hbw.ty hbe) (by decide)))
  have HNS : Hid (¬ (sp = gch ∨ sp = gbe)) := Lib.hid (fun e => e.elim (fun e => by subst e; exact absurd (hsp.ty hch) (by decide)) (fun e => by subst e; exact absurd (hsp.ty hbe) (by decide)))
  have HNX : Hid (¬ (xg = gch ∨ xg = gbe)) := Lib.hid (fun e => e.elim (fun e => by subst e; exact absurd (hV.bg.ty hch) (by decide)) (fun e => by subst e; exact absurd (hV.bg.ty hbe) (by decide)))
  have HNG : Hid (¬ (gc = gch ∨ gc = gbe)) := Lib.hid (fun e => e.elim (fun e => by subst e; exact absurd (hcb.ty hch) (by decide)) hne)
  have HTY : Hid (∀ b, b = gch ∨ b = gbe → ∃ te l, BL W b te l ∧ ∀ (j : Nat) (i : Int), l[j]? ≠ some (.int .i64 i)) := Lib.hid (fun b hb => by
   rcases hb with rfl | rfl
   ·
    exact ⟨_, _, hch, fun j i hj => by cases j <;> simp at hj⟩
   ·
    exact ⟨_, _, hbe, fun j i hj => by cases j <;> simp at hj⟩)
  have hen := eqNil_is ⟨gq, 0, none⟩ ws.length ws.length
  have q0 := hsp.get (j := 0) rfl
  clear hch hbe hr1 hr2 hC hV hsp hbw hcb hcsl hcsv hsur hne hwt
  cases hg : greaterB (surpP ps (ws.zip cs)) (surpP ps (ws.zip b)) with
  | true =>
   have HFD : Hid ((fdA ws ps cs (some b)).2 = some cs) := Lib.hid (by simp only [fdA]; rw [hg]; rfl)
   rw [hg] at hgr
   clear hg
   go_enter Tryz.func56, Tryz.ntmps56
   go_wp2_with (first
    | (go_at_call 57; refine HSUR.out.mono ?_; rintro e w1 ⟨v, rfl, r1, r2⟩; obtain ⟨As, ms, cs1, rfl, r3⟩ := r1.new W rfl (fun z hz => SWF.out z hz) (by rw [HSL.out]; unfold lim; omega); have hms := r3.1.1; rw [HSL.out] at hms; subst hms; have HS1 := Lib.hid r3; have HB1 := Lib.hid r2; have HCH1 := Lib.hid (HCH.out.kept r2); have HBE1 := Lib.hid (HBE.out.kept r2); have q1 := HCH1.out.get (j := 0) rfl; have q2 := HBE1.out.get (j := 0) rfl; clear r1 r2 r3)
    | (go_at_call 58; refine (compare_any As ws.length cs1 _ Ab cb _ w1 HS1.out.1 (HBL.out.kept stay_int HB1.out)).mono ?_; rintro e w2 ⟨rfl, hw⟩; rw [hw, ← HRC.out]; clear hw w2)
    | ((with_reducible show OpN); refine wpList_store1 _ rfl 39 (.tmp 2) (.tmp 16) rfl (sz1 _ szIs _) gbe 0 _ _ (.slice As ws.length cs1) rfl rfl HBE1.out rfl rfl (by simp) ?_; intro w2 a1 a2 a3; have HBE2 : Hid (BL w2 gbe 39 [.slice As ws.length cs1]) := Lib.hid a1; have HK2 : Hid (Kp (fun b => b = gch ∨ b = gbe) W w2) := Lib.hid ((Kp.of_below HB1.out).trans (a2.mono (fun b _ e => .inr e))); have HL2 : Hid (Kp (fun b => b = gch ∨ b = gbe) w1 w2) := Lib.hid (a2.mono (fun b _ e => .inr e)); have HCH2 := Lib.hid (a2.bl HCH1.out (fun e => HNE.out e)); have q9 := (HK2.out.bl HBW.out (fun e => HNB.out e)).get (j := 0) rfl; clear a1 a2 a3)
    | ((with_reducible show OpW 19); refine wpList_mk _ rfl 97 39 (.tmp 18) (.tmp 18) rfl nilI 24 Tryz.underlying97 infoIs rfl ws.length ws.length _ _ rfl rfl rfl rfl (Nat.le_refl _) (by omega) (by omega) ?_; intro w3 a1 a2 a3; have HG3 := Lib.hid a1; have HK3 := Lib.hid (HK2.out.then a2); have HL3 := Lib.hid (HL2.out.then a2); have HBE3 := Lib.hid (HBE2.out.kept a2); have HCH3 := Lib.hid (HCH2.out.kept a2); clear a1 a2 a3)
    | ((with_reducible show OpN); refine wpList_store1 _ rfl 97 (.tmp 1) (.tmp 19) rfl (sz1 _ szIss _) gch 0 _ _ (.slice (some ⟨w2.heap.size, 0, none⟩) ws.length ws.length) rfl rfl HCH3.out rfl rfl (by simp) ?_; intro w4 a1 a2 a3; have HCH4 : Hid (BL w4 gch 97 [.slice (some ⟨w2.heap.size, 0, none⟩) ws.length ws.length]) := Lib.hid a1; have HK4 : Hid (Kp (fun b => b = gch ∨ b = gbe) W w4) := Lib.hid (HK3.out.trans (a2.mono (fun b _ e => .inl e))); have HL4 : Hid (Kp (fun b => b = gch ∨ b = gbe) w1 w4) := Lib.hid (HL3.out.trans (a2.mono (fun b _ e => .inl e))); have HBE4 := Lib.hid (a2.bl HBE3.out (fun e => HNE.out e.symm)); have HG4 := Lib.hid (a2.bl HG3.out (fun e => by have := HCH2.out.lt; omega)); clear a1 a2 a3))
   have HSZ : Hid (W.heap.size ≤ w2.heap.size) := Lib.hid HK2.out.size
   have HCC4 := Lib.hid (HK4.out.bl HCB.out (fun e => HNG.out e))
   have HSP4 := Lib.hid (HK4.out.bl HSP.out (fun e => HNS.out e))
   have HGG4 := Lib.hid (HK4.out.bl HV.out.bg (fun e => HNX.out e))
   have t5 := HGG4.out.drew.get (j := 5) rfl
   dsimp only at t5
   refine Text.wp_region_text (fun w' => w'.cell? ⟨gch, 0, none⟩ = some (.slice (some ⟨w2.heap.size, 0, none⟩) ws.length ws.length) ∧ w'.cell? ⟨sp, 0, none⟩ = some (.pointer (some ⟨xg, 0, none⟩)) ∧ w'.cell? ⟨xg, 5, none⟩ = some (.slice (some ⟨gc, 0, none⟩) ws.length cc)) [(0, 0), (1, 0), (2, 4), (3, 4), (4, 0), (5, 2)] (by kernel_rfl) (by kernel_rfl) (fun _ _ _ _ _ h => h) (⟨HCH4.out.drew.get (j := 0) rfl, HSP4.out.drew.get (j := 0) rfl, t5⟩) ?_
   iterate 2 (refine Text.heldk rfl rfl (fun K hK => ⟨_, fun w' hw' => by go_simp <;> rfl, ?_⟩); go_simp; refine hK _ ?_; clear hK K)
   iterate 2 (refine Text.purek rfl rfl (fun K hK => ⟨_, fun w' => by go_simp <;> rfl, ?_⟩); go_simp; refine hK _ ?_; clear hK K)
   (refine Text.heldk rfl rfl (fun K hK => ⟨_, fun w' hw' => by go_simp <;> rfl, ?_⟩); go_simp; refine hK _ ?_; clear hK K)
   refine Text.eff rfl rfl (fun K hK => ?_)
   refine wp_copyV _ (.tmp 20) (.tmp 24) 97 39 rfl Tryz.underlying97 hszIs w2.heap.size ws.length ws.length _ _ rfl HG4.out.drew gc cc _ csv rfl HCC4.out.drew HONE.out (by rw [List.length_replicate]) HCSL.out ?_
   intro w5 a1 a2 a3
   have HG5 := Lib.hid a1
   have HK5 : Hid (Kp (· = w2.heap.size) w4 w5) := Lib.hid ((Kp.of_below (Below.refl _ w4).drew).trans a2)
   clear a1 a2 a3
   have hcl4 := HCH4.out.lt
   refine hK _ _ ⟨(HK5.out.bl HCH4.out (fun e => by have := HCH2.out.lt; omega)).get (j := 0) rfl, (HK5.out.bl HSP4.out (fun e => by have := HSP.out.lt; have := HSZ.out; omega)).get (j := 0) rfl, (HK5.out.bl HGG4.out (fun e => by have := HV.out.bg.lt; have := HSZ.out; have e' : xg = w2.heap.size := e; omega)).get (j := 5) rfl⟩ ?_
   clear hK K
   refine Text.done ?_
   go_wp2_with fail
   go_ret
   have hk5 : Kp (fun b => b = gch ∨ b = gbe) W w5 := HK4.out.after HK5.out (fun b hb e => by have := HSZ.out; omega)
   have hcs5 : Chs w5 w2.heap.size ws.length (fun b => R b ∨ W.heap.size ≤ b) cs := ⟨csv, HG5.out, HCSL.out, fun j d hd => by
    obtain ⟨A9, n9, c9, e1, e2, e3⟩ := HCSV.out j d hd
    exact ⟨A9, n9, c9, e1, e2.kpT hk5 HTY.out, fun b o e => ⟨.inl (e3 b o e).1, Nat.lt_of_lt_of_le (e3 b o e).2 hk5.size⟩⟩⟩
   refine ⟨rfl, ?_, HCS.out.kpT hk5 (fun e => HNG.out e) HTY.out, hk5⟩
   rw [HFD.out]
   refine ⟨w2.heap.size, As, cs1, HK5.out.bl HCH4.out (fun e => by have := HCH2.out.lt; omega), hcs5, HK5.out.bl HBE4.out (fun e => by have := HBE2.out.lt; omega), ?_, ?_, .inl HRR.out.1, .inl HRR.out.2, .inr HSZ.out, HCL.out⟩
   ·
    refine HS1.out.1.kpB (HL4.out.after HK5.out (fun b hb e => by have := HL2.out.size; omega)) (fun b o e hS => ?_)
    have h1 := (HS1.out.2 _ e).1
    have h2 : gch < W.heap.size := HCH.out.lt
    have h3 : gbe < W.heap.size := HBE.out.lt
    have h4 : W.heap.size ≤ b := h1
    omega
   ·
    intro k o e
    have h1 := HS1.out.2 _ e
    have h2 := HL4.out.size
    have h3 := HK5.out.size
    exact ⟨.inr h1.1, Nat.lt_of_lt_of_le h1.2 (Nat.le_trans h2 h3)⟩
  | false =>
   have HFD : Hid ((fdA ws ps cs (some b)).2 = some b) := Lib.hid (by simp only [fdA]; rw [hg]; rfl)
   rw [hg] at hgr
   clear hg
   go_enter Tryz.func56, Tryz.ntmps56
   go_wp2_with (first
    | (go_at_call 57; refine HSUR.out.mono ?_; rintro e w1 ⟨v, rfl, r1, r2⟩; obtain ⟨As, ms, cs1, rfl, r3⟩ := r1.new W rfl (fun z hz => SWF.out z hz) (by rw [HSL.out]; unfold lim; omega); have hms := r3.1.1; rw [HSL.out] at hms; subst hms; have HS1 := Lib.hid r3; have HB1 := Lib.hid r2; have HCH1 := Lib.hid (HCH.out.kept r2); have HBE1 := Lib.hid (HBE.out.kept r2); have q1 := HCH1.out.get (j := 0) rfl; have q2 := HBE1.out.get (j := 0) rfl; clear r1 r2 r3)
    | (go_at_call 58; refine (compare_any As ws.length cs1 _ Ab cb _ w1 HS1.out.1 (HBL.out.kept stay_int HB1.out)).mono ?_; rintro e w2 ⟨rfl, hw⟩; rw [hw, ← HRC.out]; clear hw w2)
    | fail)
   go_ret
   refine ⟨rfl, ?_, HCS.out.kp (S := fun _ => False) (Kp.of_below HB1.out) (fun h => h) (fun _ _ h => h), Kp.of_below HB1.out⟩
   rw [HFD.out]
   exact (HXX.out.kp (S := fun _ => False) (Kp.of_below HB1.out) (fun _ _ h => h)).mono (fun k h _ => .inl h)
end
end Go.Proofs.YtklfficlegfhjaaGreat
/- Assign. -/
namespace Go.Proofs.YtklfficlegfhjaaGreat
open Go Go.RowKit Go.Shelf Go.WideMaps Go.ChangeMaps Gf Sha

theorem assign_rnc {W W1 W2 : World} {x : SX} {gm : Nat} {csv : List Value} {A : Option Addr} {n c : Nat} {ws : List Wt} {m : Nat} {hs : List Hd} {ps : List Pl} (h : NewS W W1 x gm csv A n c ws m hs ps) (hw : LS rWt 4 40 W A n c ws) (hok : ∀ x ∈ hs, okHd x) (hl : hs.length = m) (hwb : wantsB ws = true) (hhb : holdersB hs = true)
  {bw sp gch gbe : Nat} (hbw : BL W bw 22 [.slice A n c]) (hsp : BL W2 sp 94 [.pointer (some ⟨x.g, 0, none⟩)]) (hk : Kp (· = x.g) W1 W2) (hgp : W1.heap.size ≤ sp ∧ W1.heap.size ≤ gch ∧ W1.heap.size ≤ gbe ∧ gch < W2.heap.size ∧ gbe < W2.heap.size ∧ sp ≠ gch ∧ sp ≠ gbe) :
  RnC W2 (fun b => T0 x b ∨ (b = gch ∨ b = gbe)) { x with vs := .func (.func 55) #[] #[.pointer (some ⟨sp, 0, none⟩)], vf := .func (.func 56) #[] #[.pointer (some ⟨sp, 0, none⟩), .pointer (some ⟨gch, 0, none⟩), .pointer (some ⟨gbe, 0, none⟩), .pointer (some ⟨bw, 0, none⟩)] } ws (prefL hs) ps none
   55 #[.pointer (some ⟨sp, 0, none⟩)] 56 #[.pointer (some ⟨sp, 0, none⟩), .pointer (some ⟨gch, 0, none⟩), .pointer (some ⟨gbe, 0, none⟩), .pointer (some ⟨bw, 0, none⟩)] (fdA ws ps) (XA gch gbe ws.length ws ps) (fun b => b = gch ∨ b = gbe) := by
 obtain ⟨g1, g2, g3, g4, g5, g6, g7⟩ := hgp
 have hn8 := wants_8 hwb
 have hm12 := holders_12 hhb
 have hpl : (prefL hs).length = m := ((prefL_perm hs).length_eq).trans hl
 obtain rfl : ws.length = n := hw.1
 have hT0 : ∀ b, T0 x b → W.heap.size ≤ b ∧ b < W1.heap.size := fun b hb => by
  rcases hb with rfl | hb | rfl
  ·
   exact ⟨h.z.1, h.bg.lt⟩
  ·
   exact ⟨h.l.2 b hb, h.l.1.lt hb⟩
  ·
   exact ⟨h.z.2.2.2, h.c.lt⟩
 have hsz := h.b.size
 have hbel : ∀ W3, Kp (fun b => T0 x b ∨ (b = gch ∨ b = gbe)) W2 W3 → Below W.heap.size W W3 := fun W3 h3 => h.b.trans ((Kp.trans (hk.mono (S' := fun b => T0 x b ∨ (b = gch ∨ b = gbe)) (fun b _ e => .inl (.inl e))) h3).below h.b.size (fun b hb => by
  rcases hb with hb | hb | hb
  ·
   exact (hT0 b hb).1
  ·
   omega
  ·
   omega))
 have hk2 := hk.size
 have hspk : ∀ W3, Kp (fun b => T0 x b ∨ (b = gch ∨ b = gbe)) W2 W3 → BL W3 sp 94 [.pointer (some ⟨x.g, 0, none⟩)] := fun W3 h3 => h3.bl hsp (fun e => by
  rcases e with e | e | e
  ·
   have := (hT0 sp e).2; omega
  ·
   exact g6 e
  ·
   exact g7 e)
 have hc := h.src hw hok (by omega) (by omega) hl (wants_wt hwb) hk (T := fun b => T0 x b ∨ (b = gch ∨ b = gbe)) (.func (.func 55) #[] #[.pointer (some ⟨sp, 0, none⟩)]) (.func (.func 56) #[] #[.pointer (some ⟨sp, 0, none⟩), .pointer (some ⟨gch, 0, none⟩), .pointer (some ⟨gbe, 0, none⟩), .pointer (some ⟨bw, 0, none⟩)]) (fun b hb => .inl hb) (fun b hb => hb.imp id (fun e => by omega)) (fun b hb => by
  rcases hb with hb | hb | hb
  ·
   have := (hT0 b hb).2; omega
  ·
   omega
  ·
   omega)
 refine ⟨hc, hn8, by omega, fun w hm => ?_, rfl, enters_of Tryz.func55 (by kernel_rfl) rfl, rfl, enters_of Tryz.func56 (by kernel_rfl) rfl, fun i w left hi => ?_, ?_, fun s R S W3 W4 hx hk3 hn => hx.kp hk3 hn, fun s R R' W3 hx hm => hx.mono hm, ?_, ?_⟩
 ·
  have := wants_wt hwb w hm
  simp [wtB] at this
  omega
 ·
  have h1 := (wo_ok (ps := ps) (wants_wt hwb w (List.mem_of_getElem? hi))).2
  show (0 ≤ (0 : Int) ∧ (0 : Int) ≤ 100) ∧ -1 ≤ min (((freeP (prefL hs) ps left w).length : Nat) : Int) ((withoutL w ps).length : Int) ∧ min (((freeP (prefL hs) ps left w).length : Nat) : Int) ((withoutL w ps).length : Int) ≤ 100
  omega
 ·
  intro W3 left k i w hi hv
  exact asizes_any hc hv sp (hspk W3 hv.kp) i w hi _ hn8
 ·
  intro b hb
  refine ⟨.inr hb, fun e => ?_, fun e => ?_, fun e => ?_⟩
  ·
   have := (hT0 b (.inl e)).2; rcases hb with hb | hb <;> omega
  ·
   have := (hT0 b (.inr (.inl e))).2; rcases hb with hb | hb <;> omega
  ·
   have := (hT0 b (.inr (.inr e))).2; rcases hb with hb | hb <;> omega
 ·
  intro W3 left k cs s R hcs hv hC hX hR
  exact afound_any hc hv cs hcs hC gch gbe sp bw s hX (hspk W3 hv.kp) A c (hbw.kept (hbel W3 hv.kp)) hn8 (wants_wt hwb) (fun e => by have := (hT0 x.gc (.inr (.inr rfl))).2; have e' : x.gc = gbe := e; omega)
theorem chs_ls {W : World} {g n : Nat} {R : Nat → Prop} {cs : List (List Int)} (h : Chs W g n R cs) (hl : cs.length = n) (hn : n ≤ 1000) : LS rIs 1 24 W (some ⟨g, 0, none⟩) n n cs := by
 obtain ⟨csv, hb, hcl, hc⟩ := h
 refine ⟨hl, Nat.le_refl _, by unfold lim; omega, fun k hk => ?_⟩
 obtain ⟨A, m, c, e1, e2, _⟩ := hc k cs[k] (List.getElem?_eq_getElem hk)
 refine ⟨g, 0, [.slice A m c], rfl, fun q v hq => ?_, ⟨A, m, c, rfl, e2⟩⟩
 cases q with
 | zero =>
  have e9 : v = .slice A m c := by simpa using hq.symm
  subst e9
  have := hb.get e1
  simpa using this
 | succ q => simp at hq
theorem psZ : (Tryz.prog.info? 94).map (·.zero) = some (some (.pointer none)) := by kernel_rfl
theorem isZ : (Tryz.prog.info? 39).map (·.zero) = some (some (.slice none 0 0)) := by kernel_rfl
theorem issZ : (Tryz.prog.info? 97).map (·.zero) = some (some (.slice none 0 0)) := by kernel_rfl
theorem szPs : (Tryz.prog.info? 94).map (·.size) = some 1 := by kernel_rfl
section
set_option maxRecDepth 100000
set_option maxHeartbeats 4000000
theorem assign_any (A : Option Addr) (n c : Nat) (ws : List Wt) (B : Option Addr) (m d : Nat) (hs : List Hd) (P : Option Addr) (p q : Nat) (ps : List Pl) (bu : Int) (w : World) (h : LS rWt 4 40 w A n c ws) (hh : LS rHd 3 24 w B m d hs) (hp : LS rPl 3 32 w P p q ps) (hpm : p ≤ 1000) :
  Calls Tryz.prog 28 #[.slice A n c, .slice B m d, .slice P p q, .int .i64 bu] w fun e w' => ∃ A' n' c', e = .returned (.tuple #[.slice A' n' c', .int .i64 (assignV ws hs ps bu).2]) ∧ LS rPl 3 32 w' A' n' c' (assignV ws hs ps bu).1 ∧ Below w.heap.size w w' := by
 have H := Lib.hid h
 have HH := Lib.hid hh
 have HP := Lib.hid hp
 have HPM := Lib.hid hpm
 clear h hh hp hpm
 obtain ⟨E, hE⟩ : ∃ E, E = checkE ws hs ps := ⟨_, rfl⟩
 have HE := Lib.hid hE
 by_cases h0 : E = 0
 ·
  have f1 : (E != 0) = false := by rw [h0]; rfl
  have HCK : Hid (checkE ws hs ps = 0) := Lib.hid (hE.symm.trans h0)
  have hok := check_ok.1 (hE.symm.trans h0)
  have HOK := Lib.hid hok
  cases f5 : budB bu with
  | false =>
   have HN : Hid (assignV ws hs ps bu = ([], 1)) := Lib.hid (by unfold assignV; rw [if_neg (by rw [HCK.out]; exact fun h => h rfl), if_pos f5])
   clear hE h0 hok
   go_enter Tryz.func28, Tryz.ntmps28
   go_wp2_with (first
    | ((with_reducible show OpW 4); refine wpList_box1 _ rfl 22 (.tmp 0) rfl (.slice A n c) rfl rfl ?_; intro w1 a1 a2 a3; have HV1 := Lib.hid a1; have HX1 := Lib.hid a2; have q4 := HV1.out.get (j := 0) rfl; clear a1 a2 a3)
    | (go_at_call 11; refine (check_any A _ c ws B m d hs P p q ps w1 (H.out.kept stay_wt HX1.out) (HH.out.kept stay_hd HX1.out) (HP.out.kept stay_pl HX1.out) (by have := HPM.out; omega)).mono ?_; rintro e w2 ⟨rfl, b1⟩; rw [← HE.out]; have HB2 := Lib.hid (below_then HX1.out b1); have HV2 := Lib.hid (HV1.out.kept b1); clear b1)
    | (go_at_call 50; refine (budget_any _ w2).mono ?_; rintro e w3 ⟨rfl, b1⟩; rw [f5]; have HB3 := Lib.hid (below_then HB2.out b1); have HV3 := Lib.hid (HV2.out.kept b1); have q5 := HV3.out.get (j := 0) rfl; clear b1)
    | fail)
   go_ret2
   exact ⟨none, 0, 0, by rw [HN.out]; rfl, by rw [HN.out]; exact LS.nil, HB3.out⟩
  | true =>
   have hbu : 1 ≤ bu ∧ bu ≤ 1048576 := by unfold budB at f5; simpa using f5
   obtain ⟨b, rfl⟩ : ∃ b : Nat, bu = (b : Int) := ⟨bu.toNat, by omega⟩
   have HBU : Hid (b ≤ 1048576) := Lib.hid (by omega)
   have HN : Hid (assignV ws hs ps (b : Int) = foundV ws hs ps (findA ws hs ps b)) := Lib.hid (by unfold assignV; rw [if_neg (by rw [HCK.out]; exact fun h => h rfl), if_neg (by rw [f5]; decide), Int.toNat_natCast])
   obtain rfl : ws.length = n := H.out.1
   have hn8 := wants_8 HOK.out.w
   clear hE h0 hok hbu
   go_enter Tryz.func28, Tryz.ntmps28
   go_wp2_with (first
    | ((with_reducible show OpW 4); refine wpList_box1 _ rfl 22 (.tmp 0) rfl (.slice A ws.length c) rfl rfl ?_; intro w1 a1 a2 a3; have HV1 := Lib.hid a1; have HX1 := Lib.hid a2; have q4 := HV1.out.get (j := 0) rfl; clear a1 a2 a3)
    | (go_at_call 11; refine (check_any A _ c ws B m d hs P p q ps w1 (H.out.kept stay_wt HX1.out) (HH.out.kept stay_hd HX1.out) (HP.out.kept stay_pl HX1.out) (by have := HPM.out; omega)).mono ?_; rintro e w2 ⟨rfl, b1⟩; rw [← HE.out]; have HB2 := Lib.hid (below_then HX1.out b1); have HV2 := Lib.hid (HV1.out.kept b1); clear b1)
    | (go_at_call 50; refine (budget_any _ w2).mono ?_; rintro e w3 ⟨rfl, b1⟩; rw [f5]; have HB3 := Lib.hid (below_then HB2.out b1); have HV3 := Lib.hid (HV2.out.kept b1); have q5 := HV3.out.get (j := 0) rfl; clear b1)
    | (go_at_call 46; refine (newSearch_any A _ c ws B m d hs P p q ps w3 (H.out.kept stay_wt HB3.out) (HH.out.kept stay_hd HB3.out) (HP.out.kept stay_pl HB3.out) HOK.out.w HOK.out.h (by have := HPM.out; omega)).mono ?_; rintro e W1 ⟨x, gm, csv, rfl, hns⟩; have HNS := Lib.hid hns; have hg1 := hns.bg.lt; clear hns)
    | ((with_reducible show OpW 11); refine wpList_alloc1 _ rfl 94 rfl (.pointer none) psZ rfl ?_; intro W2 a1 a2 a3; have HS2 := Lib.hid a1; have HK2 : Hid (Kp (· = x.g) W1 W2) := Lib.hid (Kp.of_below a2); have HG2 := Lib.hid (HNS.out.bg.kept a2); clear a1 a2 a3)
    | ((with_reducible show OpN); refine wpList_store1 _ rfl 94 (.tmp 11) (.tmp 27) rfl (sz1 _ szPs _) W1.heap.size 0 _ _ (.pointer (some ⟨x.g, 0, none⟩)) rfl rfl HS2.out rfl rfl (by simp) ?_; intro W3 a1 a2 a3; have HS3 : Hid (BL W3 W1.heap.size 94 [.pointer (some ⟨x.g, 0, none⟩)]) := Lib.hid a1; have HK3 : Hid (Kp (· = x.g) W1 W3) := Lib.hid (HK2.out.after a2 (fun b hb e => by omega)); have HG3 := Lib.hid (a2.bl HG2.out (fun e => by omega)); have r3 := HS3.out.get (j := 0) rfl; clear a1 a2 a3)
    | ((with_reducible show OpN); refine wpList_store1 _ rfl 98 (.tmp 31) (.tmp 29) rfl (sz1 _ szFn _) x.g 6 _ _ (.func (.func 55) #[] #[.pointer (some ⟨W1.heap.size, 0, none⟩)]) rfl rfl HG3.out rfl rfl (by simp) ?_; intro W4 a1 a2 a3; have HG4 := Lib.hid a1; have HK4 := Lib.hid (HK3.out.trans a2); have HS4 := Lib.hid (a2.bl HS3.out (fun e => by omega)); clear a1 a2 a3)
    | ((with_reducible show OpW 12); refine wpList_alloc1 _ rfl 39 rfl (.slice none 0 0) isZ rfl ?_; intro W5 a1 a2 a3; have HBE5 := Lib.hid a1; have HK5 := Lib.hid (HK4.out.then a2); have HG5 := Lib.hid (HG4.out.kept a2); have HS5 := Lib.hid (HS4.out.kept a2); clear a1 a2 a3)
    | ((with_reducible show OpW 13); refine wpList_alloc1 _ rfl 97 rfl (.slice none 0 0) issZ rfl ?_; intro W6 a1 a2 a3; have HCH6 := Lib.hid a1; have HBE6 := Lib.hid (HBE5.out.kept a2); have HK6 := Lib.hid (HK5.out.then a2); have HG6 := Lib.hid (HG5.out.kept a2); have HS6 := Lib.hid (HS5.out.kept a2); have r6 := HS6.out.get (j := 0) rfl; clear a1 a2 a3)
    | ((with_reducible show OpN); refine wpList_store1 _ rfl 26 (.tmp 35) (.tmp 33) rfl (sz1 _ szFf _) x.g 7 _ _ (.func (.func 56) #[] #[.pointer (some ⟨W1.heap.size, 0, none⟩), .pointer (some ⟨W5.heap.size, 0, none⟩), .pointer (some ⟨W4.heap.size, 0, none⟩), .pointer (some ⟨w.heap.size, 0, none⟩)]) rfl rfl HG6.out rfl rfl (by simp) ?_; intro W7 a1 a2 a3; have HG7 := Lib.hid a1; have HK7 := Lib.hid (HK6.out.trans a2); have HS7 := Lib.hid (a2.bl HS6.out (fun e => by omega)); have HCH7 := Lib.hid (a2.bl HCH6.out (fun e => by have := HK5.out.size; omega)); have HBE7 := Lib.hid (a2.bl HBE6.out (fun e => by have := HK4.out.size; omega)); have r7 := HS7.out.get (j := 0) rfl; clear a1 a2 a3))
   have hz4 := HK4.out.size
   have hz5 := HK5.out.size
   have hl4 := HS4.out.lt
   have hl5 := HS5.out.lt
   have hl7 := HCH7.out.lt
   have hl8 := HBE7.out.lt
   have hW3 := H.out.kept stay_wt HB3.out
   have hnew := assign_rnc HNS.out hW3 (LS.okHd HH.out) HH.out.1 HOK.out.w HOK.out.h HV3.out HS7.out HK7.out ⟨Nat.le_refl _, hz5, hz4, hl7, hl8, by omega, by omega⟩
   have hTl : ∀ b, T0 x b → w3.heap.size ≤ b ∧ b < W1.heap.size := fun b hb => by
    rcases hb with rfl | hb | rfl
    ·
     exact ⟨HNS.out.z.1, HNS.out.bg.lt⟩
    ·
     exact ⟨HNS.out.l.2 b hb, HNS.out.l.1.lt hb⟩
    ·
     exact ⟨HNS.out.z.2.2.2, HNS.out.c.lt⟩
   have hcs : Chs W7 x.gc ws.length (fun b => b = W5.heap.size ∨ b = W4.heap.size) [] := ⟨_, HK7.out.bl HNS.out.c (fun e => absurd (HNS.out.c.ty (by rw [show x.gc = x.g from e]; exact HNS.out.bg)) (by decide)), by rw [List.length_replicate], fun j d hd => by simp at hd⟩
   have hrun := run_any hnew (left0 ws hs ps) none (fun b => b = W5.heap.size ∨ b = W4.heap.size) W7 (budget := b) (left0_ok HOK.out.h (fun y hy => ⟨(used_le HOK.out.w y.dv ps).1, HOK.out.q y hy⟩)) (HNS.out.srv rfl HH.out.1 HK7.out _ _ HG7.out) hcs ⟨HCH7.out, HBE7.out, .inl rfl, .inr rfl⟩ (fun b hb => by
    refine ⟨by rcases hb with hb | hb <;> omega, fun e => ?_, fun e => ?_, fun e => ?_⟩
    ·
     have := (hTl _ (.inl e)).2; rcases hb with hb | hb <;> omega
    ·
     have := (hTl _ (.inr (.inl e))).2; rcases hb with hb | hb <;> omega
    ·
     have := (hTl _ (.inr (.inr e))).2; rcases hb with hb | hb <;> omega) (by have := HBU.out; omega)
   obtain ⟨r, hr⟩ : ∃ r, r = (plook (choP (prefL hs) ps none) (fdA ws ps) b ws [] (left0 ws hs ps) ⟨0, true, none⟩).2 := ⟨_, rfl⟩
   rw [← hr] at hrun
   have HPR : Hid (findA ws hs ps b = (r.wi, r.x)) := Lib.hid (by rw [hr]; rfl)
   refine hrun.mono ?_
   rintro e W8 ⟨rfl, r1, r2, r9⟩
   have HK8 : Hid (Kp (fun b => T0 x b ∨ (b = W5.heap.size ∨ b = W4.heap.size)) W1 W8) := Lib.hid (Kp.trans (HK7.out.mono (fun b _ e => .inl (.inl e))) r9)
   have HB8 : Hid (Below w.heap.size w W8) := Lib.hid (below_then HB3.out (HNS.out.b.trans (HK8.out.below HNS.out.b.size (fun b hb => by
    have := HNS.out.b.size
    rcases hb with hb | hb | hb
    ·
     exact (hTl b hb).1
    ·
     omega
    ·
     omega))))
   have HS8 := Lib.hid (r9.bl HS7.out (fun e => by
    rcases e with e | e | e
    ·
     have := (hTl _ e).2; omega
    ·
     omega
    ·
     omega))
   have s8 := HS8.out.get (j := 0) rfl
   have HC8 := Lib.hid hnew.c
   have HV8 := Lib.hid r1
   have HX8 := Lib.hid r2
   clear hnew hcs hrun r1 r2 r9 hr hTl r7 r6 r3
   cases hwi : r.wi with
   | false =>
    go_wp2_with fail
    go_ret2
    exact ⟨none, 0, 0, by rw [HN.out, HPR.out, hwi]; rfl, by rw [HN.out, HPR.out, hwi]; exact LS.nil, HB8.out⟩
   | true =>
    obtain ⟨cs, hcs, hf⟩ := find_none HOK.out b (by rw [HPR.out]; exact hwi)
    have hx : r.x = some cs := by rw [HPR.out] at hcs; exact hcs
    have HF := Lib.hid hf
    have hX := HX8.out
    rw [hx] at hX
    obtain ⟨gq, Ab, cb, x1, x2, _, _, _, _, _, _, x9⟩ := hX
    have c9 := x1.get (j := 0) rfl
    have HLS := Lib.hid (chs_ls x2 x9 (by omega))
    have HNV : Hid (assignV ws hs ps (b : Int) = (sortedL ws (plcs (prefL hs) ps (ws.zip cs)), 0)) := Lib.hid (by rw [HN.out, HPR.out, hwi, hx]; rfl)
    clear hcs hf hx x1 x2 x9 HX8
    go_wp2_with (first
     | (go_at_call 48; refine (placed_any HC8.out HV8.out P p q (HP.out.kept stay_pl HB8.out) _ _ cs HLS.out HF.out.okc (wants_st HOK.out.w) (wants_wt HOK.out.w) hn8 HPM.out).mono ?_; rintro e W9 ⟨v, R, rfl, r1, r2, r3, r4⟩; obtain ⟨A9, c9', n9, rfl, r5⟩ := placed_ls r1 HF.out.ok r2 r3 (fun x hx => by obtain ⟨k, hk, rfl⟩ := List.getElem_of_mem hx; exact LS.wt_ok H.out (List.getElem?_eq_getElem hk)) (LS.okHd HH.out) (LS.okPl HP.out) HF.out.okc (by rw [HP.out.1]; exact HPM.out); have HR5 := Lib.hid r5; have HB9 := Lib.hid (below_then HB8.out r4); clear r1 r2 r3 r4 r5))
    go_ret2
    exact ⟨A9, n9, c9', by rw [HNV.out]; rfl, by rw [HNV.out]; exact HR5.out, HB9.out⟩
 ·
  have f1 : (E != 0) = true := by rw [bne_iff_ne]; exact h0
  have HN : Hid (assignV ws hs ps bu = ([], E)) := Lib.hid (by unfold assignV; rw [if_pos (by rw [← hE]; exact h0), ← hE])
  clear hE h0
  go_enter Tryz.func28, Tryz.ntmps28
  go_wp2_with (first
   | ((with_reducible show OpW 4); refine wpList_box1 _ rfl 22 (.tmp 0) rfl (.slice A n c) rfl rfl ?_; intro w1 a1 a2 a3; have HV1 := Lib.hid a1; have HX1 := Lib.hid a2; have q4 := HV1.out.get (j := 0) rfl; clear a1 a2 a3)
   | (go_at_call 11; refine (check_any A _ c ws B m d hs P p q ps w1 (H.out.kept stay_wt HX1.out) (HH.out.kept stay_hd HX1.out) (HP.out.kept stay_pl HX1.out) (by have := HPM.out; omega)).mono ?_; rintro e w2 ⟨rfl, b1⟩; rw [← HE.out]; have HB2 := Lib.hid (below_then HX1.out b1); have HV2 := Lib.hid (HV1.out.kept b1); clear b1)
   | (go_at_call 50; refine (budget_any _ w2).mono ?_; rintro e w3 ⟨rfl, b1⟩; rw [f5]; have HB3 := Lib.hid (below_then HB2.out b1); have HV3 := Lib.hid (HV2.out.kept b1); have q5 := HV3.out.get (j := 0) rfl; clear b1)
   | fail)
  go_ret2
  exact ⟨none, 0, 0, by rw [HN.out]; rfl, by rw [HN.out]; exact LS.nil, HB2.out⟩
end
end Go.Proofs.YtklfficlegfhjaaGreat
/- The examples, plainly. -/
namespace Go.Proofs.YtklfficlegfhjaaGreat
open Go Gf

def exS : List UInt8 := [115]
def exT : List UInt8 := [116]
def exW : List Wt := [⟨exS, 10, 1, 3⟩, ⟨exT, 10, 1, 3⟩]
def exH : List Hd := [⟨0, 10, 1⟩, ⟨1, 10, 5⟩, ⟨2, 5, 0⟩]
def exP : List Pl := [⟨exS, 0, 1⟩, ⟨exS, 1, 0⟩]
def exQ : List Pl := [⟨exS, 0, 1⟩, ⟨exT, 0, 0⟩]
set_option maxRecDepth 100000
theorem ex_one : oneV (exW.take 1) exH [] exS = (exP, 0) := by decide +kernel
theorem ex_p1 : possV exW exH 0 3 = (true, 0) := by decide +kernel
theorem ex_p2 : possV exW exH 1 100 = (false, 0) := by decide +kernel
theorem ex_as : assignV exW exH [] 100 = (exQ, 0) := by decide +kernel
theorem ex_p3 : possV exW exH 0 2 = (false, 11) := by decide +kernel
end Go.Proofs.YtklfficlegfhjaaGreat
/- awake; few; limit. -/
namespace Go.Proofs.YtklfficlegfhjaaGreat
open Go Go.RowKit Go.Shelf Gf Sha

theorem bldWt (x : Wt) (w : World) : (Instr.build 74 #[(0, .string (strB x.st)), (1, .int .i64 x.sz), (2, .int .i64 x.da), (3, .int .i64 x.to)]).run Tryz.prog w = .ok (.agg (wtL x).toArray) w := by kernel_rfl
theorem bldHd (x : Hd) (w : World) : (Instr.build 76 #[(0, .int .i64 x.dv), (1, .int .i64 x.qt), (2, .int .i64 x.wt)]).run Tryz.prog w = .ok (.agg (hdL x).toArray) w := by kernel_rfl
theorem bldHd2 (d q : Int) (w : World) : (Instr.build 76 #[(0, .int .i64 d), (1, .int .i64 q)]).run Tryz.prog w = .ok (.agg (hdL ⟨d, q, 0⟩).toArray) w := by kernel_rfl
theorem bldPi1 (s : List UInt8) (w : World) : (Instr.build 78 #[(0, .string (strB s))]).run Tryz.prog w = .ok (.agg (piL s 0).toArray) w := by kernel_rfl
theorem bldPi2 (s : List UInt8) (i : Int) (w : World) : (Instr.build 78 #[(0, .string (strB s)), (1, .int .i64 i)]).run Tryz.prog w = .ok (.agg (piL s i).toArray) w := by kernel_rfl
theorem bldRpl (s : List UInt8) (i d : Int) (w : World) : (Instr.build 80 #[(0, .agg (piL s i).toArray), (1, .int .i64 d)]).run Tryz.prog w = .ok (.agg (plL ⟨s, i, d⟩).toArray) w := by kernel_rfl
theorem bslW2 (x y : Wt) (w : World) : (Instr.buildSlice 22 2 #[(0, .agg (wtL x).toArray), (1, .agg (wtL y).toArray)]).run Tryz.prog w = .ok (.slice (some ⟨w.heap.size, 0, none⟩) 2 2) (w.alloc (.cells (wtL x ++ wtL y).toArray 74)) := by kernel_rfl
theorem bslH3 (x y z : Hd) (w : World) : (Instr.buildSlice 23 3 #[(0, .agg (hdL x).toArray), (1, .agg (hdL y).toArray), (2, .agg (hdL z).toArray)]).run Tryz.prog w = .ok (.slice (some ⟨w.heap.size, 0, none⟩) 3 3) (w.alloc (.cells (hdL x ++ hdL y ++ hdL z).toArray 76)) := by kernel_rfl
theorem bslR2 (x y : Pl) (w : World) : (Instr.buildSlice 34 2 #[(0, .agg (plL x).toArray), (1, .agg (plL y).toArray)]).run Tryz.prog w = .ok (.slice (some ⟨w.heap.size, 0, none⟩) 2 2) (w.alloc (.cells (plL x ++ plL y).toArray 80)) := by kernel_rfl
theorem blk_ls {α : Type} {C : α → List Value} {ok : α → Prop} {s b g n : Nat} {te : TypeId} {w : World} {L : List α} (h : BL w g te (L.flatMap C)) (hC : ∀ x, (C x).length = s) (hok : ∀ x ∈ L, ok x) (hn : L.length = n) (hl : n * b ≤ lim) (hm : n ≤ maxLen) : LS (fun _ cs x => cs = C x ∧ ok x) s b w (some ⟨g, 0, none⟩) n n L := by
 have hfl : (L.flatMap C).length = n * s := by
  rw [← hn]
  clear h hok hn
  induction L with
  | nil => simp
  | cons x L ih => rw [List.flatMap_cons, List.length_append, hC, ih, List.length_cons, Nat.succ_mul]; omega
 have ho : OwnC C s te w g (.slice (some ⟨g, 0, none⟩) n n) L := ⟨by rw [hn]; exact RW.of_blk h hfl hm, fun b hb => by cases hb; exact Nat.le_refl _⟩
 obtain ⟨A, c, e, hls⟩ := ho.ls (R := fun _ cs x => cs = C x ∧ ok x) (b := b) hC (fun x hx => ⟨rfl, hok x hx⟩) (by rw [hn]; exact hl)
 rw [hn] at e hls
 cases e
 exact hls
theorem exS_ok : exS.length ≤ reachBytes ∧ exT.length ≤ reachBytes := by unfold reachBytes exS exT; decide
theorem exW_ok : ∀ x ∈ exW, okWt x := fun x hx => by
 simp only [exW, List.mem_cons, List.not_mem_nil, or_false] at hx
 rcases hx with rfl | rfl
 ·
  exact ⟨exS_ok.1, by rfl, by rfl, by rfl⟩
 ·
  exact ⟨exS_ok.2, by rfl, by rfl, by rfl⟩
theorem exH_ok : ∀ x ∈ exH, okHd x := fun x hx => by
 simp only [exH, List.mem_cons, List.not_mem_nil, or_false] at hx
 rcases hx with rfl | rfl | rfl <;> exact ⟨by rfl, by rfl, by rfl⟩
theorem exP_ok : ∀ x ∈ exP, okPl x := fun x hx => by
 simp only [exP, List.mem_cons, List.not_mem_nil, or_false] at hx
 rcases hx with rfl | rfl <;> exact ⟨exS_ok.1, by rfl, by rfl⟩
theorem exQ_ok : ∀ x ∈ exQ, okPl x := fun x hx => by
 simp only [exQ, List.mem_cons, List.not_mem_nil, or_false] at hx
 rcases hx with rfl | rfl
 ·
  exact ⟨exS_ok.1, by rfl, by rfl⟩
 ·
  exact ⟨exS_ok.2, by rfl, by rfl⟩
set_option maxRecDepth 100000 in
set_option maxHeartbeats 4000000 in
theorem awake_any (w : World) : Calls Tryz.prog 10 #[] w fun e w' => e = .returned (.bool true) ∧ Below w.heap.size w w' := by
 go_enter Tryz.func10, Tryz.ntmps10
 go_wp2_with (first
  | ((with_reducible show OpW 13); refine wpList_build _ rfl 74 _ rfl #[(0, .string (strB exS)), (1, .int .i64 10), (2, .int .i64 1), (3, .int .i64 3)] (by rw [List.map_toArray]; rfl) (.agg (wtL ⟨exS, 10, 1, 3⟩).toArray) (bldWt ⟨exS, 10, 1, 3⟩ _) ?_)
  | ((with_reducible show OpW 14); refine wpList_build _ rfl 74 _ rfl #[(0, .string (strB exT)), (1, .int .i64 10), (2, .int .i64 1), (3, .int .i64 3)] (by rw [List.map_toArray]; rfl) (.agg (wtL ⟨exT, 10, 1, 3⟩).toArray) (bldWt ⟨exT, 10, 1, 3⟩ _) ?_)
  | ((with_reducible show OpW 15); refine wpList_bslice _ rfl 22 74 2 _ rfl #[(0, .agg (wtL ⟨exS, 10, 1, 3⟩).toArray), (1, .agg (wtL ⟨exT, 10, 1, 3⟩).toArray)] (by rw [List.map_toArray]; rfl) (wtL ⟨exS, 10, 1, 3⟩ ++ wtL ⟨exT, 10, 1, 3⟩) (bslW2 _ _ _) ?_; intro w1 a1 a2 a3; have HW1 : Hid (LS rWt 4 40 w1 (some ⟨w.heap.size, 0, none⟩) 2 2 exW) := Lib.hid (blk_ls (C := fun x => wtL x) (L := exW) a1 wtL_len exW_ok rfl (by decide) (by decide)); have HB1 := Lib.hid a2; clear a1 a2 a3)
  | ((with_reducible show OpW 16); refine wpList_build _ rfl 76 _ rfl #[(0, .int .i64 0), (1, .int .i64 10), (2, .int .i64 1)] (by rw [List.map_toArray]; rfl) (.agg (hdL ⟨0, 10, 1⟩).toArray) (bldHd ⟨0, 10, 1⟩ _) ?_)
  | ((with_reducible show OpW 17); refine wpList_build _ rfl 76 _ rfl #[(0, .int .i64 1), (1, .int .i64 10), (2, .int .i64 5)] (by rw [List.map_toArray]; rfl) (.agg (hdL ⟨1, 10, 5⟩).toArray) (bldHd ⟨1, 10, 5⟩ _) ?_)
  | ((with_reducible show OpW 18); refine wpList_build _ rfl 76 _ rfl #[(0, .int .i64 2), (1, .int .i64 5)] (by rw [List.map_toArray]; rfl) (.agg (hdL ⟨2, 5, 0⟩).toArray) (bldHd2 2 5 _) ?_)
  | ((with_reducible show OpW 19); refine wpList_bslice _ rfl 23 76 3 _ rfl #[(0, .agg (hdL ⟨0, 10, 1⟩).toArray), (1, .agg (hdL ⟨1, 10, 5⟩).toArray), (2, .agg (hdL ⟨2, 5, 0⟩).toArray)] (by rw [List.map_toArray]; rfl) (hdL ⟨0, 10, 1⟩ ++ hdL ⟨1, 10, 5⟩ ++ hdL ⟨2, 5, 0⟩) (bslH3 _ _ _ _) ?_; intro w2 a1 a2 a3; have HH2 : Hid (LS rHd 3 24 w2 (some ⟨w1.heap.size, 0, none⟩) 3 3 exH) := Lib.hid (blk_ls (C := fun x => hdL x) (L := exH) a1 hdL_len' exH_ok rfl (by decide) (by decide)); have HB2 := Lib.hid (below_then HB1.out a2); have HW2 := Lib.hid (HW1.out.kept stay_wt a2); clear a1 a2 a3)
  | ((with_reducible show OpW 22); refine wpList_preM rfl (.tmp 21) (.const (.int .i64 1)) 22 74 4 rfl Tryz.underlying22 (agg_size _ (show Agg Tryz.prog 74 4 = true by kernel_rfl)) (some ⟨w.heap.size, 0, none⟩) 2 2 1 rfl rfl (by omega) (by omega) ?_)
  | (go_at_call 16; refine (one_any _ 1 2 (exW.take 1) _ 3 3 exH none 0 0 [] exS w2 (HW2.out.pre (by omega)) HH2.out LS.nil (by omega)).mono ?_; rintro e w3 ⟨A3, n3, c3, rfl, r1, r2⟩; rw [ex_one] at r1 ⊢; have HP3 := Lib.hid r1; have HB3 := Lib.hid (below_then HB2.out r2); have HW3 := Lib.hid (HW2.out.kept stay_wt r2); have HH3 := Lib.hid (HH2.out.kept stay_hd r2); clear r1 r2)
  | (go_at_call 24; (with_reducible show Calls _ _ #[_, _, .int .i64 0, .int .i64 3] _ _); refine (possible_any _ 2 2 exW _ 3 3 exH 0 3 w3 HW3.out HH3.out).mono ?_; rintro e w4 ⟨rfl, r2⟩; rw [ex_p1]; have HB4 := Lib.hid (below_then HB3.out r2); have HW4 := Lib.hid (HW3.out.kept stay_wt r2); have HH4 := Lib.hid (HH3.out.kept stay_hd r2); have HP4 := Lib.hid (HP3.out.kept stay_pl r2); clear r2)
  | (go_at_call 24; (with_reducible show Calls _ _ #[_, _, .int .i64 1, .int .i64 100] _ _); refine (possible_any _ 2 2 exW _ 3 3 exH 1 100 w4 HW4.out HH4.out).mono ?_; rintro e w5 ⟨rfl, r2⟩; rw [ex_p2]; have HB5 := Lib.hid (below_then HB4.out r2); have HW5 := Lib.hid (HW4.out.kept stay_wt r2); have HH5 := Lib.hid (HH4.out.kept stay_hd r2); have HP5 := Lib.hid (HP4.out.kept stay_pl r2); clear r2)
  | (go_at_call 28; refine (assign_any _ 2 2 exW _ 3 3 exH none 0 0 [] 100 w5 HW5.out HH5.out LS.nil (by omega)).mono ?_; rintro e w6 ⟨A6, n6, c6, rfl, r1, r2⟩; rw [ex_as] at r1 ⊢; have HQ6 := Lib.hid r1; have HB6 := Lib.hid (below_then HB5.out r2); have HW6 := Lib.hid (HW5.out.kept stay_wt r2); have HH6 := Lib.hid (HH5.out.kept stay_hd r2); have HP6 := Lib.hid (HP5.out.kept stay_pl r2); clear r1 r2)
  | (go_at_call 24; (with_reducible show Calls _ _ #[_, _, .int .i64 0, .int .i64 2] _ _); refine (possible_any _ 2 2 exW _ 3 3 exH 0 2 w6 HW6.out HH6.out).mono ?_; rintro e w7 ⟨rfl, r2⟩; rw [ex_p3]; have HB7 := Lib.hid (below_then HB6.out r2); have HQ7 := Lib.hid (HQ6.out.kept stay_pl r2); have HP7 := Lib.hid (HP6.out.kept stay_pl r2); clear r2)
  | (go_at_call 15; (with_reducible show Calls _ _ #[.slice A3 n3 c3] _ _); refine (of_rpl _ _ _ exP w7 HP7.out).mono ?_; rintro e w8 ⟨A8, c8, rfl, r1, r2⟩; have HP8 := Lib.hid r1; have HB8 := Lib.hid (below_then HB7.out r2); have HQ8 := Lib.hid (HQ7.out.kept stay_pl r2); clear r1 r2)
  | ((with_reducible show OpW 79); refine wpList_buildg _ rfl 78 _ rfl #[(0, .string (strB exS))] (by rw [List.map_toArray]; rfl) _ (bldPi1 exS _) ?_)
  | ((with_reducible show OpW 80); refine wpList_buildg _ rfl 80 _ rfl #[(0, .agg (piL exS 0).toArray), (1, .int .i64 1)] (by rw [List.map_toArray]; rfl) _ (bldRpl exS 0 1 _) ?_)
  | ((with_reducible show OpW 81); refine wpList_buildg _ rfl 78 _ rfl #[(0, .string (strB exS)), (1, .int .i64 1)] (by rw [List.map_toArray]; rfl) _ (bldPi2 exS 1 _) ?_)
  | ((with_reducible show OpW 82); refine wpList_buildg _ rfl 80 _ rfl #[(0, .agg (piL exS 1).toArray), (1, .int .i64 0)] (by rw [List.map_toArray]; rfl) _ (bldRpl exS 1 0 _) ?_)
  | ((with_reducible show OpW 83); refine wpList_bsliceg _ rfl 34 80 2 _ rfl #[(0, .agg (plL ⟨exS, 0, 1⟩).toArray), (1, .agg (plL ⟨exS, 1, 0⟩).toArray)] (by rw [List.map_toArray]; rfl) (plL ⟨exS, 0, 1⟩ ++ plL ⟨exS, 1, 0⟩) (bslR2 _ _ _) ?_; intro w9 a1 a2 a3; have HE9 : Hid (LS rPl 3 32 w9 (some ⟨w8.heap.size, 0, none⟩) 2 2 exP) := Lib.hid (blk_ls (C := fun x => plL x) (L := exP) a1 plL_len' exP_ok rfl (by decide) (by decide)); have HB9 := Lib.hid (below_then HB8.out a2); have HP9 := Lib.hid (HP8.out.kept stay_pl a2); have HQ9 := Lib.hid (HQ8.out.kept stay_pl a2); clear a1 a2 a3)
  | (go_at_call 21; (with_reducible show Calls _ _ #[.slice A8 _ c8, _] _ _); refine (rsame_any _ _ _ exP _ _ _ exP w9 HP9.out HE9.out).mono ?_; rintro e wa ⟨rfl, r2⟩; rw [decide_eq_true (rfl : exP = exP)]; have HBa := Lib.hid (below_then HB9.out r2); have HQa := Lib.hid (HQ9.out.kept stay_pl r2); clear r2)
  | (go_at_call 15; (with_reducible show Calls _ _ #[.slice A6 n6 c6] _ _); refine (of_rpl _ _ _ exQ wa HQa.out).mono ?_; rintro e wb ⟨Ab, cb, rfl, r1, r2⟩; have HQb := Lib.hid r1; have HBb := Lib.hid (below_then HBa.out r2); clear r1 r2)
  | ((with_reducible show OpW 89); refine wpList_buildg _ rfl 78 _ rfl #[(0, .string (strB exS))] (by rw [List.map_toArray]; rfl) _ (bldPi1 exS _) ?_)
  | ((with_reducible show OpW 90); refine wpList_buildg _ rfl 80 _ rfl #[(0, .agg (piL exS 0).toArray), (1, .int .i64 1)] (by rw [List.map_toArray]; rfl) _ (bldRpl exS 0 1 _) ?_)
  | ((with_reducible show OpW 91); refine wpList_buildg _ rfl 78 _ rfl #[(0, .string (strB exT))] (by rw [List.map_toArray]; rfl) _ (bldPi1 exT _) ?_)
  | ((with_reducible show OpW 92); refine wpList_buildg _ rfl 80 _ rfl #[(0, .agg (piL exT 0).toArray), (1, .int .i64 0)] (by rw [List.map_toArray]; rfl) _ (bldRpl exT 0 0 _) ?_)
  | ((with_reducible show OpW 93); refine wpList_bsliceg _ rfl 34 80 2 _ rfl #[(0, .agg (plL ⟨exS, 0, 1⟩).toArray), (1, .agg (plL ⟨exT, 0, 0⟩).toArray)] (by rw [List.map_toArray]; rfl) (plL ⟨exS, 0, 1⟩ ++ plL ⟨exT, 0, 0⟩) (bslR2 _ _ _) ?_; intro wc a1 a2 a3; have HEc : Hid (LS rPl 3 32 wc (some ⟨wb.heap.size, 0, none⟩) 2 2 exQ) := Lib.hid (blk_ls (C := fun x => plL x) (L := exQ) a1 plL_len' exQ_ok rfl (by decide) (by decide)); have HBc := Lib.hid (below_then HBb.out a2); have HQc := Lib.hid (HQb.out.kept stay_pl a2); clear a1 a2 a3)
  | (go_at_call 21; (with_reducible show Calls _ _ #[.slice Ab _ cb, _] _ _); refine (rsame_any _ _ _ exQ _ _ _ exQ wc HQc.out HEc.out).mono ?_; rintro e wd ⟨rfl, r2⟩; rw [decide_eq_true (rfl : exQ = exQ)]; have HBd := Lib.hid (below_then HBc.out r2); clear r2))
 go_ret
 exact ⟨rfl, HBd.out⟩
end Go.Proofs.YtklfficlegfhjaaGreat
