/- Several texts in one: In, Io. -/
import Derived.Test.YtheijpjfpaghfaaGreatDoorC45
import Derived.Test.YtheijpjfpaghfaaGreatDoorC41
/- ref44.Encode: plain; appends of several elements. -/
namespace Go.Proofs.YtheijpjfpaghfaaGreatDoor
open Go Go.RowKit Gf Sha

/-- The values that the reference encodes. -/
def itR (e : En) : List It44 := .sm e.s :: .it e.i.toNat :: .ct e.tk.length :: (e.tk.flatMap (fun x => [It44.sm x.1, It44.sm x.2]) ++ (.ct e.us.length :: e.us.map It44.sm))
def itL (l : List En) : List It44 := .ct l.length :: l.flatMap itR
theorem itR_enc (e : En) : (itR e).flatMap itE = encR e := by
 have h1 : ∀ tk : List Sc, (tk.flatMap (fun x => [It44.sm x.1, It44.sm x.2])).flatMap itE = encT tk := fun tk => by
  induction tk with
  | nil => rfl
  | cons x tk ih => simp only [List.flatMap_cons, List.flatMap_append, ih, encT]; simp [itE]
 have h2 : ∀ us : List (List UInt8), (us.map It44.sm).flatMap itE = us.flatten := fun us => by
  induction us with
  | nil => rfl
  | cons x us ih => simp only [List.map_cons, List.flatMap_cons, ih, List.flatten_cons]; rfl
 unfold itR encR
 simp only [List.flatMap_cons, List.flatMap_append, h1, h2]
 rfl
theorem itL_enc (l : List En) : (itL l).flatMap itE = encE l := by
 have h1 : (l.flatMap itR).flatMap itE = l.flatMap encR := by
  induction l with
  | nil => rfl
  | cons x l ih => simp only [List.flatMap_cons, List.flatMap_append, ih, itR_enc]
 unfold itL encE
 rw [List.flatMap_cons, h1]
 rfl
theorem itL_ok {l : List En} (h : ∀ e ∈ l, GoodE e) (hl : l.length < 4611686018427387904) (h2 : ∀ e ∈ l, e.tk.length ≤ 100000 ∧ e.us.length ≤ 100000) : ∀ x ∈ itL l, ItOk x := by
 intro x hx
 rcases List.mem_cons.1 hx with rfl | hx
 ·
  exact hl
 ·
  obtain ⟨e, he, hx⟩ := List.mem_flatMap.1 hx
  have hg := h e he
  have h3 := h2 e he
  have h4 := hg.i1
  have h5 := hg.i0
  simp only [itR, List.mem_cons, List.mem_append, List.mem_flatMap, List.mem_map, List.not_mem_nil, or_false] at hx
  rcases hx with rfl | rfl | rfl | ⟨y, hy, rfl | rfl⟩ | rfl | ⟨y, hy, rfl⟩
  ·
   exact hg.s
  ·
   show e.i.toNat < _; omega
  ·
   show e.tk.length < _; omega
  ·
   exact (hg.t y hy).1
  ·
   exact (hg.t y hy).2
  ·
   show e.us.length < _; omega
  ·
   exact hg.u y hy
section
variable {P : Program} {w : World} {o : Oper} {a : Act} {Q : Exit → Act → World → Prop} {K : Act → World → Prop}
/-- append(r, ..) of a new block of m elements. -/
theorem wp_appRm (sl x : Operand) (t te : TypeId) (s : Nat) (i : TypeInfo) (z : Value) (hop : o.op = .call { callee := .builtin .append, args := #[sl, x], argTypes := #[t, t] })
  (ht : P.underlying t = some (.slice te)) (hi : P.info? te = some i) (hz : i.zero = some z) (hs : i.size = s) (hzs : z.cells.size = s) (v : Value) (n : Nat) (l : List Value) (hv : a.eval sl = v) (h : RW w te s v n l)
  (g m : Nat) (xs : List Value) (hx : a.eval x = .slice (some ⟨g, 0, none⟩) m m) (hbl : BL w g te xs) (hxl : xs.length = m * s) (hm : 0 < m) (hm2 : m ≤ 1000) (h1 : ∀ u ∈ xs, u.oneCell' = true) (hb : (n + m) * i.bytes ≤ 140737488355328) (hn : n + m ≤ 140737488355328)
  (hK : ∀ v' w', AppR w te s v n m l xs v' w' → K (a.put o.dst v') w') : o.wp P a w K Q := by
 have hrow : RW w te s (.slice (some ⟨g, 0, none⟩) m m) m xs := RW.of_blk hbl hxl (by simp only [maxLen]; omega)
 have hsrc : Src P s t (.slice (some ⟨g, 0, none⟩) m m) m xs w := ⟨.inl ⟨_, ht⟩, fun _ => rfl, hrow.firstCells, RW.firstCells hrow.drew, hxl, h1⟩
 obtain ⟨v', w', hrun, h2⟩ := run_appRW (rt := o.type) ht hi hz hs hzs h hsrc hm hb hn
 unfold Oper.wp execOp
 simp only [hop, resolve, invoke, builtin, Sem.run_bind, Sem.run_pure, Result.andThen_ok, List.map_toArray, List.map_cons, List.map_nil, hv, hx, hrun]
 exact hK _ _ h2
end
theorem infoVa : (Tryz.prog.info? 100).map (fun i => (i.zero, i.size, i.bytes)) = some (some (.agg (vaC 0 0 [] 0).toArray), 6, 56) := by kernel_rfl
theorem bslVa1 (k n : Int) (s : List UInt8) (w : World) : (Instr.buildSlice 120 1 #[(0, .agg (vaC k n s 0).toArray)]).run Tryz.prog w = .ok (.slice (some ⟨w.heap.size, 0, none⟩) 1 1) (w.alloc (.cells (vaC k n s 0).toArray 100)) := by kernel_rfl
theorem bslVa2 (s t : List UInt8) (w : World) : (Instr.buildSlice 120 2 #[(0, .agg (vaC 6 0 s 0).toArray), (1, .agg (vaC 6 0 t 0).toArray)]).run Tryz.prog w = .ok (.slice (some ⟨w.heap.size, 0, none⟩) 2 2) (w.alloc (.cells (vaC 6 0 s 0 ++ vaC 6 0 t 0).toArray 100)) := by kernel_rfl
theorem bslVa3 (s : List UInt8) (i n : Int) (w : World) : (Instr.buildSlice 120 3 #[(0, .agg (vaC 6 0 s 0).toArray), (1, .agg (vaC 2 i [] 0).toArray), (2, .agg (vaC 7 n [] 0).toArray)]).run Tryz.prog w = .ok (.slice (some ⟨w.heap.size, 0, none⟩) 3 3) (w.alloc (.cells (vaC 6 0 s 0 ++ (vaC 2 i [] 0 ++ vaC 7 n [] 0)).toArray 100)) := by kernel_rfl
end Go.Proofs.YtheijpjfpaghfaaGreatDoor
/- ref44.Encode: its walk. -/
namespace Go.Proofs.YtheijpjfpaghfaaGreatDoor
open Go Go.RowKit Gf Sha

/-- A list of values under construction. -/
structure VL (w0 w : World) (v : Value) (L : List It44) : Prop where
 row : RW w 100 6 v L.length (L.flatMap itC)
 own : ∀ q, v.ownBlock = some q → w0.heap.size ≤ q
theorem VL.kept {w0 w w' : World} {v : Value} {L : List It44} (h : VL w0 w v L) (hb : Below w.heap.size w w') : VL w0 w' v L := ⟨h.row.kept hb, h.own⟩
theorem VL.push {w0 w w' : World} {v v' : Value} {L M : List It44} {m : Nat} {xs : List Value} (h : VL w0 w v L) (hb : w0.heap.size ≤ w.heap.size) (hm : M.length = m) (hx : M.flatMap itC = xs) (ap : AppR w 100 6 v L.length m (L.flatMap itC) xs v' w') : VL w0 w' v' (L ++ M) := by
 refine ⟨?_, fun q hq => (ap.own q hq).elim (h.own q) (fun h9 => by omega)⟩
 have h9 := ap.row
 rw [List.length_append, List.flatMap_append, hm, hx]
 exact h9
set_option maxRecDepth 100000 in
set_option maxHeartbeats 4000000 in
theorem rencode44_any (w : World) (v : Value) (rs : List Se) (h : RLp w v rs) (hgd : ∀ x ∈ rs, GoodE x.e) (hn : rs.length ≤ 4096) (hil : (itL (rs.map (·.e))).length ≤ 1000000) (hlen : (encE (rs.map (·.e))).length ≤ 1000000) :
  Calls Tryz.prog 21 #[v] w fun e w' => ∃ A m c, e = .returned (.slice A m c) ∧ BS w' A m c (encE (rs.map (·.e))) ∧ Below w.heap.size w w' := by
 obtain ⟨Av, cv, ev, _⟩ := h.row.form
 have H := Lib.hid h
 obtain ⟨n, hn2⟩ : ∃ n, n = rs.length := ⟨_, rfl⟩
 rw [← hn2] at ev hn
 subst ev
 have HROW := Lib.hid h.row
 rw [← hn2] at HROW
 have HN := Lib.hid hn2
 have HGD := Lib.hid hgd
 have HIL := Lib.hid hil
 have HLEN := Lib.hid hlen
 have hbV : ∀ (n : Int) (w : World), (Instr.build 100 #[(0, .int .i64 2), (2, .int .i64 n)]).run Tryz.prog w = .ok (.agg (vaC 2 n [] 0).toArray) w := bldVi
 clear h hn2 hgd hil hlen
 go_enter Tryz.func21, Tryz.ntmps21
 go_wp2_with (first
  | (go_at_call 54; refine (rcount44 (n : Int) w).mono ?_; rintro e w1 ⟨rfl, b1⟩; have HB1 := Lib.hid b1; clear b1)
  | ((with_reducible show OpW 15); refine wpList_bslice _ rfl 120 100 1 _ rfl #[(0, .agg (vaC 7 (n : Int) [] 0).toArray)] (by rw [List.map_toArray]; rfl) (vaC 7 (n : Int) [] 0) (by exact bslVa1 _ _ _ _) ?_; intro w2 a1 a2 a3; have HL2 : Hid (VL w w2 (.slice (some ⟨w1.heap.size, 0, none⟩) 1 1) [.ct n]) := Lib.hid ⟨RW.of_blk a1 rfl (by decide), fun q e => by cases e; exact HB1.out.size⟩; have HB2 := Lib.hid (below_thenB HB1.out HB1.out.size a2); clear a1 a2 a3))
 go_loopw [3, 18] (fun lv iv wr => ∃ k : Nat, k ≤ n ∧ iv = .int .i64 (k : Int) ∧ Hid (VL w wr lv (.ct n :: ((rs.take k).map (·.e)).flatMap itR)) ∧ Hid (Below w.heap.size w wr)) (fun _ iv _ => n - (intOf iv).toNat)
 case atStart => exact ⟨0, by omega, rfl, HL2, HB2⟩
 case round =>
  obtain ⟨k, hk, rfl, hvl, hb⟩ := hrel
  obtain ⟨wx, hwx⟩ : ∃ x, x = wr := ⟨_, rfl⟩
  rw [← hwx] at hvl hb ⊢
  clear hwx
  by_cases hlt : k < n
  ·
   have hkl : k < rs.length := by rw [← HN.out]; exact hlt
   obtain ⟨g', o', c', e, _, hat⟩ := HROW.out.at_ (by omega)
   cases e
   obtain ⟨x, hx⟩ : ∃ x, x = rs[k] := ⟨_, rfl⟩
   have hxm : x ∈ rs := by rw [hx]; exact List.getElem_mem hkl
   have HAT := Lib.hid ((At.elem (f := seC) seC_length hat hkl).kept hb.out)
   rw [← hx] at HAT
   have HTK : Hid (((rs.take (k + 1)).map (·.e)).flatMap itR = ((rs.take k).map (·.e)).flatMap itR ++ itR x.e) := Lib.hid (by rw [List.take_succ_eq_append_getElem hkl, ← hx, List.map_append, List.flatMap_append]; simp)
   have HPL : Hid ((It44.ct n :: ((rs.take k).map (·.e)).flatMap itR).length + (itR x.e).length ≤ 1000000) := Lib.hid (by
    have h1 := HIL.out
    have h2 : rs.map (·.e) = (rs.take k).map (·.e) ++ x.e :: (rs.drop (k + 1)).map (·.e) := by
     conv => lhs; rw [← List.take_append_drop k rs, List.drop_eq_getElem_cons hkl, ← hx]
     rw [List.map_append, List.map_cons]
    unfold itL at h1
    rw [h2] at h1
    simp only [List.length_cons, List.flatMap_append, List.flatMap_cons, List.length_append] at h1 ⊢
    omega)
   have HGX := Lib.hid (HGD.out x hxm)
   have HSX := Lib.hid (H.out.ok x hxm)
   clear hat hx hxm
   obtain ⟨⟨sx, zx, tk, us⟩, tvx, uvx⟩ := x
   obtain ⟨A1, c1, e1, _⟩ := HSX.out.t.form
   obtain ⟨A2, c2, e2, _⟩ := HSX.out.u.form
   replace e1 : tvx = .slice A1 tk.length c1 := e1
   replace e2 : uvx = .slice A2 us.length c2 := e2
   subst e1 e2
   have hz0 : 0 ≤ zx := HGX.out.i0
   obtain ⟨zi, rfl⟩ : ∃ k : Nat, zx = (k : Int) := ⟨zx.toNat, by omega⟩
   obtain ⟨p, hp⟩ : ∃ p, p = tk.length := ⟨_, rfl⟩
   obtain ⟨q, hq⟩ : ∃ p, p = us.length := ⟨_, rfl⟩
   have HT : Hid (RW w 45 4 (.slice A1 p c1) p (tk.flatMap (tokC sx (zi : Int)))) := Lib.hid (by rw [hp]; exact HSX.out.t)
   have HU : Hid (RW w 9 1 (.slice A2 q c2) q (us.map usC)) := Lib.hid (by rw [hq]; exact HSX.out.u)
   have HAT : Hid (At wx g' (o' + k * 4) [.string (strB sx), .int .i64 (zi : Int), .slice A1 p c1, .slice A2 q c2]) := Lib.hid (by rw [hp, hq]; exact HAT.out)
   have HTP := Lib.hid hp
   have HUQ := Lib.hid hq
   clear hp hq
   obtain ⟨P0, hP0⟩ : ∃ l, l = It44.ct n :: ((rs.take k).map (·.e)).flatMap itR := ⟨_, rfl⟩
   rw [← hP0] at hvl HPL
   have HP0 := Lib.hid hP0
   clear hP0
   go_wp2_with (first
    | ((with_reducible show OpW 21); refine wpList_loadv _ rfl 54 (.tmp 20) rfl 4 (by kernel_rfl) g' (o' + k * 4) [.string (strB sx), .int .i64 (zi : Int), .slice A1 p c1, .slice A2 q c2] (by go_simp) HAT.out rfl ?_)
    | ((with_reducible show OpW 5); refine wpList_alloc _ rfl 54 rfl reZ reZeroF ?_; intro y1 a1 a2 a3; have HE1 := Lib.hid a1; have HX1 := Lib.hid a2; clear a1 a2 a3)
    | ((with_reducible show OpN); refine wpList_storev _ rfl 54 (.tmp 5) (.tmp 21) rfl 4 (by kernel_rfl) wx.heap.size 0 _ reZ [.string (strB sx), .int .i64 (zi : Int), .slice A1 p c1, .slice A2 q c2] rfl rfl HE1.out rfl (one_val _ rfl) (by decide) ?_; intro y2 a1 a2 a3; have HE2 : Hid (BL y2 wx.heap.size 54 [.string (strB sx), .int .i64 (zi : Int), .slice A1 p c1, .slice A2 q c2]) := Lib.hid a1; have HX2 : Hid (Below wx.heap.size wx y2) := Lib.hid (low_own HX1.out a2 (fun i hi e => by omega)); clear a1 a2 a3)
    | fail)
   have HC2 : Hid (∀ w', Below y2.heap.size y2 w' → w'.cell? ⟨wx.heap.size, 0, none⟩ = some (.string (strB sx)) ∧ w'.cell? ⟨wx.heap.size, 1, none⟩ = some (.int .i64 (zi : Int)) ∧ w'.cell? ⟨wx.heap.size, 2, none⟩ = some (.slice A1 p c1)) := Lib.hid (fun w' hb => ⟨(HE2.out.kept hb).get (j := 0) rfl, (HE2.out.kept hb).get (j := 1) rfl, (HE2.out.kept hb).get (j := 2) rfl⟩)
   refine Text.wp_region_text (fun w' => w'.cell? ⟨wx.heap.size, 0, none⟩ = some (.string (strB sx)) ∧ w'.cell? ⟨wx.heap.size, 1, none⟩ = some (.int .i64 (zi : Int)) ∧ w'.cell? ⟨wx.heap.size, 2, none⟩ = some (.slice A1 p c1)) [(0, 4), (1, 4), (2, 4), (5, 4), (6, 4), (9, 4), (3, 0), (7, 0), (8, 4), (10, 0), (11, 4), (4, 2), (12, 2), (13, 2), (14, 2), (15, 4)] (by kernel_rfl) (by kernel_rfl) (fun _ _ _ _ _ h => h) (HC2.out _ (Below.refl _ _).drew) ?_
   iterate 6 (refine Text.purek rfl rfl (fun K hK => ⟨_, fun w' => by go_simp <;> rfl, ?_⟩); go_simp; refine hK _ ?_; clear hK K)
   iterate 2 (refine Text.heldk rfl rfl (fun K hK => ⟨_, fun w' hw' => by go_simp <;> rfl, ?_⟩); go_simp; refine hK _ ?_; clear hK K)
   (refine Text.purek rfl rfl (fun K hK => ⟨_, fun w' => by go_simp <;> rfl, ?_⟩); go_simp; refine hK _ ?_; clear hK K)
   (refine Text.heldk rfl rfl (fun K hK => ⟨_, fun w' hw' => by go_simp <;> rfl, ?_⟩); go_simp; refine hK _ ?_; clear hK K)
   (refine Text.purek rfl rfl (fun K hK => ⟨_, fun w' => by go_simp <;> rfl, ?_⟩); go_simp; refine hK _ ?_; clear hK K)
   refine Text.eff rfl rfl (fun K hK => ?_)
   go_simp
   refine (rsum44 sx _).mono ?_
   rintro e y3 ⟨rfl, b1⟩
   have HD3 : Hid (Below y2.heap.size y2 y3) := Lib.hid (below_thenB (Below.refl _ _).drew (Nat.le_refl _) b1)
   refine hK _ _ (HC2.out _ HD3.out) ?_
   clear hK K b1
   refine Text.eff rfl rfl (fun K hK => ?_)
   go_simp
   refine (rcount44 (p : Int) _).mono ?_
   rintro e y4 ⟨rfl, b1⟩
   have HD4 : Hid (Below y2.heap.size y2 y4) := Lib.hid (below_thenB HD3.out HD3.out.size b1)
   refine hK _ _ (HC2.out _ HD4.out) ?_
   clear hK K b1
   refine Text.eff rfl rfl (fun K hK => ?_)
   refine wp_bslice 120 100 3 _ rfl #[(0, .agg (vaC 6 0 sx 0).toArray), (1, .agg (vaC 2 (zi : Int) [] 0).toArray), (2, .agg (vaC 7 (p : Int) [] 0).toArray)] (by rw [List.map_toArray]; rfl) (vaC 6 0 sx 0 ++ (vaC 2 (zi : Int) [] 0 ++ vaC 7 (p : Int) [] 0)) (bslVa3 _ _ _ _) ?_
   intro y5 a1 a2 a3
   have HN5 := Lib.hid a1
   have HD5 : Hid (Below y2.heap.size y2 y5) := Lib.hid (below_thenB HD4.out HD4.out.size a2)
   have HV5 := Lib.hid (hvl.out.kept (below_thenB HX2.out HX2.out.size HD5.out))
   have HB5 : Hid (Below w.heap.size w y5) := Lib.hid (below_thenB hb.out hb.out.size (below_thenB HX2.out HX2.out.size HD5.out))
   refine hK _ _ (HC2.out _ HD5.out) ?_
   clear hK K a1 a2 a3
   refine Text.eff rfl rfl (fun K hK => ?_)
   obtain ⟨iS, i1, i2, i3, i4⟩ := info_some infoVa
   refine wp_appRm (.tmp 22) (.tmp 35) 120 100 6 iS _ rfl Tryz.underlying120 i1 i2 i3 rfl _ _ _ rfl HV5.out.row y4.heap.size 3 _ rfl HN5.out rfl (by decide) (by decide) (one_val _ rfl) (by rw [i4]; have := HPL.out; omega) (by have := HPL.out; omega) ?_
   intro lv6 y6 ap
   have HV6 : Hid (VL w y6 lv6 (P0 ++ [.sm sx, .it zi, .ct p])) := Lib.hid (HV5.out.push HB5.out.size rfl rfl ap)
   have HE6 := Lib.hid (ap.kp.bl (HE2.out.kept HD5.out) (fun e => by have := hvl.out.row.lt e; omega))
   have HB6 : Hid (Below w.heap.size w y6) := Lib.hid (low_own HB5.out ap.kp (fun j hj e => by have := hvl.out.own j e; omega))
   have HZ6 : Hid (wx.heap.size < y6.heap.size) := Lib.hid HE6.out.lt
   have HO6 : Hid (lv6.ownBlock ≠ some wx.heap.size) := Lib.hid (fun e => (ap.own _ e).elim (fun h => by have := hvl.out.row.lt h; omega) (fun h => by have := HD5.out.size; have := HE2.out.lt; omega))
   refine hK _ _ ⟨HE6.out.get (j := 0) rfl, HE6.out.get (j := 1) rfl, HE6.out.get (j := 2) rfl⟩ ?_
   have q2 := HE6.out.get (j := 2) rfl
   clear hK K ap i1 i2 i3 i4
   (refine Text.purek rfl rfl (fun K hK => ⟨_, fun w' => by go_simp <;> rfl, ?_⟩); go_simp; refine hK _ ?_; clear hK K)
   refine Text.done ?_
   go_wp2_with fail
   clear HC2
   obtain ⟨P1, hP1⟩ : ∃ l, l = P0 ++ [.sm sx, .it zi, .ct p] := ⟨_, rfl⟩
   have HP1 := Lib.hid hP1
   rw [← hP1] at HV6
   have HPL1 : Hid (P1.length + 2 * p + 1 + q ≤ 1000000) := Lib.hid (by
    have h9 := HPL.out
    have h8 : ∀ tk : List Sc, (tk.flatMap (fun x => [It44.sm x.1, It44.sm x.2])).length = 2 * tk.length := fun tk => by
     induction tk with
     | nil => rfl
     | cons x tk ih => simp only [List.flatMap_cons, List.length_append, ih, List.length_cons, List.length_nil]; omega
    rw [hP1, HTP.out, HUQ.out]
    simp only [itR, List.length_cons, List.length_append, h8, List.length_map, List.length_nil] at h9 ⊢
    omega)
   clear hP1
   have hpb : p ≤ 1000000 := by have := HPL1.out; omega
   have hqb : q ≤ 1000000 := by have := HPL1.out; omega
   go_loopw [3, 40] (fun lv iv wr => ∃ j : Nat, j ≤ p ∧ iv = .int .i64 (j : Int) ∧ Hid (VL w wr lv (P1 ++ (tk.take j).flatMap (fun x => [It44.sm x.1, It44.sm x.2]))) ∧ Hid (lv.ownBlock ≠ some wx.heap.size) ∧ Hid (BL wr wx.heap.size 54 [.string (strB sx), .int .i64 (zi : Int), .slice A1 p c1, .slice A2 q c2]) ∧ Hid (Below w.heap.size w wr)) (fun _ iv _ => p - (intOf iv).toNat)
   case atStart => exact ⟨0, by omega, rfl, Lib.hid (by simpa using HV6.out), HO6, HE6, HB6⟩
   case round =>
    obtain ⟨j, hj, rfl, hvj, hoj, hej, hbj⟩ := hrel
    obtain ⟨wy, hwy⟩ : ∃ x, x = wr := ⟨_, rfl⟩
    rw [← hwy] at hvj hej hbj ⊢
    clear hwy
    by_cases hjp : j < p
    ·
     have hjl : j < tk.length := by rw [← HTP.out]; exact hjp
     obtain ⟨ga, oa, ca, e, _, hat⟩ := HT.out.at_ (by omega)
     cases e
     obtain ⟨x, hx⟩ : ∃ x, x = tk[j] := ⟨_, rfl⟩
     have HAT := Lib.hid ((At.elem (f := tokC sx (zi : Int)) (tokC_len sx (zi : Int)) hat hjl).kept hbj.out)
     rw [← hx] at HAT
     have HTK2 : Hid (P1 ++ (tk.take (j + 1)).flatMap (fun x => [It44.sm x.1, It44.sm x.2]) = P1 ++ (tk.take j).flatMap (fun x => [It44.sm x.1, It44.sm x.2]) ++ [It44.sm x.1, It44.sm x.2]) := Lib.hid (by rw [List.take_succ_eq_append_getElem hjl, ← hx, List.flatMap_append, List.append_assoc]; simp)
     have HLJ : Hid ((P1 ++ (tk.take j).flatMap (fun x => [It44.sm x.1, It44.sm x.2])).length ≤ 1000000) := Lib.hid (by
      have h8 : ∀ tk : List Sc, (tk.flatMap (fun x => [It44.sm x.1, It44.sm x.2])).length = 2 * tk.length := fun tk => by
       induction tk with
       | nil => rfl
       | cons x tk ih => simp only [List.flatMap_cons, List.length_append, ih, List.length_cons, List.length_nil]; omega
      have h9 := HPL1.out
      rw [List.length_append, h8, List.length_take]
      omega)
     clear hat hx
     obtain ⟨a, b⟩ := x
     go_wp2_with (first
      | ((with_reducible show OpW 43); refine wpList_loadv _ rfl 45 (.tmp 42) rfl 4 (by kernel_rfl) ga (oa + j * 4) (tokC sx (zi : Int) (a, b)) (by go_simp) HAT.out rfl ?_)
      | ((with_reducible show OpW 7); refine wpList_alloc _ rfl 45 rfl tokZ tokZero' ?_; intro z1 a1 a2 a3; have HS1 := Lib.hid a1; have HZ1 := Lib.hid a2; clear a1 a2 a3)
      | ((with_reducible show OpN); refine wpList_storev _ rfl 45 (.tmp 7) (.tmp 43) rfl 4 (by kernel_rfl) wy.heap.size 0 _ tokZ (tokC sx (zi : Int) (a, b)) rfl rfl HS1.out rfl (tokC_one _ _ _) (by decide) ?_; intro z2 a1 a2 a3; have HS2 : Hid (BL z2 wy.heap.size 45 (tokC sx (zi : Int) (a, b))) := Lib.hid a1; have HZ2 : Hid (Below wy.heap.size wy z2) := Lib.hid (low_own HZ1.out a2 (fun i hi e => by omega)); clear a1 a2 a3))
     have HC3 : Hid (∀ w', Below z2.heap.size z2 w' → w'.cell? ⟨wy.heap.size, 2, none⟩ = some (.string (strB a)) ∧ w'.cell? ⟨wy.heap.size, 3, none⟩ = some (.string (strB b))) := Lib.hid (fun w' hb => ⟨BL.get (l := tokC sx (zi : Int) (a, b)) (HS2.out.kept hb) (j := 2) rfl, BL.get (l := tokC sx (zi : Int) (a, b)) (HS2.out.kept hb) (j := 3) rfl⟩)
     refine Text.wp_region_text (fun w' => w'.cell? ⟨wy.heap.size, 2, none⟩ = some (.string (strB a)) ∧ w'.cell? ⟨wy.heap.size, 3, none⟩ = some (.string (strB b))) [(0, 4), (1, 4), (4, 4), (2, 0), (5, 0), (3, 2), (6, 2), (7, 2), (8, 2), (9, 4)] (by kernel_rfl) (by kernel_rfl) (fun _ _ _ _ _ h => h) (HC3.out _ (Below.refl _ _).drew) ?_
     iterate 3 (refine Text.purek rfl rfl (fun K hK => ⟨_, fun w' => by go_simp <;> rfl, ?_⟩); go_simp; refine hK _ ?_; clear hK K)
     iterate 2 (refine Text.heldk rfl rfl (fun K hK => ⟨_, fun w' hw' => by go_simp <;> rfl, ?_⟩); go_simp; refine hK _ ?_; clear hK K)
     refine Text.eff rfl rfl (fun K hK => ?_)
     go_simp
     refine (rsum44 a _).mono ?_
     rintro e z3 ⟨rfl, b1⟩
     have HD3' : Hid (Below z2.heap.size z2 z3) := Lib.hid (below_thenB (Below.refl _ _).drew (Nat.le_refl _) b1)
     refine hK _ _ (HC3.out _ HD3'.out) ?_
     clear hK K b1
     refine Text.eff rfl rfl (fun K hK => ?_)
     go_simp
     refine (rsum44 b _).mono ?_
     rintro e z4 ⟨rfl, b1⟩
     have HD4' : Hid (Below z2.heap.size z2 z4) := Lib.hid (below_thenB HD3'.out HD3'.out.size b1)
     refine hK _ _ (HC3.out _ HD4'.out) ?_
     clear hK K b1
     refine Text.eff rfl rfl (fun K hK => ?_)
     refine wp_bslice 120 100 2 _ rfl #[(0, .agg (vaC 6 0 a 0).toArray), (1, .agg (vaC 6 0 b 0).toArray)] (by rw [List.map_toArray]; rfl) (vaC 6 0 a 0 ++ vaC 6 0 b 0) (bslVa2 _ _ _) ?_
     intro z5 a1 a2 a3
     have HN5' := Lib.hid a1
     have HD5' : Hid (Below z2.heap.size z2 z5) := Lib.hid (below_thenB HD4'.out HD4'.out.size a2)
     have HX5' : Hid (Below wy.heap.size wy z5) := Lib.hid (below_thenB HZ2.out HZ2.out.size HD5'.out)
     have HV5' := Lib.hid (hvj.out.kept HX5'.out)
     have HB5' : Hid (Below w.heap.size w z5) := Lib.hid (below_thenB hbj.out hbj.out.size HX5'.out)
     refine hK _ _ (HC3.out _ HD5'.out) ?_
     clear hK K a1 a2 a3
     refine Text.eff rfl rfl (fun K hK => ?_)
     obtain ⟨iS, i1, i2, i3, i4⟩ := info_some infoVa
     refine wp_appRm (.tmp 44) (.tmp 51) 120 100 6 iS _ rfl Tryz.underlying120 i1 i2 i3 rfl _ _ _ rfl HV5'.out.row z4.heap.size 2 _ rfl HN5'.out rfl (by decide) (by decide) (one_val _ rfl) (by rw [i4]; have := HLJ.out; omega) (by have := HLJ.out; omega) ?_
     intro lv7 z6 ap
     have HV7 : Hid (VL w z6 lv7 (P1 ++ (tk.take j).flatMap (fun x => [It44.sm x.1, It44.sm x.2]) ++ [.sm a, .sm b])) := Lib.hid (HV5'.out.push HB5'.out.size rfl rfl ap)
     have HE7 := Lib.hid (ap.kp.bl (hej.out.kept HX5'.out) (fun e => hoj.out e))
     have HB7 : Hid (Below w.heap.size w z6) := Lib.hid (low_own HB5'.out ap.kp (fun i hi e => by have := hvj.out.own i e; omega))
     have HO7 : Hid (lv7.ownBlock ≠ some wx.heap.size) := Lib.hid (fun e => (ap.own _ e).elim hoj.out (fun h => by have := HX5'.out.size; have := hej.out.lt; omega))
     have HS7 := Lib.hid (ap.kp.bl (HS2.out.kept HD5'.out) (fun e => by have := hvj.out.row.lt e; omega))
     refine hK _ _ ⟨BL.get (l := tokC sx (zi : Int) (a, b)) HS7.out (j := 2) rfl, BL.get (l := tokC sx (zi : Int) (a, b)) HS7.out (j := 3) rfl⟩ ?_
     clear hK K ap i1 i2 i3 i4
     (refine Text.purek rfl rfl (fun K hK => ⟨_, fun w' => by go_simp <;> rfl, ?_⟩); go_simp; refine hK _ ?_; clear hK K)
     refine Text.done ?_
     go_wp2_with fail
     go_roundw
     case rel => exact ⟨j + 1, by omega, by go_num, Lib.hid (by rw [HTK2.out]; exact HV7.out), HO7, HE7, HB7⟩
     case measure => simp [intOf]; omega
    ·
     obtain rfl : j = p := by omega
     have HTJ : Hid (tk.take j = tk) := Lib.hid (by rw [HTP.out, List.take_length])
     rw [HTJ.out] at hvj
     obtain ⟨P2, hP2⟩ : ∃ l, l = P1 ++ tk.flatMap (fun x => [It44.sm x.1, It44.sm x.2]) := ⟨_, rfl⟩
     have HP2 := Lib.hid hP2
     rw [← hP2] at hvj
     have HPL2 : Hid (P2.length + 1 + q ≤ 1000000) := Lib.hid (by
      have h8 : ∀ tk : List Sc, (tk.flatMap (fun x => [It44.sm x.1, It44.sm x.2])).length = 2 * tk.length := fun tk => by
       induction tk with
       | nil => rfl
       | cons x tk ih => simp only [List.flatMap_cons, List.length_append, ih, List.length_cons, List.length_nil]; omega
      have h9 := HPL1.out
      rw [hP2, List.length_append, h8, ← HTP.out]
      omega)
     have q3 := hej.out.get (j := 3) rfl
     clear hP2 HTJ
     go_wp2_with (first
      | (go_at_call 54; refine (rcount44 (q : Int) wy).mono ?_; rintro e z1 ⟨rfl, b1⟩; have HX1' := Lib.hid b1; clear b1)
      | ((with_reducible show OpW 59); refine wpList_bslice _ rfl 120 100 1 _ rfl #[(0, .agg (vaC 7 (q : Int) [] 0).toArray)] (by rw [List.map_toArray]; rfl) (vaC 7 (q : Int) [] 0) (by exact bslVa1 _ _ _ _) ?_; intro z2 a1 a2 a3; have HN2 := Lib.hid a1; have HX2' := Lib.hid (below_thenB HX1'.out HX1'.out.size a2); have HV2 := Lib.hid (hvj.out.kept HX2'.out); have HB2' : Hid (Below w.heap.size w z2) := Lib.hid (below_thenB hbj.out hbj.out.size HX2'.out); clear a1 a2 a3)
      | ((with_reducible show OpW 60); obtain ⟨iS, i1, i2, i3, i4⟩ := info_some infoVa; refine wpList_appRW _ rfl (.tmp 54) (.tmp 59) 120 100 6 iS _ rfl Tryz.underlying120 i1 i2 i3 rfl _ _ _ rfl HV2.out.row z1.heap.size _ rfl HN2.out rfl (one_val _ rfl) (by rw [i4]; have := HPL2.out; omega) (by have := HPL2.out; omega) ?_; intro lv8 z3 ap; have HV8 : Hid (VL w z3 lv8 (P2 ++ [.ct q])) := Lib.hid (HV2.out.push HB2'.out.size rfl rfl ap); have HE8 := Lib.hid (ap.kp.bl (hej.out.kept HX2'.out) (fun e => hoj.out e)); have r3 := HE8.out.get (j := 3) rfl; have HB8 : Hid (Below w.heap.size w z3) := Lib.hid (low_own HB2'.out ap.kp (fun i hi e => by have := hvj.out.own i e; omega)); have HO8 : Hid (lv8.ownBlock ≠ some wx.heap.size) := Lib.hid (fun e => (ap.own _ e).elim hoj.out (fun h => by have := HX2'.out.size; have := hej.out.lt; omega)); clear ap i1 i2 i3 i4))
     go_loopw [3, 64] (fun lv iv wr => ∃ m : Nat, m ≤ q ∧ iv = .int .i64 (m : Int) ∧ Hid (VL w wr lv (P2 ++ [.ct q] ++ (us.take m).map It44.sm)) ∧ Hid (Below w.heap.size w wr)) (fun _ iv _ => q - (intOf iv).toNat)
     case atStart => exact ⟨0, by omega, rfl, Lib.hid (by simpa using HV8.out), HB8⟩
     case round =>
      obtain ⟨m, hm, rfl, hvm, hbm⟩ := hrel
      obtain ⟨wu, hwu⟩ : ∃ x, x = wr := ⟨_, rfl⟩
      rw [← hwu] at hvm hbm ⊢
      clear hwu
      by_cases hmq : m < q
      ·
       have hml : m < us.length := by rw [← HUQ.out]; exact hmq
       obtain ⟨ga, oa, ca, e, _, hat⟩ := HU.out.at_ (by omega)
       cases e
       obtain ⟨x, hx⟩ : ∃ x, x = us[m] := ⟨_, rfl⟩
       have cx : wu.cell? ⟨ga, oa + m, none⟩ = some (.string (strB x)) := (hat.kept hbm.out) m _ (by rw [List.getElem?_map, List.getElem?_eq_getElem hml, hx]; rfl)
       have HTK3 : Hid (P2 ++ [.ct q] ++ (us.take (m + 1)).map It44.sm = P2 ++ [.ct q] ++ (us.take m).map It44.sm ++ [It44.sm x]) := Lib.hid (by rw [List.take_succ_eq_append_getElem hml, ← hx, List.map_append, ← List.append_assoc]; rfl)
       have HLM : Hid ((P2 ++ [It44.ct q] ++ (us.take m).map It44.sm).length ≤ 1000000) := Lib.hid (by
        have h9 := HPL2.out
        simp only [List.length_append, List.length_map, List.length_take, List.length_cons, List.length_nil]
        omega)
       clear hat hx
       go_wp2_with (first
        | (go_at_call 55; refine (rsum44 x wu).mono ?_; rintro e z4 ⟨rfl, b1⟩; have HX4' := Lib.hid b1; clear b1)
        | ((with_reducible show OpW 71); refine wpList_bslice _ rfl 120 100 1 _ rfl #[(0, .agg (vaC 6 0 x 0).toArray)] (by rw [List.map_toArray]; rfl) (vaC 6 0 x 0) (by exact bslVa1 _ _ _ _) ?_; intro z5 a1 a2 a3; have HN5' := Lib.hid a1; have HX5' := Lib.hid (below_thenB HX4'.out HX4'.out.size a2); have HV5' := Lib.hid (hvm.out.kept HX5'.out); have HB5' : Hid (Below w.heap.size w z5) := Lib.hid (below_thenB hbm.out hbm.out.size HX5'.out); clear a1 a2 a3)
        | ((with_reducible show OpW 72); obtain ⟨iS, i1, i2, i3, i4⟩ := info_some infoVa; refine wpList_appRW _ rfl (.tmp 68) (.tmp 71) 120 100 6 iS _ rfl Tryz.underlying120 i1 i2 i3 rfl _ _ _ rfl HV5'.out.row z4.heap.size _ rfl HN5'.out rfl (one_val _ rfl) (by rw [i4]; have := HLM.out; omega) (by have := HLM.out; omega) ?_; intro lv9 z6 ap; have HV9 : Hid (VL w z6 lv9 (P2 ++ [.ct q] ++ (us.take m).map It44.sm ++ [.sm x])) := Lib.hid (HV5'.out.push HB5'.out.size rfl rfl ap); have HB9 : Hid (Below w.heap.size w z6) := Lib.hid (low_own HB5'.out ap.kp (fun i hi e => by have := hvm.out.own i e; omega)); clear ap i1 i2 i3 i4))
       go_roundw
       case rel => exact ⟨m + 1, by omega, by go_num, Lib.hid (by rw [HTK3.out]; exact HV9.out), HB9⟩
       case measure => simp [intOf]; omega
      ·
       obtain rfl : m = q := by omega
       have HVE : Hid (VL w wu _ (.ct n :: ((rs.take (k + 1)).map (·.e)).flatMap itR)) := Lib.hid (by
        have h9 := hvm.out
        rw [HUQ.out, List.take_length, ← HUQ.out] at h9
        have h8 : It44.ct n :: ((rs.take (k + 1)).map (·.e)).flatMap itR = P2 ++ [.ct m] ++ us.map It44.sm := by
         rw [HTK.out, HP2.out, HP1.out, HP0.out, HTP.out, HUQ.out]
         simp [itR]
        rw [h8]
        exact h9)
       clear hvm
       go_wp2_with fail
       go_roundw
       case rel => exact ⟨k + 1, by omega, by go_num, HVE, hbm⟩
       case measure => simp [intOf]; omega
  ·
   obtain rfl : k = n := by omega
   have HFIN : Hid (It44.ct k :: ((rs.take k).map (·.e)).flatMap itR = itL (rs.map (·.e))) := Lib.hid (by
    unfold itL
    rw [HN.out, List.take_length, List.length_map])
   rw [HFIN.out] at hvl
   have HOK : Hid (∀ x ∈ itL (rs.map (·.e)), ItOk x) := Lib.hid (itL_ok (fun e he => by obtain ⟨x, hx, rfl⟩ := List.mem_map.1 he; exact HGD.out x hx) (by rw [List.length_map, ← HN.out]; omega) (fun e he => by obtain ⟨x, hx, rfl⟩ := List.mem_map.1 he; exact ⟨(H.out.ok x hx).bt, (H.out.ok x hx).bu⟩))
   obtain ⟨Al, cl, el, _⟩ := hvl.out.row.form
   obtain ⟨ml, hml⟩ : ∃ ml, ml = (itL (rs.map (·.e))).length := ⟨_, rfl⟩
   have HRL := Lib.hid hvl.out.row
   rw [← hml] at el HRL
   subst el
   have HML := Lib.hid hml
   clear hvl hml
   go_wp2_with (first
    | (go_at_call 56; refine (rencode_any wx Al ml cl _ HRL.out HML.out.symm HOK.out (by rw [itL_enc]; exact HLEN.out) (by rw [HML.out]; exact HIL.out)).mono ?_; rintro e z9 ⟨A9, m9, c9, rfl, r1, r2⟩; rw [itL_enc] at r1; have HR9 := Lib.hid r1; have HX9 := Lib.hid (below_thenB hb.out hb.out.size r2); clear r1 r2))
   go_ret
   exact ⟨A9, m9, c9, rfl, HR9.out, HX9.out⟩
end Go.Proofs.YtheijpjfpaghfaaGreatDoor
