/- Several texts in one: Ih, Ii. -/
import Derived.Test.YtheijpjfpaghfaaGreatDoorC42
import Derived.Test.YtheijpjfpaghfaaGreatDoorC43
import Derived.Deep.DeepCutAuto
/- The reference's Use. -/
namespace Go.Proofs.YtheijpjfpaghfaaGreatDoor
open Go Go.RowKit Gf Sha

/-- The blocks of a purse of the reference. -/
def RB (v : Value) (rs : List Se) (b : Nat) : Prop := v.ownBlock = some b ∨ ∃ x ∈ rs, x.has b
theorem RLp.lt {w : World} {v : Value} {rs : List Se} (h : RLp w v rs) {b : Nat} (hb : RB v rs b) : b < w.heap.size := by
 rcases hb with hb | ⟨x, hx, hb⟩
 ·
  exact h.row.lt hb
 ·
  exact (h.ok x hx).lt hb
theorem ofE_id (l : List En) (p : Pid) : idE (ofE l p) = p := by
 by_cases h : ∃ e ∈ l, idE e = p
 ·
  unfold ofE
  obtain ⟨e, he, hp⟩ := h
  cases hf : l.find? (fun e => idE e == p) with
  | none => exact absurd (List.find?_eq_none.1 hf e he) (by simpa using hp)
  | some a => simpa using List.find?_some hf
 ·
  rw [ofE_out (fun e he e9 => h ⟨e, he, e9⟩)]
  rfl
theorem run_appRW' {P : Program} {w : World} {te t tx rt : TypeId} {s n : Nat} {l : List Value} {i : TypeInfo} {z : Value} (ht : P.underlying t = some (.slice te)) (hi : P.info? te = some i) (hz : i.zero = some z) (hs : i.size = s) (hzs : z.cells.size = s) {g o c : Nat} (h : RW w te s (.slice (some ⟨g, o, none⟩) n c) n l) {x : Value} {m : Nat} {xs : List Value}
  (hx : Src P s tx x m xs w) (hb : (n + m) * i.bytes ≤ 140737488355328) (hn : n + m ≤ 140737488355328) :
  ∃ v' w', (Builtin.append_ #[t, tx] rt #[.slice (some ⟨g, o, none⟩) n c, x]).run P w = .ok v' w' ∧ AppR w te s (.slice (some ⟨g, o, none⟩) n c) n m l xs v' w' := by
 by_cases hm : 0 < m
 ·
  exact run_appRW ht hi hz hs hzs h hx hm hb hn
 ·
  obtain rfl : m = 0 := by omega
  have hnc : n ≤ c := by
   obtain ⟨A, c', e, h9⟩ := h.form
   cases e
   exact h9
  have hx0 : xs = [] := List.eq_nil_of_length_eq_zero (by rw [hx.newsLen]; omega)
  subst hx0
  refine ⟨.slice (some ⟨g, o, none⟩) n c, w, ?_, ⟨by rw [Nat.add_zero, List.append_nil]; exact h, Kp.refl _ _, fun b hb => .inl hb⟩⟩
  rcases hx.kind with ⟨e', hk'⟩ | hk' <;> simp [Builtin.append_, run_underlying ht, run_underlying hk', sizeOf, typeInfo, hi, hs, hx.len, hnc, hx.cells, Addr.add_lit, Result.andThen, storeCells]
/-- r[1:], told for a region that draws. -/
theorem cutRW {P : Program} {w : World} {t te : TypeId} {s n : Nat} {v : Value} {l : List Value} (ht : P.underlying t = some (.slice te)) (hs : ∀ w, (sizeOf te).run P w = .ok s w) (h : RW w te s v n l) (hn : 0 < n) :
  ∃ v', RW w te s v' (n - 1) (l.drop s) ∧ v'.ownBlock = v.ownBlock ∧ ∀ (o : Oper) (a : Act) (sl lo : Operand) (w' : World), o.op = .slice t sl (some lo) none none → a.eval sl = v → a.eval lo = .int .i64 1 → (execOp a.eval o).run P w' = .ok (.value v') w' := by
 rcases h.2 with ⟨_, h0⟩ | ⟨g, p, c, cs, rfl, hb, h1, h2, h3, h4⟩
 ·
  omega
 ·
  have e : (n - 1) * s = n * s - s := by rw [Nat.sub_mul, Nat.one_mul]
  have hsn : s ≤ n * s := Nat.le_mul_of_pos_left _ hn
  have hsc : s ≤ c * s := Nat.le_mul_of_pos_left _ (by omega)
  have e2 : (c - 1) * s = c * s - s := by rw [Nat.sub_mul, Nat.one_mul]
  have hd : ((cs.drop (p + s)).take ((n - 1) * s)) = l.drop s := by
   rw [← h4, List.drop_take, List.drop_drop, e]
  by_cases hc : c = 1
  ·
   subst hc
   obtain rfl : n = 1 := by omega
   refine ⟨.slice (some ⟨g, p, none⟩) 0 0, ⟨by rw [List.length_drop, h.1]; simp, .inr ⟨g, p, 0, cs, rfl, hb, Nat.le_refl _, by decide, by omega, ?_⟩⟩, rfl, fun o a sl lo w' hop hv hlo => ?_⟩
   ·
    have h0 : l.drop s = [] := List.drop_eq_nil_of_le (by rw [h.1]; omega)
    rw [h0]
    simp
   ·
    unfold execOp
    simp only [hop, Option.map_some, Option.map_none, hv, hlo]
    simp [Instr.sliceAt, Instr.slice, run_underlying ht, Instr.sliceBounds, Instr.sliceBound, asIntOf, hs, Result.andThen]
  ·
   refine ⟨.slice (some ⟨g, p + s, none⟩) (n - 1) (c - 1), ⟨by rw [List.length_drop, h.1, e], .inr ⟨g, p + s, c - 1, cs, rfl, hb, by omega, by omega, by omega, hd⟩⟩, rfl, fun o a sl lo w' hop hv hlo => ?_⟩
   unfold execOp
   simp only [hop, Option.map_some, Option.map_none, hv, hlo]
   simp [Instr.sliceAt, Instr.slice, run_underlying ht, Instr.sliceBounds, Instr.sliceBound, asIntOf, hs, Result.andThen, addr_add, hc, show (1 : Int) ≤ (n : Int) by omega]
section
variable {P : Program} {w : World} {o : Oper} {a : Act} {Q : Exit → Act → World → Prop} {K : Act → World → Prop}
/-- append(r, x...) of a whole slice, r no nil slice. -/
theorem wp_appRR (sl x : Operand) (t te : TypeId) (s : Nat) (i : TypeInfo) (z : Value) (hop : o.op = .call { callee := .builtin .append, args := #[sl, x], argTypes := #[t, t] })
  (ht : P.underlying t = some (.slice te)) (hi : P.info? te = some i) (hz : i.zero = some z) (hs : i.size = s) (hzs : z.cells.size = s) (g p c n : Nat) (l : List Value) (hv : a.eval sl = .slice (some ⟨g, p, none⟩) n c) (h : RW w te s (.slice (some ⟨g, p, none⟩) n c) n l)
  (A : Option Addr) (m d : Nat) (xs : List Value) (hx : a.eval x = .slice A m d) (hr : RW w te s (.slice A m d) m xs) (h1 : ∀ u ∈ xs, u.oneCell' = true) (hb : (n + m) * i.bytes ≤ 140737488355328) (hn : n + m ≤ 140737488355328)
  (hK : ∀ v' w', AppR w te s (.slice (some ⟨g, p, none⟩) n c) n m l xs v' w' → K (a.put o.dst v') w') : o.wp P a w K Q := by
 have hsrc : Src P s t (.slice A m d) m xs w := ⟨.inl ⟨_, ht⟩, fun _ => rfl, hr.firstCells, RW.firstCells hr.drew, hr.1, h1⟩
 obtain ⟨v', w', hrun, h2⟩ := run_appRW' (rt := o.type) ht hi hz hs hzs h hsrc hb hn
 unfold Oper.wp execOp
 simp only [hop, resolve, invoke, builtin, Sem.run_bind, Sem.run_pure, Result.andThen_ok, List.map_toArray, List.map_cons, List.map_nil, hv, hx, hrun]
 exact hK _ _ h2
end
theorem results_tct {P : Program} (w : World) {t : TypeId} {n : Nat} {fn : Func} {p q r : Tmp} (hf : fn.results = #[.tmp p, .cell q t, .tmp r]) (h : Agg P t n = true) {tmps : Array Value} {g o : Nat} {ms : List Value} (hp : tmps.getD q undef = .pointer (some ⟨g, o, none⟩)) (hm : At w g o ms) (hn : ms.length = n) :
  (results fn tmps).run P w = .ok (.tuple #[tmps.getD p undef, .agg ms.toArray, tmps.getD r undef]) w := by
 have hp' : tmps[q]?.getD undef = .pointer (some ⟨g, o, none⟩) := by simpa using hp
 simp [results, hf, hp', asAddr, run_loadVar_at w h hm hn]
theorem bslStr0 (w : World) : (Instr.buildSlice 52 0 #[]).run Tryz.prog w = .ok (.slice (some ⟨w.heap.size, 0, none⟩) 0 0) (w.alloc (.cells ([] : List Value).toArray 9)) := by kernel_rfl
set_option maxRecDepth 100000 in
set_option maxHeartbeats 2000000 in
theorem ruse_none (w : World) (v : Value) (rs : List Se) (s : List UInt8) (i : Int) (h : RLp w v rs) (hn : rs.length ≤ 100000) (htk : (ofE (rs.map (·.e)) (s, i)).tk = []) :
  Calls Tryz.prog 13 #[v, .agg #[.string (strB s), .int .i64 i]] w fun e w' => e = .returned (.tuple #[v, .agg tokZ.toArray, .int .i64 4]) ∧ Below w.heap.size w w' := by
 have H := Lib.hid h
 have HN := Lib.hid hn
 have HTK := Lib.hid htk
 have hb0 : ∀ w : World, (Instr.build 45 #[]).run Tryz.prog w = .ok (.agg tokZ.toArray) w := fun w => by kernel_rfl
 clear h hn htk
 go_enter Tryz.func13, Tryz.ntmps13
 go_wp2_with (first
  | ((with_reducible show OpW 3); refine wpList_box _ rfl 39 (.tmp 1) rfl [.string (strB s), .int .i64 i] rfl ?_; intro w1 a1 a2 a3; have HQ1 := Lib.hid a1; have HB1 := Lib.hid a2; clear a1 a2 a3)
  | ((with_reducible show OpW 5); refine wpList_alloc _ rfl 45 rfl tokZ tokZero' ?_; intro w2 a1 a2 a3; have HR2 := Lib.hid a1; have HQ2 := Lib.hid (HQ1.out.kept a2); have HB2 := Lib.hid (below_then HB1.out a2); clear a1 a2 a3)
  | ((with_reducible show OpW 10); refine wpList_loadv _ rfl 39 (.tmp 3) rfl 2 (by kernel_rfl) w.heap.size 0 [.string (strB s), .int .i64 i] rfl (BL.all HQ2.out) rfl ?_)
  | (go_at_call 20; refine (rof_any w2 v rs s i (H.out.kept HB2.out) HN.out).mono ?_; rintro e w3 ⟨⟨en, tv, uv⟩, r1, rfl, r2, _, r4⟩; have HB3 := Lib.hid (below_thenB HB2.out HB2.out.size r4); have HR3 := Lib.hid (HR2.out.kept r4); have HX3 := Lib.hid r4; have HSX := Lib.hid r2; obtain ⟨A1, c1, e1, _⟩ := r2.t.form; replace e1 : tv = .slice A1 en.tk.length c1 := e1; replace r1 : en = ofE (rs.map (·.e)) (s, i) := r1; rw [r1, HTK.out] at e1; subst e1; have HON := Lib.hid (seC_onef r2); clear r1 r2 r4)
  | ((with_reducible show OpW 7); refine wpList_alloc _ rfl 54 rfl reZ reZeroF ?_; intro w4 a1 a2 a3; have HE4 := Lib.hid a1; have HX4 := Lib.hid a2; clear a1 a2 a3)
  | ((with_reducible show OpN); refine wpList_storev _ rfl 54 (.tmp 7) (.tmp 11) rfl 4 (by kernel_rfl) w3.heap.size 0 _ reZ (seC ⟨en, .slice A1 0 c1, uv⟩) rfl rfl HE4.out rfl HON.out (by decide) ?_; intro w5 a1 a2 a3; have q2 : w5.cell? ⟨w3.heap.size, 2, none⟩ = some (.slice A1 0 c1) := BL.get (l := seC ⟨en, .slice A1 0 c1, uv⟩) a1 (j := 2) rfl; have HX5 : Hid (Below w3.heap.size w3 w5) := Lib.hid (low_own HX4.out a2 (fun i hi e => by omega)); have HR5 := Lib.hid (HR3.out.kept HX5.out); clear a1 a2 a3)
  | ((with_reducible show OpW 17); refine wpList_build _ rfl 45 _ rfl #[] (by rfl) (.agg tokZ.toArray) (by exact hb0 _) ?_)
  | ((with_reducible show OpN); refine wpList_storev _ rfl 45 (.tmp 5) (.tmp 17) rfl 4 (by kernel_rfl) w1.heap.size 0 _ tokZ tokZ rfl rfl HR5.out rfl tokZ_one (by decide) ?_; intro w6 a1 a2 a3; have HR6 : Hid (BL w6 w1.heap.size 45 tokZ) := Lib.hid a1; have HK6 := Lib.hid a2; clear a1 a2 a3))
 refine bodyPost_ret (results_tct w6 Tryz.results13 (n := 4) (by kernel_rfl) (g := w1.heap.size) (o := 0) rfl (ms := tokZ) (BL.all HR6.out) rfl) rfl ⟨rfl, ?_⟩
 exact low_own (below_thenB HB3.out HB3.out.size HX5.out) HK6.out (fun j hj e => by have := HB1.out.size; omega)
end Go.Proofs.YtheijpjfpaghfaaGreatDoor
/- The reference's Use with a token. -/
namespace Go.Proofs.YtheijpjfpaghfaaGreatDoor
open Go Go.RowKit Gf Sha

theorem one_us (us : List (List UInt8)) : ∀ u ∈ us.map usC, u.oneCell' = true := fun u hu => by
 obtain ⟨x, _, rfl⟩ := List.mem_map.1 hu
 rfl
set_option maxRecDepth 100000 in
set_option maxHeartbeats 4000000 in
theorem ruse_some (w : World) (v : Value) (rs : List Se) (s : List UInt8) (i : Int) (y : Sc) (tk : List Sc) (us : List (List UInt8)) (h : RLp w v rs) (hn : rs.length ≤ 100000) (hof : ofE (rs.map (·.e)) (s, i) = ⟨s, i, y :: tk, us⟩) (hu : us.length < 100000) :
  Calls Tryz.prog 13 #[v, .agg #[.string (strB s), .int .i64 i]] w fun e w' => ∃ v' x', e = .returned (.tuple #[v', .agg (tokC s i y).toArray, .int .i64 0]) ∧ x'.e = ⟨s, i, tk, us ++ [y.1]⟩ ∧ RLp w' v' (putL rs x') ∧ (∀ b, RB v' (putL rs x') b → RB v rs b ∨ w.heap.size ≤ b) ∧ Below w.heap.size w w' := by
 have H := Lib.hid h
 have HN := Lib.hid hn
 have HOF := Lib.hid hof
 obtain ⟨ya, yb⟩ := y
 obtain ⟨nn, hnn⟩ : ∃ nn, nn = ((ya, yb) :: tk).length := ⟨_, rfl⟩
 obtain ⟨q, hq⟩ : ∃ q, q = us.length := ⟨_, rfl⟩
 have HNN := Lib.hid hnn
 have HQL := Lib.hid hq
 have hq1 : q < 100000 := by rw [hq]; exact hu
 have hn0 : 0 < nn := by rw [hnn]; simp
 have fz : ((nn : Int) == 0) = false := by rw [beq_eq_false_iff_ne]; omega
 clear h hn hof hnn hq hu
 go_enter Tryz.func13, Tryz.ntmps13
 go_wp2_with (first
  | ((with_reducible show OpW 3); refine wpList_box _ rfl 39 (.tmp 1) rfl [.string (strB s), .int .i64 i] rfl ?_; intro w1 a1 a2 a3; have HQ1 := Lib.hid a1; have HB1 := Lib.hid a2; clear a1 a2 a3)
  | ((with_reducible show OpW 5); refine wpList_alloc _ rfl 45 rfl tokZ tokZero' ?_; intro w2 a1 a2 a3; have HR2 := Lib.hid a1; have HQ2 := Lib.hid (HQ1.out.kept a2); have HB2 := Lib.hid (below_then HB1.out a2); clear a1 a2 a3)
  | ((with_reducible show OpW 10); refine wpList_loadv _ rfl 39 (.tmp 3) rfl 2 (by kernel_rfl) w.heap.size 0 [.string (strB s), .int .i64 i] rfl (BL.all HQ2.out) rfl ?_)
  | (go_at_call 20; refine (rof_any w2 v rs s i (H.out.kept HB2.out) HN.out).mono ?_; rintro e w3 ⟨⟨en, tv, uv⟩, r1, rfl, r2, r3, r4⟩; have HTW : Hid (∀ b, tv.ownBlock = some b → b < w.heap.size) := Lib.hid (fun b e => r3.elim (fun h => (H.out.ok _ h).lt (.inl e)) (fun h => by rw [show tv = nilV from h.1] at e; cases e)); have HTR : Hid (∀ b, tv.ownBlock = some b → ∃ x ∈ rs, x.has b) := Lib.hid (fun b e => r3.elim (fun h => ⟨_, h, .inl e⟩) (fun h => by rw [show tv = nilV from h.1] at e; cases e)); clear r3; have HB3 := Lib.hid (below_thenB HB2.out HB2.out.size r4); have HR3 := Lib.hid (HR2.out.kept r4); replace r1 : en = ⟨s, i, (ya, yb) :: tk, us⟩ := Eq.trans r1 HOF.out; subst r1; obtain ⟨A2, c2, e2, _⟩ := r2.u.form; replace e2 : uv = .slice A2 us.length c2 := e2; rw [← HQL.out] at e2; subst e2; have hrt := r2.t; replace hrt : RW w3 45 4 tv ((ya, yb) :: tk).length (((ya, yb) :: tk).flatMap (tokC s i)) := hrt; rw [← HNN.out] at hrt; obtain ⟨g, o, c1, e1, _, hat⟩ := hrt.at_ hn0; subst e1; have HRT3 := Lib.hid hrt; have HAT3 : Hid (At w3 g o (tokC s i (ya, yb))) := Lib.hid (At.left (xs := tk.flatMap (tokC s i)) (by rw [List.flatMap_cons] at hat; exact hat)); have hru := r2.u; replace hru : RW w3 9 1 (.slice A2 q c2) us.length (us.map usC) := hru; rw [← HQL.out] at hru; have HRU3 := Lib.hid hru; clear hru; have HBT : Hid (((ya, yb) :: tk).length ≤ 100000) := Lib.hid r2.bt; clear r2 r4 hrt hat)
  | ((with_reducible show OpW 7); refine wpList_alloc _ rfl 54 rfl reZ reZeroF ?_; intro w4 a1 a2 a3; have HE4 := Lib.hid a1; have HX4 := Lib.hid a2; clear a1 a2 a3)
  | ((with_reducible show OpN); refine wpList_storev _ rfl 54 (.tmp 7) (.tmp 11) rfl 4 (by kernel_rfl) w3.heap.size 0 _ reZ [.string (strB s), .int .i64 i, .slice (some ⟨g, o, none⟩) nn c1, .slice A2 q c2] rfl (by simp only [seC, HNN.out, HQL.out]; rfl) HE4.out rfl (one_val _ rfl) (by decide) ?_; intro w5 a1 a2 a3; have HE5' : Hid (BL w5 w3.heap.size 54 [.string (strB s), .int .i64 i, .slice (some ⟨g, o, none⟩) nn c1, .slice A2 q c2]) := Lib.hid a1; have q2 := HE5'.out.get (j := 2) rfl; have HX5 : Hid (Below w3.heap.size w3 w5) := Lib.hid (low_own HX4.out a2 (fun i hi e => by omega)); have HR5 := Lib.hid (HR3.out.kept HX5.out); clear a1 a2 a3)
  | ((with_reducible show OpW 21); refine wpList_loadv _ rfl 45 (.tmp 20) rfl 4 (by kernel_rfl) g o (tokC s i (ya, yb)) rfl (HAT3.out.kept HX5.out) rfl ?_)
  | ((with_reducible show OpW 8); refine wpList_alloc _ rfl 45 rfl tokZ tokZero' ?_; intro w6 a1 a2 a3; have HT6 := Lib.hid a1; have HX6 := Lib.hid a2; clear a1 a2 a3)
  | ((with_reducible show OpN); refine wpList_storev _ rfl 45 (.tmp 8) (.tmp 21) rfl 4 (by kernel_rfl) w5.heap.size 0 _ tokZ (tokC s i (ya, yb)) rfl rfl HT6.out rfl (tokC_one _ _ _) (by decide) ?_; intro w7 a1 a2 a3; have HT7 : Hid (BL w7 w5.heap.size 45 (tokC s i (ya, yb))) := Lib.hid a1; have HX7 : Hid (Below w5.heap.size w5 w7) := Lib.hid (low_own HX6.out a2 (fun i hi e => by omega)); have HE7 := Lib.hid (HE5'.out.kept HX7.out); have HR7 := Lib.hid (HR5.out.kept HX7.out); clear a1 a2 a3))
 have HX37 : Hid (Below w3.heap.size w3 w7) := Lib.hid (below_thenB HX5.out HX5.out.size HX7.out)
 have HB7 := Lib.hid (below_thenB HB3.out HB3.out.size HX37.out)
 have HU7 := Lib.hid (HRU3.out.kept HX37.out)
 obtain ⟨tv', htv, hto, hcut⟩ := cutRW (P := Tryz.prog) Tryz.underlying37 (fun w => agg_size w (show Agg Tryz.prog 45 4 = true by kernel_rfl)) HRT3.out hn0
 have HTV := Lib.hid htv
 have HTO : Hid (∀ b, tv'.ownBlock = some b → b < w.heap.size) := Lib.hid (fun b e => by rw [hto] at e; exact HTW.out b e)
 have HTO2 : Hid (∀ b, tv'.ownBlock = some b → ∃ x ∈ rs, x.has b) := Lib.hid (fun b e => by rw [hto] at e; exact HTR.out b e)
 have HCUT := Lib.hid hcut
 clear htv hto hcut
 have HSZ : Hid (w3.heap.size < w7.heap.size ∧ w.heap.size < w3.heap.size ∧ w1.heap.size < w3.heap.size) := Lib.hid ⟨HE7.out.lt, by have := HR2.out.lt; have := HB1.out.size; have := HR3.out.lt; omega, HR3.out.lt⟩
 have HSS : Hid (∀ w', Below w7.heap.size w7 w' → w'.cell? ⟨w3.heap.size, 2, none⟩ = some (.slice (some ⟨g, o, none⟩) nn c1) ∧ w'.cell? ⟨w3.heap.size, 3, none⟩ = some (.slice A2 q c2) ∧ w'.cell? ⟨w5.heap.size, 2, none⟩ = some (.string (strB ya))) := Lib.hid (fun w' hb => ⟨(HE7.out.kept hb).get (j := 2) rfl, (HE7.out.kept hb).get (j := 3) rfl, BL.get (l := tokC s i (ya, yb)) (HT7.out.kept hb) (j := 2) rfl⟩)
 go_simp
 go_cut [32] (fun s32 wq => ∃ uv', Hid (BL wq w3.heap.size 54 [.string (strB s), .int .i64 i, tv', uv']) ∧ Hid (RW wq 9 1 uv' (q + 1) ((us ++ [ya]).map usC)) ∧ Hid (Kp (· = w3.heap.size) w7 wq) ∧ Hid (∀ b, uv'.ownBlock = some b → w7.heap.size ≤ b))
 case first =>
  refine TextL.wp_region_bt (fun w' => w'.cell? ⟨w3.heap.size, 2, none⟩ = some (.slice (some ⟨g, o, none⟩) nn c1) ∧ w'.cell? ⟨w3.heap.size, 3, none⟩ = some (.slice A2 q c2) ∧ w'.cell? ⟨w5.heap.size, 2, none⟩ = some (.string (strB ya))) (.still 0 4 (.still 4 4 (.still 7 4 (.still 1 0 (.still 5 0 (.still 8 0 (.still 2 4 (.still 11 4 (.br 3 (.br 6 (.eff 9 (.eff 10 (.last 12 (.still 13 4 (.last 14 .leaf))))) 9 (.eff 6 (.eff 10 (.last 12 (.still 13 4 (.last 14 .leaf)))))) 9 (.eff 3 (.eff 6 (.eff 10 (.last 12 (.still 13 4 (.last 14 .leaf))))))))))))))) (by kernel_rfl) (by kernel_rfl) (fun _ _ _ _ _ h => h) (HSS.out _ (Below.refl _ _).drew) ?_
  iterate 3 (refine TextL.bpurek rfl rfl (fun K hK => ⟨_, fun w' => by go_simp <;> rfl, ?_⟩); go_simp; refine hK _ ?_; clear hK K)
  iterate 3 (refine TextL.bheldk rfl rfl (fun K hK => ⟨_, fun w' hw' => by go_simp <;> rfl, ?_⟩); go_simp; refine hK _ ?_; clear hK K)
  refine TextL.bpurek rfl rfl (fun K hK => ⟨tv', fun w' => HCUT.out _ _ (.tmp 23) _ w' rfl rfl rfl, ?_⟩)
  go_simp
  refine hK _ ?_
  clear hK K
  iterate 1 (refine TextL.bpurek rfl rfl (fun K hK => ⟨_, fun w' => by go_simp <;> rfl, ?_⟩); go_simp; refine hK _ ?_; clear hK K)
  refine TextL.bfork ?_ ?_
  ·
   refine TextL.beff rfl rfl (fun K hK => ?_)
   refine wp_bslice 52 9 0 _ rfl #[] (by rw [List.map_toArray]; rfl) [] (bslStr0 _) ?_
   intro z1 a1 a2 a3
   have HDz1 : Hid (Below w7.heap.size w7 z1) := Lib.hid (below_thenB ((Below.refl w7.heap.size w7).drew) (((Below.refl w7.heap.size w7).drew).size) a2)
   have HG0 : Hid (RW z1 9 1 (.slice (some ⟨w7.heap.size, 0, none⟩) 0 0) 0 []) := Lib.hid (RW.of_blk (l := []) a1 rfl (by decide))
   have HG0L : Hid (w7.heap.size ≤ w7.heap.size ∧ w7.heap.size < z1.heap.size) := Lib.hid ⟨((Below.refl w7.heap.size w7).drew).size, a1.lt⟩
   have HXE := Lib.hid a2
   refine hK _ _ (HSS.out _ HDz1.out) ?_
   clear hK K a1 a2 a3
   refine TextL.bfork ?_ ?_
   ·
    refine TextL.beff rfl rfl (fun K hK => ?_)
    obtain ⟨iS, i1, i2, i3, i4⟩ := info_some infoStr
    refine wp_appRR (.tmp 25) (.tmp 27) 52 9 1 iS _ rfl Tryz.underlying52 i1 i2 i3 rfl w7.heap.size 0 0 0 [] rfl HG0.out A2 q c2 _ rfl (HU7.out.kept HDz1.out) (one_us us) (by rw [i4]; omega) (by omega) ?_
    intro uvA z2 ap
    have HUA : Hid (RW z2 9 1 uvA q (us.map usC)) := Lib.hid (by have h9 := ap.row; rw [Nat.zero_add, List.nil_append] at h9; exact h9)
    have HUO : Hid (∀ b, uvA.ownBlock = some b → w7.heap.size ≤ b) := Lib.hid (fun b e => (ap.own b e).elim (fun h => by cases h; exact HG0L.out.1) (fun h => Nat.le_trans HDz1.out.size h))
    have HDz2 : Hid (Below w7.heap.size w7 z2) := Lib.hid (low_own HDz1.out ap.kp (fun j hj e => by have h9 : some w7.heap.size = some j := e; have := HG0L.out.1; injection h9 with h9; omega))
    have HKA := Lib.hid ap.kp
    refine hK _ _ (HSS.out _ HDz2.out) ?_
    clear hK K ap i1 i2 i3 i4
    refine TextL.beff rfl rfl (fun K hK => ?_)
    refine wp_bslice 52 9 1 _ rfl #[(0, .string (strB ya))] (by rw [List.map_toArray]; rfl) [.string (strB ya)] (bslS ya _) ?_
    intro z3 a1 a2 a3
    have HDz3 : Hid (Below w7.heap.size w7 z3) := Lib.hid (below_thenB (HDz2.out) ((HDz2.out).size) a2)
    have HN9 := Lib.hid a1
    have HX9 := Lib.hid a2
    refine hK _ _ (HSS.out _ HDz3.out) ?_
    clear hK K a1 a2 a3
    have HUB := Lib.hid (HUA.out.kept HX9.out)
    refine TextL.beff rfl rfl (fun K hK => ?_)
    obtain ⟨iS, i1, i2, i3, i4⟩ := info_some infoStr
    refine wp_appRW _ (.tmp 28) (.tmp 31) 52 9 1 iS _ rfl Tryz.underlying52 i1 i2 i3 rfl uvA q _ rfl HUB.out z2.heap.size _ rfl HN9.out rfl (one_val _ rfl) (by rw [i4]; omega) (by omega) ?_
    intro uv' z4 ap
    have HU4 : Hid (RW z4 9 1 uv' (q + 1) ((us ++ [ya]).map usC)) := Lib.hid (by have h9 := ap.row; rw [List.map_append]; exact h9)
    have HD4 : Hid (Below w7.heap.size w7 z4) := Lib.hid (low_own HDz3.out ap.kp (fun j hj e => by have := HUO.out j e; omega))
    have HO4 : Hid (∀ b, uv'.ownBlock = some b → w7.heap.size ≤ b) := Lib.hid (fun b e => (ap.own b e).elim (HUO.out b) (fun h => Nat.le_trans HDz3.out.size h))
    refine hK _ _ (HSS.out _ HD4.out) ?_
    clear hK K ap i1 i2 i3 i4
    refine TextL.blast rfl rfl (fun K hK => ?_)
    refine wp_store1 _ 37 (.tmp 33) (.tmp 24) rfl (sz1 _ (by kernel_rfl) _) w3.heap.size 2 _ _ tv' rfl rfl (HE7.out.kept HD4.out) HTV.out.cell1.1 HTV.out.cell1.2 (by simp) ?_
    intro z5 a1 a2 a3
    have HE5 : Hid (BL z5 w3.heap.size 54 [.string (strB s), .int .i64 i, tv', .slice A2 q c2]) := Lib.hid a1
    have HU5 := Lib.hid (HU4.out.kp a2 (fun b e e9 => by have := HO4.out b e; have := HSZ.out; omega))
    have HK5 := Lib.hid a2
    refine hK _ _ ?_
    clear hK K a1 a2 a3
    iterate 1 (refine TextL.bpurek rfl rfl (fun K hK => ⟨_, fun w' => by go_simp <;> rfl, ?_⟩); go_simp; refine hK _ ?_; clear hK K)
    refine TextL.blast rfl rfl (fun K hK => ?_)
    refine wp_store1 _ 52 (.tmp 34) (.tmp 32) rfl (sz1 _ (by kernel_rfl) _) w3.heap.size 3 _ _ uv' rfl rfl HE5.out HU5.out.cell1.1 HU5.out.cell1.2 (by simp) ?_
    intro z6 a1 a2 a3
    have HE6 : Hid (BL z6 w3.heap.size 54 [.string (strB s), .int .i64 i, tv', uv']) := Lib.hid a1
    have HU6 := Lib.hid (HU5.out.kp a2 (fun b e e9 => by have := HO4.out b e; have := HSZ.out; omega))
    have HK6 : Hid (Kp (· = w3.heap.size) w7 z6) := Lib.hid (((Kp.of_below HD4.out).trans HK5.out).trans a2)
    refine hK _ _ ?_
    clear hK K a1 a2 a3
    refine TextL.bdone ?_
    go_wp2_with fail
    go_meet
    exact ⟨uv', HE6, HU6, HK6, HO4⟩
   ·
    refine TextL.beff rfl rfl (fun K hK => ?_)
    refine wp_bslice 52 9 1 _ rfl #[(0, .string (strB ya))] (by rw [List.map_toArray]; rfl) [.string (strB ya)] (bslS ya _) ?_
    intro z2 a1 a2 a3
    have HDz2 : Hid (Below w7.heap.size w7 z2) := Lib.hid (below_thenB (HDz1.out) ((HDz1.out).size) a2)
    have HN9 := Lib.hid a1
    have HX9 := Lib.hid a2
    refine hK _ _ (HSS.out _ HDz2.out) ?_
    clear hK K a1 a2 a3
    have HG0' := Lib.hid (HG0.out.kept HX9.out)
    refine TextL.beff rfl rfl (fun K hK => ?_)
    obtain ⟨iS, i1, i2, i3, i4⟩ := info_some infoStr
    refine wp_appRR (.tmp 25) (.tmp 27) 52 9 1 iS _ rfl Tryz.underlying52 i1 i2 i3 rfl w7.heap.size 0 0 0 [] rfl HG0'.out A2 q c2 _ rfl (HU7.out.kept HDz2.out) (one_us us) (by rw [i4]; omega) (by omega) ?_
    intro uvA z3 ap
    have HUA : Hid (RW z3 9 1 uvA q (us.map usC)) := Lib.hid (by have h9 := ap.row; rw [Nat.zero_add, List.nil_append] at h9; exact h9)
    have HUO : Hid (∀ b, uvA.ownBlock = some b → w7.heap.size ≤ b) := Lib.hid (fun b e => (ap.own b e).elim (fun h => by cases h; exact HG0L.out.1) (fun h => Nat.le_trans HDz2.out.size h))
    have HDz3 : Hid (Below w7.heap.size w7 z3) := Lib.hid (low_own HDz2.out ap.kp (fun j hj e => by have h9 : some w7.heap.size = some j := e; have := HG0L.out.1; injection h9 with h9; omega))
    have HKA := Lib.hid ap.kp
    refine hK _ _ (HSS.out _ HDz3.out) ?_
    clear hK K ap i1 i2 i3 i4
    have HN9' := Lib.hid (HN9.out.kp HKA.out (fun e => by have h9 : some w7.heap.size = some z1.heap.size := e; have := HG0L.out; injection h9 with h9; omega))
    refine TextL.beff rfl rfl (fun K hK => ?_)
    obtain ⟨iS, i1, i2, i3, i4⟩ := info_some infoStr
    refine wp_appRW _ (.tmp 28) (.tmp 31) 52 9 1 iS _ rfl Tryz.underlying52 i1 i2 i3 rfl uvA q _ rfl HUA.out z1.heap.size _ rfl HN9'.out rfl (one_val _ rfl) (by rw [i4]; omega) (by omega) ?_
    intro uv' z4 ap
    have HU4 : Hid (RW z4 9 1 uv' (q + 1) ((us ++ [ya]).map usC)) := Lib.hid (by have h9 := ap.row; rw [List.map_append]; exact h9)
    have HD4 : Hid (Below w7.heap.size w7 z4) := Lib.hid (low_own HDz3.out ap.kp (fun j hj e => by have := HUO.out j e; omega))
    have HO4 : Hid (∀ b, uv'.ownBlock = some b → w7.heap.size ≤ b) := Lib.hid (fun b e => (ap.own b e).elim (HUO.out b) (fun h => Nat.le_trans HDz3.out.size h))
    refine hK _ _ (HSS.out _ HD4.out) ?_
    clear hK K ap i1 i2 i3 i4
    refine TextL.blast rfl rfl (fun K hK => ?_)
    refine wp_store1 _ 37 (.tmp 33) (.tmp 24) rfl (sz1 _ (by kernel_rfl) _) w3.heap.size 2 _ _ tv' rfl rfl (HE7.out.kept HD4.out) HTV.out.cell1.1 HTV.out.cell1.2 (by simp) ?_
    intro z5 a1 a2 a3
    have HE5 : Hid (BL z5 w3.heap.size 54 [.string (strB s), .int .i64 i, tv', .slice A2 q c2]) := Lib.hid a1
    have HU5 := Lib.hid (HU4.out.kp a2 (fun b e e9 => by have := HO4.out b e; have := HSZ.out; omega))
    have HK5 := Lib.hid a2
    refine hK _ _ ?_
    clear hK K a1 a2 a3
    iterate 1 (refine TextL.bpurek rfl rfl (fun K hK => ⟨_, fun w' => by go_simp <;> rfl, ?_⟩); go_simp; refine hK _ ?_; clear hK K)
    refine TextL.blast rfl rfl (fun K hK => ?_)
    refine wp_store1 _ 52 (.tmp 34) (.tmp 32) rfl (sz1 _ (by kernel_rfl) _) w3.heap.size 3 _ _ uv' rfl rfl HE5.out HU5.out.cell1.1 HU5.out.cell1.2 (by simp) ?_
    intro z6 a1 a2 a3
    have HE6 : Hid (BL z6 w3.heap.size 54 [.string (strB s), .int .i64 i, tv', uv']) := Lib.hid a1
    have HU6 := Lib.hid (HU5.out.kp a2 (fun b e e9 => by have := HO4.out b e; have := HSZ.out; omega))
    have HK6 : Hid (Kp (· = w3.heap.size) w7 z6) := Lib.hid (((Kp.of_below HD4.out).trans HK5.out).trans a2)
    refine hK _ _ ?_
    clear hK K a1 a2 a3
    refine TextL.bdone ?_
    go_wp2_with fail
    go_meet
    exact ⟨uv', HE6, HU6, HK6, HO4⟩
  ·
   refine TextL.beff rfl rfl (fun K hK => ?_)
   refine wp_bslice 52 9 1 _ rfl #[(0, .string (strB ya))] (by rw [List.map_toArray]; rfl) [.string (strB ya)] (bslS ya _) ?_
   intro z1 a1 a2 a3
   have HDz1 : Hid (Below w7.heap.size w7 z1) := Lib.hid (below_thenB ((Below.refl w7.heap.size w7).drew) (((Below.refl w7.heap.size w7).drew).size) a2)
   have HN9 := Lib.hid a1
   have HX9 := Lib.hid a2
   refine hK _ _ (HSS.out _ HDz1.out) ?_
   clear hK K a1 a2 a3
   refine TextL.beff rfl rfl (fun K hK => ?_)
   refine wp_bslice 52 9 0 _ rfl #[] (by rw [List.map_toArray]; rfl) [] (bslStr0 _) ?_
   intro z2 a1 a2 a3
   have HDz2 : Hid (Below w7.heap.size w7 z2) := Lib.hid (below_thenB (HDz1.out) ((HDz1.out).size) a2)
   have HG0 : Hid (RW z2 9 1 (.slice (some ⟨z1.heap.size, 0, none⟩) 0 0) 0 []) := Lib.hid (RW.of_blk (l := []) a1 rfl (by decide))
   have HG0L : Hid (w7.heap.size ≤ z1.heap.size ∧ z1.heap.size < z2.heap.size) := Lib.hid ⟨(HDz1.out).size, a1.lt⟩
   have HXE := Lib.hid a2
   refine hK _ _ (HSS.out _ HDz2.out) ?_
   clear hK K a1 a2 a3
   have HN9b := Lib.hid (HN9.out.kept HXE.out)
   refine TextL.beff rfl rfl (fun K hK => ?_)
   obtain ⟨iS, i1, i2, i3, i4⟩ := info_some infoStr
   refine wp_appRR (.tmp 25) (.tmp 27) 52 9 1 iS _ rfl Tryz.underlying52 i1 i2 i3 rfl z1.heap.size 0 0 0 [] rfl HG0.out A2 q c2 _ rfl (HU7.out.kept HDz2.out) (one_us us) (by rw [i4]; omega) (by omega) ?_
   intro uvA z3 ap
   have HUA : Hid (RW z3 9 1 uvA q (us.map usC)) := Lib.hid (by have h9 := ap.row; rw [Nat.zero_add, List.nil_append] at h9; exact h9)
   have HUO : Hid (∀ b, uvA.ownBlock = some b → w7.heap.size ≤ b) := Lib.hid (fun b e => (ap.own b e).elim (fun h => by cases h; exact HG0L.out.1) (fun h => Nat.le_trans HDz2.out.size h))
   have HDz3 : Hid (Below w7.heap.size w7 z3) := Lib.hid (low_own HDz2.out ap.kp (fun j hj e => by have h9 : some z1.heap.size = some j := e; have := HG0L.out.1; injection h9 with h9; omega))
   have HKA := Lib.hid ap.kp
   refine hK _ _ (HSS.out _ HDz3.out) ?_
   clear hK K ap i1 i2 i3 i4
   have HN9c := Lib.hid (HN9b.out.kp HKA.out (fun e => by have h9 : some z1.heap.size = some w7.heap.size := e; have h8 : w7.heap.size < z1.heap.size := HN9.out.lt; injection h9 with h9; omega))
   refine TextL.beff rfl rfl (fun K hK => ?_)
   obtain ⟨iS, i1, i2, i3, i4⟩ := info_some infoStr
   refine wp_appRW _ (.tmp 28) (.tmp 31) 52 9 1 iS _ rfl Tryz.underlying52 i1 i2 i3 rfl uvA q _ rfl HUA.out w7.heap.size _ rfl HN9c.out rfl (one_val _ rfl) (by rw [i4]; omega) (by omega) ?_
   intro uv' z4 ap
   have HU4 : Hid (RW z4 9 1 uv' (q + 1) ((us ++ [ya]).map usC)) := Lib.hid (by have h9 := ap.row; rw [List.map_append]; exact h9)
   have HD4 : Hid (Below w7.heap.size w7 z4) := Lib.hid (low_own HDz3.out ap.kp (fun j hj e => by have := HUO.out j e; omega))
   have HO4 : Hid (∀ b, uv'.ownBlock = some b → w7.heap.size ≤ b) := Lib.hid (fun b e => (ap.own b e).elim (HUO.out b) (fun h => Nat.le_trans HDz3.out.size h))
   refine hK _ _ (HSS.out _ HD4.out) ?_
   clear hK K ap i1 i2 i3 i4
   refine TextL.blast rfl rfl (fun K hK => ?_)
   refine wp_store1 _ 37 (.tmp 33) (.tmp 24) rfl (sz1 _ (by kernel_rfl) _) w3.heap.size 2 _ _ tv' rfl rfl (HE7.out.kept HD4.out) HTV.out.cell1.1 HTV.out.cell1.2 (by simp) ?_
   intro z5 a1 a2 a3
   have HE5 : Hid (BL z5 w3.heap.size 54 [.string (strB s), .int .i64 i, tv', .slice A2 q c2]) := Lib.hid a1
   have HU5 := Lib.hid (HU4.out.kp a2 (fun b e e9 => by have := HO4.out b e; have := HSZ.out; omega))
   have HK5 := Lib.hid a2
   refine hK _ _ ?_
   clear hK K a1 a2 a3
   iterate 1 (refine TextL.bpurek rfl rfl (fun K hK => ⟨_, fun w' => by go_simp <;> rfl, ?_⟩); go_simp; refine hK _ ?_; clear hK K)
   refine TextL.blast rfl rfl (fun K hK => ?_)
   refine wp_store1 _ 52 (.tmp 34) (.tmp 32) rfl (sz1 _ (by kernel_rfl) _) w3.heap.size 3 _ _ uv' rfl rfl HE5.out HU5.out.cell1.1 HU5.out.cell1.2 (by simp) ?_
   intro z6 a1 a2 a3
   have HE6 : Hid (BL z6 w3.heap.size 54 [.string (strB s), .int .i64 i, tv', uv']) := Lib.hid a1
   have HU6 := Lib.hid (HU5.out.kp a2 (fun b e e9 => by have := HO4.out b e; have := HSZ.out; omega))
   have HK6 : Hid (Kp (· = w3.heap.size) w7 z6) := Lib.hid (((Kp.of_below HD4.out).trans HK5.out).trans a2)
   refine hK _ _ ?_
   clear hK K a1 a2 a3
   refine TextL.bdone ?_
   go_wp2_with fail
   go_meet
   exact ⟨uv', HE6, HU6, HK6, HO4⟩
 case rest =>
  obtain ⟨uv', hE, hU, hK9, hO9⟩ := hcut
  obtain ⟨wz, hwz⟩ : ∃ wz, wz = wc := ⟨_, rfl⟩
  rw [← hwz] at hE hU hK9 ⊢
  clear hwz
  have HBZ : Hid (Below w.heap.size w wz) := Lib.hid (low_own HB7.out hK9.out (fun j hj e => by have := HSZ.out; omega))
  have HRZ := Lib.hid (HR7.out.kp hK9.out (fun e => by have := HSZ.out; omega))
  have HTZ := Lib.hid (HT7.out.kp hK9.out (fun e => by have := HX5.out.size; have := HE5'.out.lt; omega))
  have HSX : Hid (SOf wz ⟨⟨s, i, tk, us ++ [ya]⟩, tv', uv'⟩) := Lib.hid (by
   have h1 := (HTV.out.kept HX37.out).kp hK9.out (fun b e e9 => by have := HTO.out b e; have := HSZ.out; omega)
   have e1 : nn - 1 = tk.length := by rw [HNN.out]; simp
   have e2 : (((ya, yb) :: tk).flatMap (tokC s i)).drop 4 = tk.flatMap (tokC s i) := by rw [List.flatMap_cons]; rfl
   rw [e1, e2] at h1
   have h2 := hU.out
   have e3 : q + 1 = (us ++ [ya]).length := by rw [List.length_append, HQL.out]; rfl
   rw [e3] at h2
   have h3 := HBT.out
   simp only [List.length_cons] at h3
   exact ⟨h1, h2, by show tk.length ≤ 100000; omega, by show (us ++ [ya]).length ≤ 100000; rw [← e3]; omega⟩)
  have HHZ := Lib.hid (H.out.kept HBZ.out)
  have HRS : Hid (w1.heap.size < wz.heap.size ∧ w.heap.size ≤ w1.heap.size) := Lib.hid ⟨by have := HRZ.out.lt; omega, HB1.out.size⟩
  go_wp2_with fail
  refine Text.wp_region_text (fun w' => Below wz.heap.size wz w') [(0, 4), (1, 0), (3, 0), (2, 2), (4, 4), (5, 3), (6, 4)] (by kernel_rfl) (by kernel_rfl) (fun _ _ _ _ _ h => h) ((Below.refl _ _).drew) ?_
  (refine Text.purek rfl rfl (fun K hK => ⟨_, fun w' => by go_simp <;> rfl, ?_⟩); go_simp; refine hK _ ?_; clear hK K)
  refine Text.heldk rfl rfl (fun K hK => ?_)
  refine ⟨_, fun w' hw' => exec_loadv 54 (.tmp 7) rfl 4 (by kernel_rfl) w3.heap.size 0 [.string (strB s), .int .i64 i, tv', uv'] rfl (BL.all (hE.out.kept hw')) rfl, ?_⟩
  go_simp
  refine hK _ ?_
  clear hK K
  refine Text.heldk rfl rfl (fun K hK => ?_)
  refine ⟨_, fun w' hw' => exec_loadv 45 (.tmp 8) rfl 4 (by kernel_rfl) w5.heap.size 0 (tokC s i (ya, yb)) rfl (BL.all (HTZ.out.kept hw')) rfl, ?_⟩
  go_simp
  refine hK _ ?_
  clear hK K
  refine Text.eff rfl rfl (fun K hK => ?_)
  go_simp
  refine (rput_any wz.drew v rs ⟨⟨s, i, tk, us ++ [ya]⟩, tv', uv'⟩ (HHZ.out.kept (Below.refl _ _).drew) (HSX.out.kept (Below.refl _ _).drew) HN.out).mono ?_
  rintro e z8 ⟨v', rfl, r1, r3, r2⟩
  have HP8 := Lib.hid r1
  have HV8 : Hid (∀ q, v'.ownBlock = some q → wz.heap.size ≤ q) := Lib.hid r3
  have HX8 : Hid (Below wz.heap.size wz z8) := Lib.hid (below_thenB (Below.refl _ _).drew (Nat.le_refl _) r2)
  have HR8 := Lib.hid (HRZ.out.kept HX8.out)
  refine hK _ _ HX8.out ?_
  clear hK K r1 r2 r3
  (refine Text.purek rfl rfl (fun K hK => ⟨_, fun w' => by go_simp <;> rfl, ?_⟩); go_simp; refine hK _ ?_; clear hK K)
  refine Text.last rfl rfl (fun K hK => ?_)
  refine wp_storev 45 (.tmp 5) (.tmp 38) rfl 4 (by kernel_rfl) w1.heap.size 0 _ tokZ (tokC s i (ya, yb)) rfl rfl HR8.out rfl (tokC_one _ _ _) (by decide) ?_
  intro z9 a1 a2 a3
  have HR9 : Hid (BL z9 w1.heap.size 45 (tokC s i (ya, yb))) := Lib.hid a1
  have HK9 := Lib.hid a2
  refine hK _ _ ?_
  clear hK K a1 a2 a3
  (refine Text.purek rfl rfl (fun K hK => ⟨_, fun w' => by go_simp <;> rfl, ?_⟩); go_simp; refine hK _ ?_; clear hK K)
  refine Text.done ?_
  go_wp2_with fail
  refine bodyPost_ret (results_tct z9 Tryz.results13 (n := 4) (by kernel_rfl) (g := w1.heap.size) (o := 0) rfl (ms := tokC s i (ya, yb)) (BL.all HR9.out) rfl) rfl ⟨v', ⟨⟨s, i, tk, us ++ [ya]⟩, tv', uv'⟩, rfl, rfl, ?_, fun b hb => ?_, ?_⟩
  ·
   refine ⟨HP8.out.row.kp HK9.out (fun b e e9 => by have := HV8.out b e; have := HRS.out; omega), fun x hx => (HP8.out.ok x hx).kp HK9.out (fun b hb e9 => ?_)⟩
   have hw := HRS.out
   rcases putGo_mem hx with rfl | hx
   ·
    exact hb.elim (fun e => by have := HTO.out b e; omega) (fun e => by have := hO9.out b e; have := HSZ.out; omega)
   ·
    have := (H.out.ok x hx).lt hb
    omega
  ·
   have hsz := HSZ.out
   have hbz := HBZ.out.size
   rcases hb with h9 | ⟨x, hx, h9⟩
   ·
    have := HV8.out b h9
    exact .inr (by omega)
   ·
    rcases putGo_mem hx with rfl | hx
    ·
     rcases h9 with h9 | h9
     ·
      exact .inl (.inr (HTO2.out b h9))
     ·
      have := hO9.out b h9
      exact .inr (by omega)
    ·
     exact .inl (.inr ⟨x, hx, h9⟩)
  ·
   exact low_own (below_thenB HBZ.out HBZ.out.size HX8.out) HK9.out (fun j hj e => by have := HRS.out; omega)
end Go.Proofs.YtheijpjfpaghfaaGreatDoor
