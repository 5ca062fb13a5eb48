/- Several texts in one: Pu3, Rsm, Fg0, Mer0. -/
import Derived.Test.YtheijpjfpaghfaaGreatDoorC11
import Derived.Test.YtheijpjfpaghfaaGreatDoorC10
import Derived.Test.YtheijpjfpaghfaaGreatDoorC9
import Derived.Test.YtheijpjfpaghfaaGreatDoorC8
/- Purse.Use. -/
namespace Go.Proofs.YtheijpjfpaghfaaGreatDoor
open Go Go.RowKit Gf

section
variable {P : Program} {w : World} {o : Oper} {a : Act} {Q : Exit → Act → World → Prop} {K : Act → World → Prop}
theorem exec_loadv (t : TypeId) (x : Operand) (hop : o.op = .load t x) (n : Nat) (ht : Agg P t n = true) (g p : Nat) (ms : List Value) (hx : a.eval x = .pointer (some ⟨g, p, none⟩))
  (hm : At w g p ms) (hn : ms.length = n) : (execOp a.eval o).run P w = .ok (.value (.agg ms.toArray)) w := by
 unfold execOp
 simp only [hop, hx]
 simp [run_loadAt w ht hm hn, Result.andThen]
theorem exec_look (m x : Operand) (t k e : TypeId) (hop : o.op = .lookup t m x false) (Kd : Go.Maps.Keyed P k) (ht : P.underlying t = some (.map k e)) (z : Value) (hz : (P.info? e).map (·.zero) = some (some z))
  (b : Nat) (L : List (Value × Value)) (hm : a.eval m = .map (some b)) (hb : MB P k w b L) (xv : Value) (hx : a.eval x = xv) (hk : ∃ lx, keyOf P k xv = some lx) (u : Value) (hu : ∀ v f, Found L xv z v f → v = u) :
  (execOp a.eval o).run P w = .ok (.value u) w := by
 obtain ⟨lx, hlx⟩ := hk
 obtain ⟨v, f, hf, hr⟩ := hb.look Kd ht hz hlx false
 obtain rfl := hu v f hf
 unfold execOp
 simp only [hop, hm, hx]
 simp [hr, Result.andThen]
theorem wp_alloc (t : TypeId) (hop : o.op = .alloc t) (l : List Value) (hz : (P.info? t).map (·.zero) = some (some (.agg l.toArray)))
  (h : ∀ w', BL w' w.heap.size t l → Below w.heap.size w w' → w'.heap.size = w.heap.size + 1 → K (a.put o.dst (.pointer (some ⟨w.heap.size, 0, none⟩))) w') : o.wp P a w K Q := by
 cases hi : P.info? t with
 | none => simp [hi] at hz
 | some i =>
  have hz' : i.zero = some (.agg l.toArray) := by simpa [hi] using hz
  unfold Oper.wp execOp
  simp only [hop]
  simp [Instr.alloc, zeroValue, typeInfo, hi, hz', newVar, newRow, Value.cells, Result.andThen]
  exact h _ (BL.new w t l) ((Below.refl _ _).alloc (Nat.le_refl _) _) (by simp)
/-- A store of one cell into a block known whole. -/
theorem wpList_store1 (w : World) {ops : Array Oper} {rest : List Oper} (hg : o.guard = none) (t : TypeId) (x y : Operand) (hop : o.op = .store t x y) (hs : (sizeOf t).run P w = .ok 1 w) (g p : Nat) (te : TypeId) (l : List Value) (u : Value) (hx : a.eval x = .pointer (some ⟨g, p, none⟩)) (hy : a.eval y = u)
  (hb : BL w g te l) (hu : u.cells = #[u]) (h1 : u.oneCell' = true) (hp : p < l.length)
  (h : ∀ w', BL w' g te (l.set p u) → Kp (· = g) w w' → w'.heap.size = w.heap.size → wpList P ops Q rest (a.put o.dst undef) w') : wpList P ops Q (o :: rest) a w :=
 wpList_plain hg fun K hK => by
  obtain ⟨w', hr, hb', hk, hz⟩ := run_storeCells (P := P) [u] (by simpa using h1) p 1 0 l w rfl hb (by simp; omega)
  have e : l.take (p + 0) ++ [u].drop 0 ++ l.drop (p + [u].length) = l.set p u := by
   rw [List.set_eq_take_append_cons_drop, if_pos hp]
   simp
  rw [e] at hb'
  rw [List.drop_zero] at hr
  unfold Oper.wp execOp
  simp only [hop, hx, hy]
  simp [Instr.storeAt, Instr.sureAddr, storeVar, Sem.run_bind, hs, hu, hr, Result.andThen]
  exact hK _ _ (h w' hb' hk hz)
end
theorem results_at2 {P : Program} (w : World) {t : TypeId} {n : Nat} {fn : Func} {p q : Tmp} (hf : fn.results = #[.cell p t, .tmp q]) (h : Agg P t n = true) {tmps : Array Value} {g o : Nat} {ms : List Value} (hp : tmps.getD p undef = .pointer (some ⟨g, o, none⟩)) (hm : At w g o ms) (hn : ms.length = n) :
  (results fn tmps).run P w = .ok (.tuple #[.agg ms.toArray, tmps.getD q undef]) w := by
 have hp' : tmps[p]?.getD undef = .pointer (some ⟨g, o, none⟩) := by simpa using hp
 simp [results, hf, hp', asAddr, run_loadVar_at w h hm hn]

section
variable {w w' : World} {gp gm : Nat} {s : List UInt8} {i : Int} {tv uv : Value} {tk : List Sc} {us : List (List UInt8)}
theorem BL.ty {g : Nat} {t t' : TypeId} {l l' : List Value} (h : BL w g t l) (h' : BL w g t' l') : t = t' := by
 have := h.symm.trans h'
 cases this; rfl
theorem RW.ty {te : TypeId} {n m : Nat} {v : Value} {l : List Value} (h : RW w te m v n l) {b : Nat} (hb : v.ownBlock = some b) : ∃ cs, BL w b te cs := by
 rcases h.2 with ⟨rfl, _⟩ | ⟨g, o, c, cs, rfl, hb', r⟩
 ·
  cases hb
 ·
  cases hb; exact ⟨cs, hb'⟩
theorem MB.no_cells {P : Program} {k t : TypeId} {b : Nat} {L : List (Value × Value)} {l : List Value} (h : MB P k w b L) (h' : BL w b t l) : False := by
 obtain ⟨es, clock, h1, _⟩ := h
 have := h1.symm.trans h'
 cases this
theorem PQ.gm_tv (h : PQ w gp gm s i tv uv tk us) : tv.ownBlock ≠ some gm := fun e => by
 obtain ⟨cs, hc⟩ := h.st.t.ty e
 obtain ⟨L, hm, _⟩ := h.m
 exact hm.no_cells hc
theorem PQ.gm_uv (h : PQ w gp gm s i tv uv tk us) : uv.ownBlock ≠ some gm := fun e => by
 obtain ⟨cs, hc⟩ := h.st.u.ty e
 obtain ⟨L, hm, _⟩ := h.m
 exact hm.no_cells hc
theorem PQ.tv_uv (h : PQ w gp gm s i tv uv tk us) {b : Nat} (h1 : tv.ownBlock = some b) : uv.ownBlock ≠ some b := fun e => by
 obtain ⟨cs, hc⟩ := h.st.u.ty e
 obtain ⟨cs', hc'⟩ := h.st.t.ty h1
 exact absurd (hc.ty hc') (by decide)
theorem PQ.gp_not (h : PQ w gp gm s i tv uv tk us) : ¬ PB gm tv uv gp := fun hb => by
 rcases hb with rfl | hb | hb
 ·
  obtain ⟨L, hm, _⟩ := h.m
  exact hm.no_cells h.p
 ·
  obtain ⟨cs, hc⟩ := h.st.t.ty hb
  exact absurd (hc.ty h.p) (by decide)
 ·
  obtain ⟨cs, hc⟩ := h.st.u.ty hb
  exact absurd (hc.ty h.p) (by decide)
end
def tokC (s : List UInt8) (i : Int) (x : Sc) : List Value := [.string (strB s), .int .i64 i, .string (strB x.1), .string (strB x.2)]
def tokZ : List Value := [.string (strB []), .int .i64 0, .string (strB []), .string (strB [])]
theorem tokZ_one : ∀ v ∈ tokZ, v.oneCell' = true := by
 intro v hv
 simp only [tokZ, List.mem_cons, List.not_mem_nil, or_false] at hv
 rcases hv with rfl | rfl | rfl | rfl <;> rfl
theorem tokC_one (s : List UInt8) (i : Int) (x : Sc) : ∀ v ∈ tokC s i x, v.oneCell' = true := by
 intro v hv
 simp only [tokC, List.mem_cons, List.not_mem_nil, or_false] at hv
 rcases hv with rfl | rfl | rfl | rfl <;> rfl
theorem tokZero : (Tryz.prog.info? 45).map (·.zero) = some (some (.agg tokZ.toArray)) := by kernel_rfl
theorem stZero' : (Tryz.prog.info? 80).map (·.zero) = some (some (.agg [nilV, nilV].toArray)) := by kernel_rfl

def scZ : List Value := [.string (strB []), .string (strB [])]
theorem scZero : (Tryz.prog.info? 109).map (·.zero) = some (some (.agg scZ.toArray)) := by kernel_rfl
theorem infoSec : (Tryz.prog.info? 109).map (fun i => (i.zero, i.size, i.bytes)) = some (some (.agg scZ.toArray), 2, 32) := by kernel_rfl
theorem bslS (s : List UInt8) (w : World) : (Instr.buildSlice 52 1 #[(0, .string (strB s))]).run Tryz.prog w = .ok (.slice (some ⟨w.heap.size, 0, none⟩) 1 1) (w.alloc (.cells [.string (strB s)].toArray 9)) := by kernel_rfl
set_option maxRecDepth 100000 in
set_option maxHeartbeats 1000000 in
theorem use_one (w : World) (gp gm : Nat) (s : List UInt8) (i : Int) (tv uv : Value) (x : Sc) (tk : List Sc) (us : List (List UInt8)) (h : PQ w gp gm s i tv uv (x :: tk) us) (hs : s.length ≤ 9223372036854775807) (hi : (Lit.int .i64 i).wf = true) (hu : us.length < 100000) :
  Calls Tryz.prog 14 #[.pointer (some ⟨gp, 0, none⟩), pidV s i] w fun e w' => e = .returned (.tuple #[.agg (tokC s i x).toArray, .int .i64 0]) ∧
   ∃ tv' uv', PQ w' gp gm s i tv' uv' tk (us ++ [x.1]) ∧ Kp (PB gm tv uv) w w' ∧ ∀ b, PB gm tv' uv' b → PB gm tv uv b ∨ w.heap.size ≤ b := by
 obtain ⟨g, o, c, rfl, hnc, hat⟩ := h.st.t.at_ (by simp)
 obtain ⟨Au, cu, rfl, _⟩ := h.st.u.form
 have hsec : At w g o (scC x) := At.left (xs := tk.flatMap scC) (by rw [List.flatMap_cons] at hat; exact hat)
 have HP := Lib.hid h
 have HA := Lib.hid hsec
 obtain ⟨L, hm, hL⟩ := h.m
 have HM := Lib.hid hm
 have HL := Lib.hid hL
 have HKY := Lib.hid (keyPid s i hs hi)
 have HU := Lib.hid hu
 have hgl : g < w.heap.size := h.st.t.lt rfl
 obtain ⟨nn, hnn⟩ : ∃ nn, nn = (x :: tk).length := ⟨_, rfl⟩
 have HN := Lib.hid hnn
 rw [← hnn] at HP HL ⊢
 have hpos : 0 < nn := by rw [hnn]; simp
 have hz : ((nn : Int) == 0) = false := by
  simp only [beq_eq_false_iff_ne, ne_eq]; omega
 obtain ⟨mu, hmu⟩ : ∃ mu, mu = us.length := ⟨_, rfl⟩
 have HMU := Lib.hid hmu
 rw [← hmu] at HP HL ⊢
 clear h hm hL hs hi hnn hmu hat hsec hu
 go_enter Tryz.func14, Tryz.ntmps14
 go_wp2_with (first
  | ((with_reducible show OpW 3); refine wpList_box _ rfl 39 (.tmp 1) rfl [.string (strB s), .int .i64 i] rfl ?_; intro w1 a1 a2 a3; have HQ := Lib.hid a1; have HB1 := Lib.hid a2; clear a1 a2 a3)
  | ((with_reducible show OpW 4); refine wpList_alloc _ rfl 45 rfl tokZ tokZero ?_; intro w2 a1 a2 a3; have HT2 := Lib.hid a1; have HB2 := Lib.hid (below_then HB1.out (a2.mono (Nat.le_refl _))); have HQ2 := Lib.hid (HQ.out.kept a2); have HZ2 := Lib.hid a3; clear a1 a2 a3))
 have HP2 := Lib.hid (HP.out.kept HB2.out)
 have HM2 := Lib.hid (HM.out.kept HB2.out)
 have HO : Hid (∀ v ∈ [Value.slice (some ⟨g, o, none⟩) nn c, Value.slice Au mu cu], v.oneCell' = true) := Lib.hid (by
  intro v hv
  simp only [List.mem_cons, List.not_mem_nil, or_false] at hv
  rcases hv with rfl | rfl <;> rfl)
 have HC2 : Hid (∀ w', Below w2.heap.size w2 w' → w'.cell? ⟨gp, 0, none⟩ = some (.map (some gm)) ∧ Below w2.heap.size w2 w') := Lib.hid (fun w' hb => ⟨(HP2.out.kept hb).p.get (j := 0) rfl, hb⟩)
 refine Text.wp_region_text (fun w' => w'.cell? ⟨gp, 0, none⟩ = some (.map (some gm)) ∧ Below w2.heap.size w2 w') [(0, 4), (1, 4), (2, 4), (3, 0), (4, 0), (5, 0), (6, 2), (7, 2)] (by kernel_rfl) (by kernel_rfl) (fun _ _ _ _ _ h => h) (HC2.out _ (Below.refl _ _).drew) ?_
 iterate 3 (refine Text.purek rfl rfl (fun K hK => ⟨_, fun w' => by go_simp <;> rfl, ?_⟩); go_simp; refine hK _ ?_; clear hK K)
 (refine Text.heldk rfl rfl (fun K hK => ⟨_, fun w' hw' => by go_simp <;> rfl, ?_⟩); go_simp; refine hK _ ?_; clear hK K)
 refine Text.heldk rfl rfl (fun K hK => ?_)
 refine ⟨_, fun w' hw' => exec_loadv 39 (.tmp 3) rfl 2 (by kernel_rfl) w.heap.size 0 [.string (strB s), .int .i64 i] rfl (BL.all (HQ2.out.kept hw'.2)) rfl, ?_⟩
 go_simp
 refine hK _ ?_
 clear hK K
 refine Text.heldk rfl rfl (fun K hK => ?_)
 refine ⟨_, fun w' hw' => exec_look (.tmp 11) (.tmp 12) 92 39 80 rfl pidKeyed stMap (stV nilV nilV) stZero gm L rfl (HM2.out.kept hw'.2) (pidV s i) rfl HKY.out (stV (.slice (some ⟨g, o, none⟩) nn c) (.slice Au mu cu)) (fun v f hf => PQ.found HL.out hf), ?_⟩
 go_simp
 refine hK _ ?_
 clear hK K
 refine Text.eff rfl rfl (fun K hK => ?_)
 refine wp_alloc 80 rfl [nilV, nilV] stZero' ?_
 intro w3 a1 a2 a3
 have HS3 := Lib.hid a1
 have HX3 : Hid (Below w2.heap.size w2 w3) := Lib.hid (below_then (Below.refl _ _).drew (a2.mono (Nat.le_refl _)))
 have HZ3 : Hid (w3.heap.size = w2.heap.size + 1) := Lib.hid a3
 refine hK _ _ (HC2.out _ HX3.out) ?_
 clear hK K a1 a2 a3
 refine Text.eff rfl rfl (fun K hK => ?_)
 refine wp_storev 80 (.tmp 6) (.tmp 13) rfl 2 (by kernel_rfl) w2.heap.size 0 _ [nilV, nilV] [.slice (some ⟨g, o, none⟩) nn c, .slice Au mu cu] rfl rfl HS3.out rfl HO.out (by decide) ?_
 intro w4 a1 a2 a3
 have q0 := a1.get (j := 0) rfl
 have q1 := a1.get (j := 1) rfl
 have HS4 : Hid (BL w4 w2.heap.size 80 [.slice (some ⟨g, o, none⟩) nn c, .slice Au mu cu]) := Lib.hid a1
 have HX4 : Hid (Below w2.heap.size w2 w4) := Lib.hid (((Kp.of_below (S := fun _ => False) HX3.out).after a2 (fun i hi e => by omega)).below (Nat.le_refl _) (fun _ h => h.elim))
 refine hK _ _ (HC2.out _ HX4.out) ?_
 have HT4 := Lib.hid (HT2.out.kept HX4.out)
 have HB4 := Lib.hid (below_thenB HB2.out HB2.out.size HX4.out)
 have HA4 := Lib.hid (HA.out.kept HB4.out)
 have HZ4 : Hid (w4.heap.size = w2.heap.size + 1) := Lib.hid (by rw [a3]; exact HZ3.out)
 clear hK K a1 a2 a3
 refine Text.done ?_
 go_wp2_with (first
  | ((with_reducible show OpW 22); refine wpList_loadv _ rfl 109 (.tmp 21) rfl 2 (by kernel_rfl) g o (scC x) rfl HA4.out rfl ?_)
  | ((with_reducible show OpW 7); refine wpList_alloc _ rfl 109 rfl scZ scZero ?_; intro w5 a1 a2 a3; have HF5 := Lib.hid a1; have HX5 := Lib.hid a2; have HZ5 := Lib.hid a3; clear a1 a2 a3)
  | ((with_reducible show OpN); refine wpList_storev _ rfl 109 (.tmp 7) (.tmp 22) rfl 2 (by kernel_rfl) w4.heap.size 0 _ scZ (scC x) rfl rfl HF5.out rfl (scC_one x) (by decide) ?_; intro w6 a1 a2 a3; have HF6 : Hid (BL w6 w4.heap.size 109 (scC x)) := Lib.hid a1; have HK6 := Lib.hid a2; have HZ6 : Hid (w6.heap.size = w4.heap.size + 1) := Lib.hid (by rw [a3]; exact HZ5.out); have HS6 : Hid (BL w6 w2.heap.size 80 [.slice (some ⟨g, o, none⟩) nn c, .slice Au mu cu]) := Lib.hid ((HS4.out.kept HX5.out).kp a2 (fun e => by have := HZ4.out; omega)); have r0 := HS6.out.get (j := 0) rfl; have HX6 : Hid (Below w4.heap.size w4 w6) := Lib.hid (((Kp.of_below (S := fun _ => False) HX5.out).after a2 (fun i hi e => by omega)).below (Nat.le_refl _) (fun _ h => h.elim)); have HB6 := Lib.hid (below_thenB HB4.out HB4.out.size HX6.out); have HRT6 : Hid (RW w6 109 2 (.slice (some ⟨g, o, none⟩) nn c) nn ((x :: tk).flatMap scC)) := Lib.hid (by have := (HP.out.kept HB6.out).st.t; rw [← HN.out] at this; exact this); have HRU6 : Hid (RW w6 9 1 (.slice Au mu cu) mu (us.map usC)) := Lib.hid (by have := (HP.out.kept HB6.out).st.u; rw [← HMU.out] at this; exact this); clear a1 a2 a3 q0 q1)
  | ((with_reducible show OpW 25); refine wpList_cutRW _ rfl (.tmp 24) _ 78 109 2 rfl Tryz.underlying78 (agg_size _ (by kernel_rfl)) _ nn _ rfl HRT6.out rfl hpos ?_; intro tv' a1 a2; have HV := Lib.hid a1; have HVo := Lib.hid a2; clear a1 a2)
  | ((with_reducible show OpN); refine wpList_store1 _ rfl 78 (.tmp 26) (.tmp 25) rfl (one_size _ (by kernel_rfl)) w2.heap.size 0 80 _ tv' rfl rfl HS6.out (by obtain ⟨A', c', e', _⟩ := HV.out.form; rw [e']; rfl) (by obtain ⟨A', c', e', _⟩ := HV.out.form; rw [e']; rfl) (by simp) ?_; intro w7 a1 a2 a3; have HS7 : Hid (BL w7 w2.heap.size 80 [tv', .slice Au mu cu]) := Lib.hid a1; have HK7 := Lib.hid a2; have HZ7 := Lib.hid a3; have r1 := HS7.out.get (j := 1) rfl; have HF7 := Lib.hid (HF6.out.kp a2 (fun e => by have := HZ4.out; omega)); have r2 := HF7.out.get (j := 0) rfl; have HRU7 := Lib.hid (HRU6.out.kp a2 (fun b hb e => by have h1 := HP.out.lt (.inr (.inr hb)); have h2 := HB2.out.size; omega)); clear a1 a2 a3 r0)
  | ((with_reducible show OpW 31); refine wpList_bslice _ rfl 52 9 1 _ rfl #[(0, .string (strB x.1))] (by rw [List.map_toArray]; rfl) [.string (strB x.1)] (bslS x.1 _) ?_; intro w8 a1 a2 a3; have HG8 := Lib.hid a1; have HX8 := Lib.hid a2; have HZ8 := Lib.hid a3; have HRU8 := Lib.hid (HRU7.out.kept a2); have HS8 := Lib.hid (HS7.out.kept a2); clear a1 a2 a3)
  | ((with_reducible show OpW 32); obtain ⟨iS, i1, i2, i3, i4⟩ := info_some infoStr; refine wpList_appRW _ rfl (.tmp 28) (.tmp 31) 52 9 1 iS _ rfl Tryz.underlying52 i1 i2 i3 rfl (.slice Au mu cu) mu _ rfl HRU8.out w7.heap.size [.string (strB x.1)] rfl HG8.out rfl (by intro v hv; simp only [List.mem_singleton] at hv; subst hv; rfl) (by rw [i4, HMU.out]; have := HU.out; omega) (by rw [HMU.out]; have := HU.out; omega) ?_; intro uv' w9 a1; have HR9 := Lib.hid a1; have HS9 := Lib.hid (HS8.out.kp a1.kp (fun hb => by have h1 := HP.out.lt (.inr (.inr hb)); have h2 := HB2.out.size; omega)); clear a1 i1 i2 i3 i4)
  | ((with_reducible show OpN); refine wpList_store1 _ rfl 52 (.tmp 33) (.tmp 32) rfl (one_size _ (by kernel_rfl)) w2.heap.size 1 80 _ uv' rfl rfl HS9.out (by obtain ⟨A', c', e', _⟩ := HR9.out.row.form; rw [e']; rfl) (by obtain ⟨A', c', e', _⟩ := HR9.out.row.form; rw [e']; rfl) (by simp) ?_; intro w10 a1 a2 a3; have HS10 : Hid (BL w10 w2.heap.size 80 [tv', uv']) := Lib.hid a1; have HK10 := Lib.hid a2; have HZ10 := Lib.hid a3; clear a1 a2 a3 r1 r2))
 have HLU : Hid (∀ b, (Value.slice Au mu cu).ownBlock = some b → b < w.heap.size) := Lib.hid (fun b hb => HP.out.lt (.inr (.inr hb)))
 have HSZ : Hid (w.heap.size < w1.heap.size ∧ w1.heap.size < w2.heap.size ∧ w2.heap.size < w4.heap.size) := Lib.hid ⟨HQ.out.lt, by have := HZ2.out; omega, by have := HZ4.out; omega⟩
 have HB8 : Hid (Below w.heap.size w w8) := Lib.hid (below_thenB (((Kp.of_below (S := fun _ => False) HB6.out).after HK7.out (fun i hi e => by have := HSZ.out; omega)).below (Nat.le_refl _) (fun _ h => h.elim)) (by have := HB6.out.size; have := HZ7.out; omega) HX8.out)
 have HK10W : Hid (Kp (fun b => (Value.slice Au mu cu).ownBlock = some b) w w10) := Lib.hid (((Kp.of_below HB8.out).after HR9.out.kp (fun i hi e => e)).after HK10.out (fun i hi e => by have := HSZ.out; omega))
 have HK10V : Hid (Kp (fun b => b = w2.heap.size ∨ (Value.slice Au mu cu).ownBlock = some b) w6 w10) := Lib.hid (((((Kp.refl (fun b => b = w2.heap.size ∨ (Value.slice Au mu cu).ownBlock = some b) w6).after HK7.out (fun i hi e => .inl e)).after (Kp.of_below (S := fun _ => False) HX8.out) (fun i hi e => e.elim)).after HR9.out.kp (fun i hi e => .inr e)).after HK10.out (fun i hi e => .inl e))
 have HQ10 := Lib.hid (((HQ2.out.kept HX4.out).kept HX6.out).kp HK10V.out (fun e => by exact e.elim (fun e => by have := HSZ.out; omega) (fun e => by have := HLU.out _ e; omega)))
 have HT10 := Lib.hid ((HT4.out.kept HX6.out).kp HK10V.out (fun e => by exact e.elim (fun e => by have := HSZ.out; omega) (fun e => by have := HLU.out _ e; have := HSZ.out; omega)))
 have HF10 := Lib.hid (HF6.out.kp HK10V.out (fun e => by exact e.elim (fun e => by have := HSZ.out; omega) (fun e => by have := HLU.out _ e; have := HSZ.out; omega)))
 have HP10 := Lib.hid (HP.out.p.kp HK10W.out (fun e => HP.out.gp_not (.inr (.inr e))))
 have HM10 := Lib.hid (HM.out.kp HK10W.out (fun e => HP.out.gm_uv e))
 have HV10 := Lib.hid (HV.out.kp HK10V.out (fun b hb e => by rw [HVo.out] at hb; exact e.elim (fun e => by have := HP.out.lt (.inr (.inl hb)); have := HSZ.out; omega) (fun e => by exact HP.out.tv_uv hb e)))
 have HR10 := Lib.hid (HR9.out.row.kp HK10.out (fun b hb e => by exact (HR9.out.own b hb).elim (fun h1 => by have := HLU.out _ h1; have := HSZ.out; omega) (fun h1 => by have := HZ8.out; have := HZ7.out; have := HZ6.out; have := HSZ.out; omega)))
 have HGM : Hid (gm < w.heap.size) := Lib.hid HM.out.lt
 have HW10 : Hid (w4.heap.size + 1 < w10.heap.size) := Lib.hid (by have := HR9.out.kp.size; have := HZ8.out; have := HZ7.out; have := HZ6.out; have := HZ10.out; omega)
 clear HO HC2 hz
 have HC10 : Hid (∀ w', Below w10.heap.size w10 w' → w'.cell? ⟨gp, 0, none⟩ = some (.map (some gm)) ∧ Below w10.heap.size w10 w') := Lib.hid (fun w' hb => ⟨(HP10.out.kept hb).get (j := 0) rfl, hb⟩)
 refine Text.wp_region_text (fun w' => w'.cell? ⟨gp, 0, none⟩ = some (.map (some gm)) ∧ Below w10.heap.size w10 w') [(0, 4), (1, 4), (2, 4), (3, 0), (4, 0), (5, 0), (6, 3)] (by kernel_rfl) (by kernel_rfl) (fun _ _ _ _ _ h => h) (HC10.out _ (Below.refl _ _).drew) ?_
 iterate 3 (refine Text.purek rfl rfl (fun K hK => ⟨_, fun w' => by go_simp <;> rfl, ?_⟩); go_simp; refine hK _ ?_; clear hK K)
 (refine Text.heldk rfl rfl (fun K hK => ⟨_, fun w' hw' => by go_simp <;> rfl, ?_⟩); go_simp; refine hK _ ?_; clear hK K)
 refine Text.heldk rfl rfl (fun K hK => ?_)
 refine ⟨_, fun w' hw' => exec_loadv 39 (.tmp 3) rfl 2 (by kernel_rfl) w.heap.size 0 [.string (strB s), .int .i64 i] rfl (BL.all (HQ10.out.kept hw'.2)) rfl, ?_⟩
 go_simp
 refine hK _ ?_
 clear hK K
 refine Text.heldk rfl rfl (fun K hK => ?_)
 refine ⟨_, fun w' hw' => exec_loadv 80 (.tmp 6) rfl 2 (by kernel_rfl) w2.heap.size 0 [tv', uv'] rfl (BL.all (HS10.out.kept hw'.2)) rfl, ?_⟩
 go_simp
 refine hK _ ?_
 clear hK K
 refine Text.last rfl rfl (fun K hK => ?_)
 refine wp_upd (.tmp 37) (.tmp 38) (.tmp 39) 92 39 80 rfl pidKeyed stMap gm L rfl HM10.out.drew (pidV s i) (stV tv' uv') rfl rfl HKY.out ?_
 intro w11 L' h1 h2 h3 h4
 obtain rfl := PQ.stored HL.out h1
 have HM11 := Lib.hid h2
 have HK11 : Hid (Kp (· = gm) w10 w11) := Lib.hid ((Kp.refl _ w10).drew.trans h3)
 have HQ11 := Lib.hid (HQ10.out.kp HK11.out (fun e => by have := HGM.out; omega))
 have HT11 := Lib.hid (HT10.out.kp HK11.out (fun e => by have := HGM.out; have := HSZ.out; omega))
 have HF11 := Lib.hid (HF10.out.kp HK11.out (fun e => by have := HGM.out; have := HSZ.out; omega))
 have r0 := HF11.out.get (j := 0) rfl
 have r1 := HF11.out.get (j := 1) rfl
 refine hK _ _ ?_
 clear hK K h1 h2 h3 h4
 refine Text.done ?_
 go_wp2_with (first
  | ((with_reducible show OpW 40); refine wpList_loadv _ rfl 39 (.tmp 3) rfl 2 (by kernel_rfl) w.heap.size 0 [.string (strB s), .int .i64 i] rfl (BL.all HQ11.out) rfl ?_)
  | ((with_reducible show OpN); refine wpList_storev _ rfl 45 (.tmp 4) (.tmp 45) rfl 4 (by kernel_rfl) w1.heap.size 0 _ tokZ (tokC s i x) rfl rfl HT11.out rfl (tokC_one s i x) (by decide) ?_; intro w12 a1 a2 a3; have HT12 := Lib.hid a1; have HK12 := Lib.hid a2; clear a1 a2 a3))
 have hgp : gp < w.heap.size := HP.out.p.lt
 have hgg : gp ≠ gm := fun e => HP.out.gp_not (.inl e)
 have hw8 : w4.heap.size < w8.heap.size := by have := HZ8.out; have := HZ7.out; have := HZ6.out; omega
 have htb : ∀ b, tv'.ownBlock = some b → (Value.slice (some ⟨g, o, none⟩) nn c).ownBlock = some b := fun b hb => HVo.out.symm.trans hb
 have hul : ∀ b, uv'.ownBlock = some b → ¬ b = gm ∧ ¬ b = w1.heap.size := fun b hb => (HR9.out.own b hb).elim
  (fun h1 => ⟨fun e => HP.out.gm_uv (by subst e; exact h1), fun e => by have := HLU.out _ h1; have := HSZ.out; omega⟩)
  (fun h1 => ⟨fun e => by have := HGM.out; have := HSZ.out; omega, fun e => by have := HSZ.out; omega⟩)
 have htl : ∀ b, tv'.ownBlock = some b → ¬ b = gm ∧ ¬ b = w1.heap.size := fun b hb =>
  ⟨fun e => HP.out.gm_tv (by subst e; exact htb _ hb), fun e => by have := HP.out.lt (.inr (.inl (htb b hb))); have := HSZ.out; omega⟩
 have hbt := HP.out.st.bt
 rw [List.length_cons] at hbt
 have hnn := HN.out
 rw [List.length_cons] at hnn
 have e1 : nn - 1 = tk.length := by omega
 have RT := (HV10.out.kp HK11.out (fun b hb => (htl b hb).1)).kp HK12.out (fun b hb => (htl b hb).2)
 rw [e1] at RT
 have RU := (HR10.out.kp HK11.out (fun b hb => (hul b hb).1)).kp HK12.out (fun b hb => (hul b hb).2)
 have e2 : mu + 1 = (us ++ [x.1]).length := by rw [List.length_append, HMU.out]; rfl
 have e3 : us.map usC ++ [.string (strB x.1)] = (us ++ [x.1]).map usC := by rw [List.map_append]; rfl
 rw [e2, e3] at RU
 (try simp only [Exit.inBlock, Exit.then])
 refine bodyPost_ret (results_at2 w12 Tryz.results14 (n := 4) (by kernel_rfl) (g := w1.heap.size) (o := 0) rfl (ms := tokC s i x) (BL.all HT12.out) rfl) rfl ⟨rfl, tv', uv', ?_, ?_, ?_⟩
 ·
  exact ⟨(HP10.out.kp HK11.out hgg).kp HK12.out (by have := HSZ.out; omega), ⟨RT, RU, by omega, by rw [← e2, HMU.out]; exact HU.out⟩, _, HM11.out.kp HK12.out (by have := HGM.out; have := HSZ.out; omega), .inr rfl⟩
 ·
  exact ((HK10W.out.mono (fun _ _ h => .inr (.inr h))).after HK11.out (fun _ _ e => .inl e)).after HK12.out (fun i hi e => by have := HSZ.out; omega)
 ·
  rintro b (rfl | hb | hb)
  ·
   exact .inl (.inl rfl)
  ·
   exact .inl (.inr (.inl (htb b hb)))
  ·
   exact (HR9.out.own b hb).elim (fun h1 => .inl (.inr (.inr h1))) (fun h1 => .inr (by have := HSZ.out; omega))
end Go.Proofs.YtheijpjfpaghfaaGreatDoor
/- Contract of ref03.Sum. -/
namespace Go.Proofs.YtheijpjfpaghfaaGreatDoor
open Go Go.RowKit Gf Sha

attribute [local go_sem] Sha.conv_b Sha.sh24 Sha.sh16 Sha.sh8

end Go.Proofs.YtheijpjfpaghfaaGreatDoor
/- Contracts of ref03.Join for one string, of the law's collides and pad. -/
namespace Go.Proofs.YtheijpjfpaghfaaGreatDoor
open Go Go.RowKit Gf Sha

theorem strB_app (a b : List UInt8) : strB a ++ strB b = strB (a ++ b) := by
 rw [ByteArray.ext_iff]
 simp [strB, ByteArray.data_append]
attribute [local go_sem] strB_app

attribute [local go_sem] Gf.xor_bits
end Go.Proofs.YtheijpjfpaghfaaGreatDoor
/- Contracts of merkle.Leaf, merkle.Node, of the reference's, of ref03.Join for any strings, and the plain tree of sums. -/
namespace Go.Proofs.YtheijpjfpaghfaaGreatDoor
open Go Go.RowKit Gf Sha

/-- The node of two sums. -/
def mnode (l r : List UInt8) : List UInt8 := sha ([1] ++ (l ++ r))

end Go.Proofs.YtheijpjfpaghfaaGreatDoor
