/- Several texts in one: Ia, Ib, Ic. -/
import Derived.Test.YtheijpjfpaghfaaGreatDoorC38
/- Left and Use of a purse of many pieces: the map's list is any (printed by mkia.py out of Pu2 and Pu3). -/
namespace Go.Proofs.YtheijpjfpaghfaaGreatDoor
open Go Go.RowKit Gf

/-- What the map's list has at (s, i). -/
def Fnd (L : List (Value × Value)) (s : List UInt8) (i : Int) (tv uv : Value) : Prop := ∀ v f, Found L (pidV s i) (stV nilV nilV) v f → v = stV tv uv
/-- A purse, seen at the piece (s, i). -/
structure PX (w : World) (gp gm : Nat) (L : List (Value × Value)) (s : List UInt8) (i : Int) (tv uv : Value) (tk : List Sc) (us : List (List UInt8)) : Prop where
 p : BL w gp 94 [.map (some gm)]
 st : Stk w tv uv tk us
 m : MB Tryz.prog 39 w gm L
 f : Fnd L s i tv uv
section
variable {w w' : World} {gp gm : Nat} {L : List (Value × Value)} {s : List UInt8} {i : Int} {tv uv : Value} {tk : List Sc} {us : List (List UInt8)}
theorem PX.kept (h : PX w gp gm L s i tv uv tk us) (hb : Below w.heap.size w w') : PX w' gp gm L s i tv uv tk us := ⟨h.p.kept hb, h.st.kept hb, h.m.kept hb, h.f⟩
theorem PX.lt (h : PX w gp gm L s i tv uv tk us) {b : Nat} (hb : PB gm tv uv b) : b < w.heap.size := by
 rcases hb with rfl | hb | hb
 ·
  exact h.m.lt
 ·
  exact h.st.t.lt hb
 ·
  exact h.st.u.lt hb
theorem fnd_stored {P : Program} {k : TypeId} {b : Nat} {L' : List (Value × Value)} (hm : MB P k w b L) (h : Stored L (pidV s i) (stV tv uv) L') : Fnd L' s i tv uv := fun v f hf => by
 have hnd := List.pairwise_iff_getElem.1 (show (L.map (·.1)).Pairwise (· ≠ ·) from hm.nodup)
 have key : ∀ (j : Nat) (u : Value), L[j]? = some (pidV s i, u) → ∀ (j' : Nat) (u' : Value), L[j']? = some (pidV s i, u') → j = j' := fun j u hj j' u' hj' => by
  obtain ⟨h1, e1⟩ := List.getElem?_eq_some_iff.1 hj
  obtain ⟨h2, e2⟩ := List.getElem?_eq_some_iff.1 hj'
  rcases Nat.lt_trichotomy j j' with h3 | h3 | h3
  ·
   exact absurd (by rw [List.getElem_map, List.getElem_map, e1, e2]) (hnd j j' (by simpa using h1) (by simpa using h2) h3)
  ·
   exact h3
  ·
   exact absurd (by rw [List.getElem_map, List.getElem_map, e1, e2]) (hnd j' j (by simpa using h2) (by simpa using h1) h3)
 cases h with
 | old j u h9 =>
  cases hf with
  | no h8 =>
   obtain ⟨h1, e1⟩ := List.getElem?_eq_some_iff.1 h9
   exact absurd rfl (h8 (pidV s i, stV tv uv) (List.mem_iff_getElem.2 ⟨j, by simpa using h1, by simp⟩))
  | yes j' v h8 =>
   by_cases hj : j = j'
   ·
    subst hj
    obtain ⟨h1, e1⟩ := List.getElem?_eq_some_iff.1 h8
    simp at e1
    exact e1.symm
   ·
    rw [List.getElem?_set_ne hj] at h8
    exact absurd (key j u h9 j' v h8) hj
 | new h9 =>
  cases hf with
  | no h8 => exact absurd rfl (h8 (pidV s i, stV tv uv) (List.mem_append_right _ (List.mem_singleton_self _)))
  | yes j' v h8 =>
   by_cases hj : j' < L.length
   ·
    rw [List.getElem?_append_left hj] at h8
    obtain ⟨h1, e1⟩ := List.getElem?_eq_some_iff.1 h8
    exact absurd (by rw [e1]) (h9 _ (List.getElem_mem h1))
   ·
    rw [List.getElem?_append_right (by omega)] at h8
    cases hk : j' - L.length with
    | zero => rw [hk] at h8; simp at h8; exact h8.symm
    | succ k => rw [hk] at h8; simp at h8
theorem PX.gm_tv (h : PX w gp gm L s i tv uv tk us) : tv.ownBlock ≠ some gm := fun e => by
 obtain ⟨cs, hc⟩ := h.st.t.ty e
 exact h.m.no_cells hc
theorem PX.gm_uv (h : PX w gp gm L s i tv uv tk us) : uv.ownBlock ≠ some gm := fun e => by
 obtain ⟨cs, hc⟩ := h.st.u.ty e
 exact h.m.no_cells hc
theorem PX.tv_uv (h : PX w gp gm L s i tv uv tk us) {b : Nat} (h1 : tv.ownBlock = some b) : uv.ownBlock ≠ some b := fun e => by
 obtain ⟨cs, hc⟩ := h.st.u.ty e
 obtain ⟨cs', hc'⟩ := h.st.t.ty h1
 exact absurd (hc.ty hc') (by decide)
theorem PX.gp_not (h : PX w gp gm L s i tv uv tk us) : ¬ PB gm tv uv gp := fun hb => by
 rcases hb with rfl | hb | hb
 ·
  exact h.m.no_cells h.p
 ·
  obtain ⟨cs, hc⟩ := h.st.t.ty hb
  exact absurd (hc.ty h.p) (by decide)
 ·
  obtain ⟨cs, hc⟩ := h.st.u.ty hb
  exact absurd (hc.ty h.p) (by decide)
end
set_option maxRecDepth 100000 in
theorem pleft_any (w : World) (gp gm : Nat) (L : List (Value × Value)) (s : List UInt8) (i : Int) (tv uv : Value) (tk : List Sc) (us : List (List UInt8)) (h : PX w gp gm L s i tv uv tk us) (hs : s.length ≤ 9223372036854775807) (hi : (Lit.int .i64 i).wf = true) :
  Calls Tryz.prog 19 #[.pointer (some ⟨gp, 0, none⟩), pidV s i] w fun e w' => e = .returned (.int .i64 (tk.length : Int)) ∧ Below w.heap.size w w' := by
 have HP := Lib.hid h
 have hm := h.m
 have hL := h.f
 have HM := Lib.hid hm
 have HL := Lib.hid hL
 have HK := Lib.hid (keyPid s i hs hi)
 obtain ⟨At, ct, et, _⟩ := h.st.t.form
 clear h hm hL hs hi
 go_enter Tryz.func19, Tryz.ntmps19
 go_wp2_with (first
  | ((with_reducible show OpW 3); refine wpList_box _ rfl 39 (.tmp 1) rfl [.string (strB s), .int .i64 i] rfl ?_; intro w1 a1 a2 a3; have HQ := Lib.hid a1; have HB1 := Lib.hid a2; clear a1 a2 a3))
 have HP1 := Lib.hid (HP.out.kept HB1.out)
 have HM1 := Lib.hid (HM.out.kept HB1.out)
 refine Text.wp_region_text (fun w' => w'.cell? ⟨gp, 0, none⟩ = some (.map (some gm))) [(0, 4), (1, 4), (2, 4), (3, 0), (4, 2), (5, 2), (6, 4), (7, 4), (8, 4)] (by kernel_rfl) (by kernel_rfl) (fun _ _ _ _ _ h => h) (HP1.out.p.get (j := 0) rfl) ?_
 iterate 3 (refine Text.purek rfl rfl (fun K hK => ⟨_, fun w' => by go_simp <;> rfl, ?_⟩); go_simp; refine hK _ ?_; clear hK K)
 (refine Text.heldk rfl rfl (fun K hK => ⟨_, fun w' hw' => by go_simp <;> rfl, ?_⟩); go_simp; refine hK _ ?_; clear hK K)
 refine Text.eff rfl rfl (fun K hK => ?_)
 refine wp_loadv 39 (.tmp 3) rfl 2 (by kernel_rfl) w.heap.size 0 [.string (strB s), .int .i64 i] rfl (BL.all HQ.out.drew) rfl ?_
 refine hK _ _ (HP1.out.p.get (j := 0) rfl) ?_
 clear hK K
 refine Text.eff rfl rfl (fun K hK => ?_)
 refine wp_look (.tmp 8) (.tmp 9) 92 39 80 rfl pidKeyed stMap (stV nilV nilV) stZero gm L rfl HM1.out.drew (pidV s i) rfl HK.out ?_
 intro v f hf
 obtain rfl := HL.out v f hf
 refine hK _ _ (HP1.out.p.get (j := 0) rfl) ?_
 clear hK K hf
 subst et
 iterate 3 (refine Text.purek rfl rfl (fun K hK => ⟨_, fun w' => by go_simp <;> rfl, ?_⟩); go_simp; refine hK _ ?_; clear hK K)
 refine Text.done ?_
 go_wp2_with fail
 go_ret
 exact ⟨rfl, HB1.out.drew⟩

set_option maxRecDepth 100000 in
theorem puse_empty (w : World) (gp gm : Nat) (L : List (Value × Value)) (s : List UInt8) (i : Int) (tv uv : Value) (us : List (List UInt8)) (h : PX w gp gm L s i tv uv [] us) (hs : s.length ≤ 9223372036854775807) (hi : (Lit.int .i64 i).wf = true) :
  Calls Tryz.prog 14 #[.pointer (some ⟨gp, 0, none⟩), pidV s i] w fun e w' => e = .returned (.tuple #[.agg tokZ.toArray, .int .i64 4]) ∧ Below w.heap.size w w' := by
 obtain ⟨A, ct, rfl, _⟩ := h.st.t.form
 rw [List.length_nil] at h
 have HP := Lib.hid h
 have hm := h.m
 have hL := h.f
 have HM := Lib.hid hm
 have HL := Lib.hid hL
 have HK := Lib.hid (keyPid s i hs hi)
 clear h hm hL hs hi
 go_enter Tryz.func14, Tryz.ntmps14
 go_wp2_with (first
  | ((with_reducible show OpW 3); refine wpList_box _ rfl 39 (.tmp 1) rfl [.string (strB s), .int .i64 i] rfl ?_; intro w1 a1 a2 a3; have HQ := Lib.hid a1; have HB1 := Lib.hid a2; clear a1 a2 a3)
  | ((with_reducible show OpW 4); refine wpList_alloc _ rfl 45 rfl tokZ tokZero ?_; intro w2 a1 a2 a3; have HT2 := Lib.hid a1; have HB2 := Lib.hid (below_then HB1.out (a2.mono (Nat.le_refl _))); have HQ2 := Lib.hid (HQ.out.kept a2); clear a1 a2 a3))
 have HP2 := Lib.hid (HP.out.kept HB2.out)
 have HM2 := Lib.hid (HM.out.kept HB2.out)
 have HO : Hid (∀ v ∈ [Value.slice A 0 ct, uv], v.oneCell' = true) := Lib.hid (by
  obtain ⟨Au, cu, eu, _⟩ := HP.out.st.u.form
  rw [eu]
  intro v hv
  simp only [List.mem_cons, List.not_mem_nil, or_false] at hv
  rcases hv with rfl | rfl <;> rfl)
 have HC2 : Hid (∀ w', Below w2.heap.size w2 w' → w'.cell? ⟨gp, 0, none⟩ = some (.map (some gm)) ∧ Below w2.heap.size w2 w') := Lib.hid (fun w' hb => ⟨(HP2.out.kept hb).p.get (j := 0) rfl, hb⟩)
 refine Text.wp_region_text (fun w' => w'.cell? ⟨gp, 0, none⟩ = some (.map (some gm)) ∧ Below w2.heap.size w2 w') [(0, 4), (1, 4), (2, 4), (3, 0), (4, 0), (5, 0), (6, 2), (7, 2)] (by kernel_rfl) (by kernel_rfl) (fun _ _ _ _ _ h => h) (HC2.out _ (Below.refl _ _).drew) ?_
 iterate 3 (refine Text.purek rfl rfl (fun K hK => ⟨_, fun w' => by go_simp <;> rfl, ?_⟩); go_simp; refine hK _ ?_; clear hK K)
 (refine Text.heldk rfl rfl (fun K hK => ⟨_, fun w' hw' => by go_simp <;> rfl, ?_⟩); go_simp; refine hK _ ?_; clear hK K)
 refine Text.heldk rfl rfl (fun K hK => ?_)
 refine ⟨_, fun w' hw' => exec_loadv 39 (.tmp 3) rfl 2 (by kernel_rfl) w.heap.size 0 [.string (strB s), .int .i64 i] rfl (BL.all (HQ2.out.kept hw'.2)) rfl, ?_⟩
 go_simp
 refine hK _ ?_
 clear hK K
 refine Text.heldk rfl rfl (fun K hK => ?_)
 refine ⟨_, fun w' hw' => exec_look (.tmp 11) (.tmp 12) 92 39 80 rfl pidKeyed stMap (stV nilV nilV) stZero gm L rfl (HM2.out.kept hw'.2) (pidV s i) rfl HK.out (stV (.slice A 0 ct) uv) (fun v f hf => HL.out v f hf), ?_⟩
 go_simp
 refine hK _ ?_
 clear hK K
 refine Text.eff rfl rfl (fun K hK => ?_)
 refine wp_alloc 80 rfl [nilV, nilV] stZero' ?_
 intro w3 a1 a2 a3
 have HS3 := Lib.hid a1
 have HX3 : Hid (Below w2.heap.size w2 w3) := Lib.hid (below_then (Below.refl _ _).drew (a2.mono (Nat.le_refl _)))
 refine hK _ _ (HC2.out _ HX3.out) ?_
 clear hK K a1 a2 a3
 refine Text.eff rfl rfl (fun K hK => ?_)
 refine wp_storev 80 (.tmp 6) (.tmp 13) rfl 2 (by kernel_rfl) w2.heap.size 0 _ [nilV, nilV] [.slice A 0 ct, uv] rfl rfl HS3.out rfl HO.out (by decide) ?_
 intro w4 a1 a2 a3
 have q0 := a1.get (j := 0) rfl
 have HX4 : Hid (Below w2.heap.size w2 w4) := Lib.hid (((Kp.of_below (S := fun _ => False) HX3.out).after a2 (fun i hi e => by omega)).below (Nat.le_refl _) (fun _ h => h.elim))
 refine hK _ _ (HC2.out _ HX4.out) ?_
 have HT4 := Lib.hid (HT2.out.kept HX4.out)
 clear hK K a1 a2 a3
 refine Text.done ?_
 go_wp2_with (first
  | ((with_reducible show OpN); refine wpList_storev _ rfl 45 (.tmp 4) (.tmp 18) rfl 4 (by kernel_rfl) w1.heap.size 0 _ tokZ tokZ rfl rfl HT4.out rfl tokZ_one (by decide) ?_; intro w5 a1 a2 a3; have HT5 := Lib.hid a1; have HB5 : Hid (Below w.heap.size w w5) := Lib.hid (((Kp.of_below (S := fun _ => False) (below_thenB HB2.out HB2.out.size HX4.out)).after a2 (fun i hi e => by have := HB1.out.size; omega)).below (Nat.le_refl _) (fun _ h => h.elim)); clear a1 a2 a3))
 (try simp only [Exit.inBlock, Exit.then])
 refine bodyPost_ret (results_at2 w5 Tryz.results14 (n := 4) (by kernel_rfl) (g := w1.heap.size) (o := 0) rfl (BL.all HT5.out) rfl) rfl ⟨rfl, HB5.out⟩

set_option maxRecDepth 100000 in
set_option maxHeartbeats 1000000 in
theorem puse_one (w : World) (gp gm : Nat) (L : List (Value × Value)) (s : List UInt8) (i : Int) (tv uv : Value) (x : Sc) (tk : List Sc) (us : List (List UInt8)) (h : PX w gp gm L s i tv uv (x :: tk) us) (hs : s.length ≤ 9223372036854775807) (hi : (Lit.int .i64 i).wf = true) (hu : us.length < 100000) :
  Calls Tryz.prog 14 #[.pointer (some ⟨gp, 0, none⟩), pidV s i] w fun e w' => e = .returned (.tuple #[.agg (tokC s i x).toArray, .int .i64 0]) ∧
   ∃ tv' uv' L', Stored L (pidV s i) (stV tv' uv') L' ∧ PX w' gp gm L' s i tv' uv' tk (us ++ [x.1]) ∧ Kp (PB gm tv uv) w w' ∧ ∀ b, PB gm tv' uv' b → PB gm tv uv b ∨ w.heap.size ≤ b := by
 obtain ⟨g, o, c, rfl, hnc, hat⟩ := h.st.t.at_ (by simp)
 obtain ⟨Au, cu, rfl, _⟩ := h.st.u.form
 have hsec : At w g o (scC x) := At.left (xs := tk.flatMap scC) (by rw [List.flatMap_cons] at hat; exact hat)
 have HP := Lib.hid h
 have HA := Lib.hid hsec
 have hm := h.m
 have hL := h.f
 have HM := Lib.hid hm
 have HL := Lib.hid hL
 have HKY := Lib.hid (keyPid s i hs hi)
 have HU := Lib.hid hu
 have hgl : g < w.heap.size := h.st.t.lt rfl
 obtain ⟨nn, hnn⟩ : ∃ nn, nn = (x :: tk).length := ⟨_, rfl⟩
 have HN := Lib.hid hnn
 rw [← hnn] at HP HL ⊢
 have hpos : 0 < nn := by rw [hnn]; simp
 have hz : ((nn : Int) == 0) = false := by
  simp only [beq_eq_false_iff_ne, ne_eq]; omega
 obtain ⟨mu, hmu⟩ : ∃ mu, mu = us.length := ⟨_, rfl⟩
 have HMU := Lib.hid hmu
 rw [← hmu] at HP HL ⊢
 clear h hm hL hs hi hnn hmu hat hsec hu
 go_enter Tryz.func14, Tryz.ntmps14
 go_wp2_with (first
  | ((with_reducible show OpW 3); refine wpList_box _ rfl 39 (.tmp 1) rfl [.string (strB s), .int .i64 i] rfl ?_; intro w1 a1 a2 a3; have HQ := Lib.hid a1; have HB1 := Lib.hid a2; clear a1 a2 a3)
  | ((with_reducible show OpW 4); refine wpList_alloc _ rfl 45 rfl tokZ tokZero ?_; intro w2 a1 a2 a3; have HT2 := Lib.hid a1; have HB2 := Lib.hid (below_then HB1.out (a2.mono (Nat.le_refl _))); have HQ2 := Lib.hid (HQ.out.kept a2); have HZ2 := Lib.hid a3; clear a1 a2 a3))
 have HP2 := Lib.hid (HP.out.kept HB2.out)
 have HM2 := Lib.hid (HM.out.kept HB2.out)
 have HO : Hid (∀ v ∈ [Value.slice (some ⟨g, o, none⟩) nn c, Value.slice Au mu cu], v.oneCell' = true) := Lib.hid (by
  intro v hv
  simp only [List.mem_cons, List.not_mem_nil, or_false] at hv
  rcases hv with rfl | rfl <;> rfl)
 have HC2 : Hid (∀ w', Below w2.heap.size w2 w' → w'.cell? ⟨gp, 0, none⟩ = some (.map (some gm)) ∧ Below w2.heap.size w2 w') := Lib.hid (fun w' hb => ⟨(HP2.out.kept hb).p.get (j := 0) rfl, hb⟩)
 refine Text.wp_region_text (fun w' => w'.cell? ⟨gp, 0, none⟩ = some (.map (some gm)) ∧ Below w2.heap.size w2 w') [(0, 4), (1, 4), (2, 4), (3, 0), (4, 0), (5, 0), (6, 2), (7, 2)] (by kernel_rfl) (by kernel_rfl) (fun _ _ _ _ _ h => h) (HC2.out _ (Below.refl _ _).drew) ?_
 iterate 3 (refine Text.purek rfl rfl (fun K hK => ⟨_, fun w' => by go_simp <;> rfl, ?_⟩); go_simp; refine hK _ ?_; clear hK K)
 (refine Text.heldk rfl rfl (fun K hK => ⟨_, fun w' hw' => by go_simp <;> rfl, ?_⟩); go_simp; refine hK _ ?_; clear hK K)
 refine Text.heldk rfl rfl (fun K hK => ?_)
 refine ⟨_, fun w' hw' => exec_loadv 39 (.tmp 3) rfl 2 (by kernel_rfl) w.heap.size 0 [.string (strB s), .int .i64 i] rfl (BL.all (HQ2.out.kept hw'.2)) rfl, ?_⟩
 go_simp
 refine hK _ ?_
 clear hK K
 refine Text.heldk rfl rfl (fun K hK => ?_)
 refine ⟨_, fun w' hw' => exec_look (.tmp 11) (.tmp 12) 92 39 80 rfl pidKeyed stMap (stV nilV nilV) stZero gm L rfl (HM2.out.kept hw'.2) (pidV s i) rfl HKY.out (stV (.slice (some ⟨g, o, none⟩) nn c) (.slice Au mu cu)) (fun v f hf => HL.out v f hf), ?_⟩
 go_simp
 refine hK _ ?_
 clear hK K
 refine Text.eff rfl rfl (fun K hK => ?_)
 refine wp_alloc 80 rfl [nilV, nilV] stZero' ?_
 intro w3 a1 a2 a3
 have HS3 := Lib.hid a1
 have HX3 : Hid (Below w2.heap.size w2 w3) := Lib.hid (below_then (Below.refl _ _).drew (a2.mono (Nat.le_refl _)))
 have HZ3 : Hid (w3.heap.size = w2.heap.size + 1) := Lib.hid a3
 refine hK _ _ (HC2.out _ HX3.out) ?_
 clear hK K a1 a2 a3
 refine Text.eff rfl rfl (fun K hK => ?_)
 refine wp_storev 80 (.tmp 6) (.tmp 13) rfl 2 (by kernel_rfl) w2.heap.size 0 _ [nilV, nilV] [.slice (some ⟨g, o, none⟩) nn c, .slice Au mu cu] rfl rfl HS3.out rfl HO.out (by decide) ?_
 intro w4 a1 a2 a3
 have q0 := a1.get (j := 0) rfl
 have q1 := a1.get (j := 1) rfl
 have HS4 : Hid (BL w4 w2.heap.size 80 [.slice (some ⟨g, o, none⟩) nn c, .slice Au mu cu]) := Lib.hid a1
 have HX4 : Hid (Below w2.heap.size w2 w4) := Lib.hid (((Kp.of_below (S := fun _ => False) HX3.out).after a2 (fun i hi e => by omega)).below (Nat.le_refl _) (fun _ h => h.elim))
 refine hK _ _ (HC2.out _ HX4.out) ?_
 have HT4 := Lib.hid (HT2.out.kept HX4.out)
 have HB4 := Lib.hid (below_thenB HB2.out HB2.out.size HX4.out)
 have HA4 := Lib.hid (HA.out.kept HB4.out)
 have HZ4 : Hid (w4.heap.size = w2.heap.size + 1) := Lib.hid (by rw [a3]; exact HZ3.out)
 clear hK K a1 a2 a3
 refine Text.done ?_
 go_wp2_with (first
  | ((with_reducible show OpW 22); refine wpList_loadv _ rfl 109 (.tmp 21) rfl 2 (by kernel_rfl) g o (scC x) rfl HA4.out rfl ?_)
  | ((with_reducible show OpW 7); refine wpList_alloc _ rfl 109 rfl scZ scZero ?_; intro w5 a1 a2 a3; have HF5 := Lib.hid a1; have HX5 := Lib.hid a2; have HZ5 := Lib.hid a3; clear a1 a2 a3)
  | ((with_reducible show OpN); refine wpList_storev _ rfl 109 (.tmp 7) (.tmp 22) rfl 2 (by kernel_rfl) w4.heap.size 0 _ scZ (scC x) rfl rfl HF5.out rfl (scC_one x) (by decide) ?_; intro w6 a1 a2 a3; have HF6 : Hid (BL w6 w4.heap.size 109 (scC x)) := Lib.hid a1; have HK6 := Lib.hid a2; have HZ6 : Hid (w6.heap.size = w4.heap.size + 1) := Lib.hid (by rw [a3]; exact HZ5.out); have HS6 : Hid (BL w6 w2.heap.size 80 [.slice (some ⟨g, o, none⟩) nn c, .slice Au mu cu]) := Lib.hid ((HS4.out.kept HX5.out).kp a2 (fun e => by have := HZ4.out; omega)); have r0 := HS6.out.get (j := 0) rfl; have HX6 : Hid (Below w4.heap.size w4 w6) := Lib.hid (((Kp.of_below (S := fun _ => False) HX5.out).after a2 (fun i hi e => by omega)).below (Nat.le_refl _) (fun _ h => h.elim)); have HB6 := Lib.hid (below_thenB HB4.out HB4.out.size HX6.out); have HRT6 : Hid (RW w6 109 2 (.slice (some ⟨g, o, none⟩) nn c) nn ((x :: tk).flatMap scC)) := Lib.hid (by have := (HP.out.kept HB6.out).st.t; rw [← HN.out] at this; exact this); have HRU6 : Hid (RW w6 9 1 (.slice Au mu cu) mu (us.map usC)) := Lib.hid (by have := (HP.out.kept HB6.out).st.u; rw [← HMU.out] at this; exact this); clear a1 a2 a3 q0 q1)
  | ((with_reducible show OpW 25); refine wpList_cutRW _ rfl (.tmp 24) _ 78 109 2 rfl Tryz.underlying78 (agg_size _ (by kernel_rfl)) _ nn _ rfl HRT6.out rfl hpos ?_; intro tv' a1 a2; have HV := Lib.hid a1; have HVo := Lib.hid a2; clear a1 a2)
  | ((with_reducible show OpN); refine wpList_store1 _ rfl 78 (.tmp 26) (.tmp 25) rfl (one_size _ (by kernel_rfl)) w2.heap.size 0 80 _ tv' rfl rfl HS6.out (by obtain ⟨A', c', e', _⟩ := HV.out.form; rw [e']; rfl) (by obtain ⟨A', c', e', _⟩ := HV.out.form; rw [e']; rfl) (by simp) ?_; intro w7 a1 a2 a3; have HS7 : Hid (BL w7 w2.heap.size 80 [tv', .slice Au mu cu]) := Lib.hid a1; have HK7 := Lib.hid a2; have HZ7 := Lib.hid a3; have r1 := HS7.out.get (j := 1) rfl; have HF7 := Lib.hid (HF6.out.kp a2 (fun e => by have := HZ4.out; omega)); have r2 := HF7.out.get (j := 0) rfl; have HRU7 := Lib.hid (HRU6.out.kp a2 (fun b hb e => by have h1 := HP.out.lt (.inr (.inr hb)); have h2 := HB2.out.size; omega)); clear a1 a2 a3 r0)
  | ((with_reducible show OpW 31); refine wpList_bslice _ rfl 52 9 1 _ rfl #[(0, .string (strB x.1))] (by rw [List.map_toArray]; rfl) [.string (strB x.1)] (bslS x.1 _) ?_; intro w8 a1 a2 a3; have HG8 := Lib.hid a1; have HX8 := Lib.hid a2; have HZ8 := Lib.hid a3; have HRU8 := Lib.hid (HRU7.out.kept a2); have HS8 := Lib.hid (HS7.out.kept a2); clear a1 a2 a3)
  | ((with_reducible show OpW 32); obtain ⟨iS, i1, i2, i3, i4⟩ := info_some infoStr; refine wpList_appRW _ rfl (.tmp 28) (.tmp 31) 52 9 1 iS _ rfl Tryz.underlying52 i1 i2 i3 rfl (.slice Au mu cu) mu _ rfl HRU8.out w7.heap.size [.string (strB x.1)] rfl HG8.out rfl (by intro v hv; simp only [List.mem_singleton] at hv; subst hv; rfl) (by rw [i4, HMU.out]; have := HU.out; omega) (by rw [HMU.out]; have := HU.out; omega) ?_; intro uv' w9 a1; have HR9 := Lib.hid a1; have HS9 := Lib.hid (HS8.out.kp a1.kp (fun hb => by have h1 := HP.out.lt (.inr (.inr hb)); have h2 := HB2.out.size; omega)); clear a1 i1 i2 i3 i4)
  | ((with_reducible show OpN); refine wpList_store1 _ rfl 52 (.tmp 33) (.tmp 32) rfl (one_size _ (by kernel_rfl)) w2.heap.size 1 80 _ uv' rfl rfl HS9.out (by obtain ⟨A', c', e', _⟩ := HR9.out.row.form; rw [e']; rfl) (by obtain ⟨A', c', e', _⟩ := HR9.out.row.form; rw [e']; rfl) (by simp) ?_; intro w10 a1 a2 a3; have HS10 : Hid (BL w10 w2.heap.size 80 [tv', uv']) := Lib.hid a1; have HK10 := Lib.hid a2; have HZ10 := Lib.hid a3; clear a1 a2 a3 r1 r2))
 have HLU : Hid (∀ b, (Value.slice Au mu cu).ownBlock = some b → b < w.heap.size) := Lib.hid (fun b hb => HP.out.lt (.inr (.inr hb)))
 have HSZ : Hid (w.heap.size < w1.heap.size ∧ w1.heap.size < w2.heap.size ∧ w2.heap.size < w4.heap.size) := Lib.hid ⟨HQ.out.lt, by have := HZ2.out; omega, by have := HZ4.out; omega⟩
 have HB8 : Hid (Below w.heap.size w w8) := Lib.hid (below_thenB (((Kp.of_below (S := fun _ => False) HB6.out).after HK7.out (fun i hi e => by have := HSZ.out; omega)).below (Nat.le_refl _) (fun _ h => h.elim)) (by have := HB6.out.size; have := HZ7.out; omega) HX8.out)
 have HK10W : Hid (Kp (fun b => (Value.slice Au mu cu).ownBlock = some b) w w10) := Lib.hid (((Kp.of_below HB8.out).after HR9.out.kp (fun i hi e => e)).after HK10.out (fun i hi e => by have := HSZ.out; omega))
 have HK10V : Hid (Kp (fun b => b = w2.heap.size ∨ (Value.slice Au mu cu).ownBlock = some b) w6 w10) := Lib.hid (((((Kp.refl (fun b => b = w2.heap.size ∨ (Value.slice Au mu cu).ownBlock = some b) w6).after HK7.out (fun i hi e => .inl e)).after (Kp.of_below (S := fun _ => False) HX8.out) (fun i hi e => e.elim)).after HR9.out.kp (fun i hi e => .inr e)).after HK10.out (fun i hi e => .inl e))
 have HQ10 := Lib.hid (((HQ2.out.kept HX4.out).kept HX6.out).kp HK10V.out (fun e => by exact e.elim (fun e => by have := HSZ.out; omega) (fun e => by have := HLU.out _ e; omega)))
 have HT10 := Lib.hid ((HT4.out.kept HX6.out).kp HK10V.out (fun e => by exact e.elim (fun e => by have := HSZ.out; omega) (fun e => by have := HLU.out _ e; have := HSZ.out; omega)))
 have HF10 := Lib.hid (HF6.out.kp HK10V.out (fun e => by exact e.elim (fun e => by have := HSZ.out; omega) (fun e => by have := HLU.out _ e; have := HSZ.out; omega)))
 have HP10 := Lib.hid (HP.out.p.kp HK10W.out (fun e => HP.out.gp_not (.inr (.inr e))))
 have HM10 := Lib.hid (HM.out.kp HK10W.out (fun e => HP.out.gm_uv e))
 have HV10 := Lib.hid (HV.out.kp HK10V.out (fun b hb e => by rw [HVo.out] at hb; exact e.elim (fun e => by have := HP.out.lt (.inr (.inl hb)); have := HSZ.out; omega) (fun e => by exact HP.out.tv_uv hb e)))
 have HR10 := Lib.hid (HR9.out.row.kp HK10.out (fun b hb e => by exact (HR9.out.own b hb).elim (fun h1 => by have := HLU.out _ h1; have := HSZ.out; omega) (fun h1 => by have := HZ8.out; have := HZ7.out; have := HZ6.out; have := HSZ.out; omega)))
 have HGM : Hid (gm < w.heap.size) := Lib.hid HM.out.lt
 have HW10 : Hid (w4.heap.size + 1 < w10.heap.size) := Lib.hid (by have := HR9.out.kp.size; have := HZ8.out; have := HZ7.out; have := HZ6.out; have := HZ10.out; omega)
 clear HO HC2 hz
 have HC10 : Hid (∀ w', Below w10.heap.size w10 w' → w'.cell? ⟨gp, 0, none⟩ = some (.map (some gm)) ∧ Below w10.heap.size w10 w') := Lib.hid (fun w' hb => ⟨(HP10.out.kept hb).get (j := 0) rfl, hb⟩)
 refine Text.wp_region_text (fun w' => w'.cell? ⟨gp, 0, none⟩ = some (.map (some gm)) ∧ Below w10.heap.size w10 w') [(0, 4), (1, 4), (2, 4), (3, 0), (4, 0), (5, 0), (6, 3)] (by kernel_rfl) (by kernel_rfl) (fun _ _ _ _ _ h => h) (HC10.out _ (Below.refl _ _).drew) ?_
 iterate 3 (refine Text.purek rfl rfl (fun K hK => ⟨_, fun w' => by go_simp <;> rfl, ?_⟩); go_simp; refine hK _ ?_; clear hK K)
 (refine Text.heldk rfl rfl (fun K hK => ⟨_, fun w' hw' => by go_simp <;> rfl, ?_⟩); go_simp; refine hK _ ?_; clear hK K)
 refine Text.heldk rfl rfl (fun K hK => ?_)
 refine ⟨_, fun w' hw' => exec_loadv 39 (.tmp 3) rfl 2 (by kernel_rfl) w.heap.size 0 [.string (strB s), .int .i64 i] rfl (BL.all (HQ10.out.kept hw'.2)) rfl, ?_⟩
 go_simp
 refine hK _ ?_
 clear hK K
 refine Text.heldk rfl rfl (fun K hK => ?_)
 refine ⟨_, fun w' hw' => exec_loadv 80 (.tmp 6) rfl 2 (by kernel_rfl) w2.heap.size 0 [tv', uv'] rfl (BL.all (HS10.out.kept hw'.2)) rfl, ?_⟩
 go_simp
 refine hK _ ?_
 clear hK K
 refine Text.last rfl rfl (fun K hK => ?_)
 refine wp_upd (.tmp 37) (.tmp 38) (.tmp 39) 92 39 80 rfl pidKeyed stMap gm L rfl HM10.out.drew (pidV s i) (stV tv' uv') rfl rfl HKY.out ?_
 intro w11 L' h1 h2 h3 h4
 have HST := Lib.hid h1
 have HM11 := Lib.hid h2
 have HK11 : Hid (Kp (· = gm) w10 w11) := Lib.hid ((Kp.refl _ w10).drew.trans h3)
 have HQ11 := Lib.hid (HQ10.out.kp HK11.out (fun e => by have := HGM.out; omega))
 have HT11 := Lib.hid (HT10.out.kp HK11.out (fun e => by have := HGM.out; have := HSZ.out; omega))
 have HF11 := Lib.hid (HF10.out.kp HK11.out (fun e => by have := HGM.out; have := HSZ.out; omega))
 have r0 := HF11.out.get (j := 0) rfl
 have r1 := HF11.out.get (j := 1) rfl
 refine hK _ _ ?_
 clear hK K h1 h2 h3 h4
 refine Text.done ?_
 go_wp2_with (first
  | ((with_reducible show OpW 40); refine wpList_loadv _ rfl 39 (.tmp 3) rfl 2 (by kernel_rfl) w.heap.size 0 [.string (strB s), .int .i64 i] rfl (BL.all HQ11.out) rfl ?_)
  | ((with_reducible show OpN); refine wpList_storev _ rfl 45 (.tmp 4) (.tmp 45) rfl 4 (by kernel_rfl) w1.heap.size 0 _ tokZ (tokC s i x) rfl rfl HT11.out rfl (tokC_one s i x) (by decide) ?_; intro w12 a1 a2 a3; have HT12 := Lib.hid a1; have HK12 := Lib.hid a2; clear a1 a2 a3))
 have hgp : gp < w.heap.size := HP.out.p.lt
 have hgg : gp ≠ gm := fun e => HP.out.gp_not (.inl e)
 have hw8 : w4.heap.size < w8.heap.size := by have := HZ8.out; have := HZ7.out; have := HZ6.out; omega
 have htb : ∀ b, tv'.ownBlock = some b → (Value.slice (some ⟨g, o, none⟩) nn c).ownBlock = some b := fun b hb => HVo.out.symm.trans hb
 have hul : ∀ b, uv'.ownBlock = some b → ¬ b = gm ∧ ¬ b = w1.heap.size := fun b hb => (HR9.out.own b hb).elim
  (fun h1 => ⟨fun e => HP.out.gm_uv (by subst e; exact h1), fun e => by have := HLU.out _ h1; have := HSZ.out; omega⟩)
  (fun h1 => ⟨fun e => by have := HGM.out; have := HSZ.out; omega, fun e => by have := HSZ.out; omega⟩)
 have htl : ∀ b, tv'.ownBlock = some b → ¬ b = gm ∧ ¬ b = w1.heap.size := fun b hb =>
  ⟨fun e => HP.out.gm_tv (by subst e; exact htb _ hb), fun e => by have := HP.out.lt (.inr (.inl (htb b hb))); have := HSZ.out; omega⟩
 have hbt := HP.out.st.bt
 rw [List.length_cons] at hbt
 have hnn := HN.out
 rw [List.length_cons] at hnn
 have e1 : nn - 1 = tk.length := by omega
 have RT := (HV10.out.kp HK11.out (fun b hb => (htl b hb).1)).kp HK12.out (fun b hb => (htl b hb).2)
 rw [e1] at RT
 have RU := (HR10.out.kp HK11.out (fun b hb => (hul b hb).1)).kp HK12.out (fun b hb => (hul b hb).2)
 have e2 : mu + 1 = (us ++ [x.1]).length := by rw [List.length_append, HMU.out]; rfl
 have e3 : us.map usC ++ [.string (strB x.1)] = (us ++ [x.1]).map usC := by rw [List.map_append]; rfl
 rw [e2, e3] at RU
 (try simp only [Exit.inBlock, Exit.then])
 refine bodyPost_ret (results_at2 w12 Tryz.results14 (n := 4) (by kernel_rfl) (g := w1.heap.size) (o := 0) rfl (ms := tokC s i x) (BL.all HT12.out) rfl) rfl ⟨rfl, tv', uv', L', HST.out, ?_, ?_, ?_⟩
 ·
  exact ⟨(HP10.out.kp HK11.out hgg).kp HK12.out (by have := HSZ.out; omega), ⟨RT, RU, by omega, by rw [← e2, HMU.out]; exact HU.out⟩, HM11.out.kp HK12.out (by have := HGM.out; have := HSZ.out; omega), fnd_stored HM.out HST.out⟩
 ·
  exact ((HK10W.out.mono (fun _ _ h => .inr (.inr h))).after HK11.out (fun _ _ e => .inl e)).after HK12.out (fun i hi e => by have := HSZ.out; omega)
 ·
  rintro b (rfl | hb | hb)
  ·
   exact .inl (.inl rfl)
  ·
   exact .inl (.inr (.inl (htb b hb)))
  ·
   exact (HR9.out.own b hb).elim (fun h1 => .inl (.inr (.inr h1))) (fun h1 => .inr (by have := HSZ.out; omega))
end Go.Proofs.YtheijpjfpaghfaaGreatDoor
/- Left, Use, Drop of a purse of many pieces. -/
namespace Go.Proofs.YtheijpjfpaghfaaGreatDoor
open Go Go.RowKit Go.ChangeMaps Go.MapKept Gf Sha

section
variable {w w' : World} {gp gm : Nat} {L : List Se}
theorem PG.px_in (h : PG w gp gm L) {x : Se} (hx : x ∈ L) : PX w gp gm (L.map seKV) x.e.s x.e.i x.tv x.uv x.e.tk x.e.us :=
 ⟨h.p, (h.ok x hx).st, h.m, fun _ _ hf => h.found hx hf⟩
theorem PG.px_out (h : PG w gp gm L) {s : List UInt8} {i : Int} (hn : ∀ x ∈ L, idE x.e ≠ (s, i)) : PX w gp gm (L.map seKV) s i nilV nilV [] [] :=
 ⟨h.p, ⟨RW.nil _ _ _, RW.nil _ _ _, by decide, by decide⟩, h.m, fun v f hf => by
  cases hf with
  | no _ => rfl
  | yes j v h9 =>
   rw [List.getElem?_map] at h9
   cases hy : L[j]? with
   | none => rw [hy] at h9; cases h9
   | some y =>
    rw [hy] at h9
    simp only [Option.map_some, Option.some.injEq, seKV, Prod.mk.injEq] at h9
    have hid := pidV_inj h9.1
    obtain ⟨hi, hyi⟩ := List.getElem?_eq_some_iff.1 hy
    exact absurd (Prod.ext hid.1 hid.2) (hn y (by rw [← hyi]; exact List.getElem_mem hi))⟩
/-- An entry is turned. -/
theorem PG.put (h : PG w gp gm L) {j : Nat} {x x' : Se} (hj : L[j]? = some x) (hid : idE x'.e = idE x.e) {L' : List (Value × Value)} (hs : Stored (L.map seKV) (pidV x'.e.s x'.e.i) (stV x'.tv x'.uv) L') (hp : BL w' gp 94 [.map (some gm)]) (hm : MB Tryz.prog 39 w' gm L') (hx : SOk w' x')
  (hk : Kp (PB gm x.tv x.uv) w w') (hown : ∀ b, x'.has b → x.has b ∨ w.heap.size ≤ b) : PG w' gp gm (L.set j x') := by
 obtain ⟨hjl, hxj⟩ := List.getElem?_eq_some_iff.1 hj
 have hxm : x ∈ L := by rw [← hxj]; exact List.getElem_mem hjl
 have hnd := List.pairwise_iff_getElem.1 (show (L.map fun x => ((x.e.s, x.e.i) : Pid)).Pairwise (· ≠ ·) from h.nodup)
 have hap := List.pairwise_iff_getElem.1 h.ap
 have hids : x'.e.s = x.e.s ∧ x'.e.i = x.e.i := ⟨congrArg Prod.fst hid, congrArg Prod.snd hid⟩
 have hoth : ∀ (k : Nat) (hk : k < L.length), k ≠ j → ∀ b, L[k].has b → ¬ x.has b := fun k hk hne b h1 h2 => by
  rcases Nat.lt_or_gt_of_ne hne with h3 | h3
  ·
   exact hap k j hk hjl h3 b h1 (by rw [hxj]; exact h2)
  ·
   exact hap j k hjl hk h3 b (by rw [hxj]; exact h2) h1
 have e : L' = (L.set j x').map seKV := by
  rw [List.map_set]
  cases hs with
  | new h9 => exact absurd (by show pidV x.e.s x.e.i = _; rw [hids.1, hids.2]) (h9 (seKV x) (List.mem_map.2 ⟨x, hxm, rfl⟩))
  | old i u h9 =>
   have hij : i = j := by
    rw [List.getElem?_map] at h9
    cases hy : L[i]? with
    | none => rw [hy] at h9; cases h9
    | some y =>
     rw [hy] at h9
     simp only [Option.map_some, Option.some.injEq, seKV, Prod.mk.injEq] at h9
     have hy2 := pidV_inj h9.1
     obtain ⟨hi, hyi⟩ := List.getElem?_eq_some_iff.1 hy
     rcases Nat.lt_trichotomy i j with h1 | h1 | h1
     ·
      exact absurd (by rw [List.getElem_map, List.getElem_map, hyi, hxj, hy2.1, hy2.2, hids.1, hids.2]) (hnd i j (by simpa using hi) (by simpa using hjl) h1)
     ·
      exact h1
     ·
      exact absurd (by rw [List.getElem_map, List.getElem_map, hyi, hxj, hy2.1, hy2.2, hids.1, hids.2]) (hnd j i (by simpa using hjl) (by simpa using hi) h1)
   subst hij
   rfl
 have hmem : ∀ y ∈ L.set j x', y = x' ∨ ∃ (k : Nat) (hk : k < L.length), k ≠ j ∧ y = L[k] := fun y hy => by
  obtain ⟨k, hk, rfl⟩ := List.getElem_of_mem hy
  rw [List.length_set] at hk
  rw [List.getElem_set]
  split
  ·
   exact .inl rfl
  ·
   rename_i hne
   exact .inr ⟨k, hk, fun e => hne e.symm, rfl⟩
 have hnew : ∀ (k : Nat) (hk : k < L.length), k ≠ j → ∀ b, L[k].has b → ¬ x'.has b := fun k hk hne b h1 h2 => (hown b h2).elim (hoth k hk hne b h1) (fun h3 => by
  have := (h.ok L[k] (List.getElem_mem hk)).lt h1
  omega)
 refine ⟨hp, by rw [← e]; exact hm, fun y hy => ?_, ?_, fun y hy => ?_, h.ne⟩
 ·
  rcases hmem y hy with rfl | ⟨k, hk9, hne, rfl⟩
  ·
   exact hx
  ·
   refine (h.ok L[k] (List.getElem_mem hk9)).kp hk (fun b hb hb2 => ?_)
   rcases hb2 with rfl | hb2
   ·
    exact (h.far L[k] (List.getElem_mem hk9)).2 hb
   ·
    exact hoth k hk9 hne b hb hb2
 ·
  rw [List.pairwise_iff_getElem]
  intro a c ha hc hac b h1 h2
  rw [List.length_set] at ha hc
  rw [List.getElem_set] at h1 h2
  split at h1
  ·
   rename_i e1
   split at h2
   ·
    omega
   ·
    rename_i e2
    exact hnew c hc (fun e => e2 e.symm) b h2 h1
  ·
   rename_i e1
   split at h2
   ·
    exact hnew a ha (fun e => e1 e.symm) b h1 h2
   ·
    exact hap a c ha hc hac b h1 h2
 ·
  rcases hmem y hy with rfl | ⟨k, hk9, hne, rfl⟩
  ·
   exact ⟨fun hb => (hown gp hb).elim (h.far x hxm).1 (fun h3 => by have := h.p.lt; omega), fun hb => (hown gm hb).elim (h.far x hxm).2 (fun h3 => by have := h.m.lt; omega)⟩
  ·
   exact h.far L[k] (List.getElem_mem hk9)
end
/-- Use, the piece's tokens known. -/
theorem puse_some (w : World) (gp gm : Nat) (L : List Se) (j : Nat) (s : List UInt8) (i : Int) (y : Sc) (tk : List Sc) (us : List (List UInt8)) (tv uv : Value) (h : PG w gp gm L) (hj : L[j]? = some ⟨⟨s, i, y :: tk, us⟩, tv, uv⟩) (hu : us.length < 100000) :
  Calls Tryz.prog 14 #[.pointer (some ⟨gp, 0, none⟩), pidV s i] w fun e w' => e = .returned (.tuple #[.agg (tokC s i y).toArray, .int .i64 0]) ∧
   ∃ x' : Se, x'.e = ⟨s, i, tk, us ++ [y.1]⟩ ∧ PG w' gp gm (L.set j x') ∧ Kp (PgB gp gm L) w w' ∧ ∀ b, PgB gp gm (L.set j x') b → PgB gp gm L b ∨ w.heap.size ≤ b := by
 obtain ⟨hjl, hxj⟩ := List.getElem?_eq_some_iff.1 hj
 have hxm : (⟨⟨s, i, y :: tk, us⟩, tv, uv⟩ : Se) ∈ L := by rw [← hxj]; exact List.getElem_mem hjl
 have hok := h.ok _ hxm
 refine (puse_one w gp gm (L.map seKV) s i tv uv y tk us (h.px_in hxm) hok.ws hok.wi hu).mono ?_
 rintro e w' ⟨rfl, tv', uv', L', hs, hpx, hk, hown⟩
 have hown' : ∀ b, (Se.mk ⟨s, i, tk, us ++ [y.1]⟩ tv' uv').has b → (Se.mk ⟨s, i, y :: tk, us⟩ tv uv).has b ∨ w.heap.size ≤ b := fun b hb => by
  rcases hown b (hb.elim (fun h => .inr (.inl h)) (fun h => .inr (.inr h))) with h1 | h1
  ·
   rcases h1 with rfl | h1 | h1
   ·
    exact hb.elim (fun h => absurd h hpx.gm_tv) (fun h => absurd h hpx.gm_uv)
   ·
    exact .inl (.inl h1)
   ·
    exact .inl (.inr h1)
  ·
   exact .inr h1
 have hpg := h.put (x' := ⟨⟨s, i, tk, us ++ [y.1]⟩, tv', uv'⟩) hj rfl hs hpx.p hpx.m ⟨hpx.st, fun b hb => hpx.tv_uv hb, hok.ws, hok.wi⟩ hk hown'
 refine ⟨rfl, ⟨⟨s, i, tk, us ++ [y.1]⟩, tv', uv'⟩, rfl, hpg, hk.mono (fun b _ hb => ?_), fun b hb => ?_⟩
 ·
  rcases hb with rfl | hb | hb
  ·
   exact .inr (.inl rfl)
  ·
   exact .inr (.inr ⟨_, hxm, .inl hb⟩)
  ·
   exact .inr (.inr ⟨_, hxm, .inr hb⟩)
 ·
  rcases hb with rfl | rfl | ⟨z, hz, hb⟩
  ·
   exact .inl (.inl rfl)
  ·
   exact .inl (.inr (.inl rfl))
  ·
   rcases List.mem_or_eq_of_mem_set hz with h1 | rfl
   ·
    exact .inl (.inr (.inr ⟨z, h1, hb⟩))
   ·
    exact (hown' b hb).imp (fun h1 => .inr (.inr ⟨_, hxm, h1⟩)) id
/-- Use, no token there. -/
theorem puse_none (w : World) (gp gm : Nat) (L : List Se) (s : List UInt8) (i : Int) (h : PG w gp gm L) (hs : s.length ≤ 9223372036854775807) (hi : (Lit.int .i64 i).wf = true) (hn : ∀ x ∈ L, idE x.e = (s, i) → x.e.tk = []) :
  Calls Tryz.prog 14 #[.pointer (some ⟨gp, 0, none⟩), pidV s i] w fun e w' => e = .returned (.tuple #[.agg tokZ.toArray, .int .i64 4]) ∧ Below w.heap.size w w' := by
 by_cases hx : ∃ x ∈ L, idE x.e = (s, i)
 ·
  obtain ⟨x, hxm, hid⟩ := hx
  have hpx := h.px_in hxm
  rw [hn x hxm hid] at hpx
  have e1 : x.e.s = s := congrArg Prod.fst hid
  have e2 : x.e.i = i := congrArg Prod.snd hid
  rw [e1, e2] at hpx
  exact puse_empty w gp gm _ s i _ _ _ hpx hs hi
 ·
  exact puse_empty w gp gm _ s i _ _ _ (h.px_out (fun x hx' e => hx ⟨x, hx', e⟩)) hs hi
/-- What a list of entries has at a piece. -/
def ofE (l : List En) (p : Pid) : En := (l.find? fun e => idE e == p).getD ⟨p.1, p.2, [], []⟩
theorem ofE_in {l : List En} (hn : (l.map idE).Nodup) {e : En} (he : e ∈ l) : ofE l (idE e) = e := by
 unfold ofE
 induction l with
 | nil => cases he
 | cons a l ih =>
  rw [List.map_cons, List.nodup_cons] at hn
  rw [List.find?_cons]
  by_cases h : idE a = idE e
  ·
   rcases List.mem_cons.1 he with rfl | he
   ·
    simp
   ·
    exact absurd (h ▸ List.mem_map.2 ⟨e, he, rfl⟩ : idE a ∈ l.map idE) hn.1
  ·
   rcases List.mem_cons.1 he with rfl | he
   ·
    exact absurd rfl h
   ·
    rw [show (idE a == idE e) = false by simpa using h]
    exact ih hn.2 he
theorem ofE_out {l : List En} {p : Pid} (h : ∀ e ∈ l, idE e ≠ p) : ofE l p = ⟨p.1, p.2, [], []⟩ := by
 unfold ofE
 rw [List.find?_eq_none.2 (fun e he => by simpa using h e he)]
 rfl
theorem ofE_perm {l m : List En} (hp : l.Perm m) (hn : (l.map idE).Nodup) (p : Pid) : ofE l p = ofE m p := by
 by_cases h : ∃ e ∈ l, idE e = p
 ·
  obtain ⟨e, he, rfl⟩ := h
  rw [ofE_in hn he, ofE_in ((hp.map idE).nodup_iff.1 hn) (hp.subset he)]
 ·
  rw [ofE_out (fun e he e9 => h ⟨e, he, e9⟩), ofE_out (fun e he e9 => h ⟨e, hp.symm.subset he, e9⟩)]
theorem PG.ids {w : World} {gp gm : Nat} {L : List Se} (h : PG w gp gm L) : ((L.map (·.e)).map idE).Nodup := by
 rw [List.map_map]
 exact h.nodup
theorem pleft_pg (w : World) (gp gm : Nat) (L : List Se) (s : List UInt8) (i : Int) (h : PG w gp gm L) (hs : s.length ≤ 9223372036854775807) (hi : (Lit.int .i64 i).wf = true) :
  Calls Tryz.prog 19 #[.pointer (some ⟨gp, 0, none⟩), pidV s i] w fun e w' => e = .returned (.int .i64 ((ofE (L.map (·.e)) (s, i)).tk.length : Int)) ∧ Below w.heap.size w w' := by
 by_cases hx : ∃ x ∈ L, idE x.e = (s, i)
 ·
  obtain ⟨x, hxm, hid⟩ := hx
  have hpx := h.px_in hxm
  have e1 : x.e.s = s := congrArg Prod.fst hid
  have e2 : x.e.i = i := congrArg Prod.snd hid
  rw [e1, e2] at hpx
  rw [← hid, ofE_in h.ids (List.mem_map.2 ⟨x, hxm, rfl⟩)]
  exact pleft_any w gp gm _ s i _ _ _ _ hpx hs hi
 ·
  rw [ofE_out (fun e he e9 => by obtain ⟨x, hx', rfl⟩ := List.mem_map.1 he; exact hx ⟨x, hx', e9⟩)]
  exact pleft_any w gp gm _ s i _ _ _ _ (h.px_out (fun x hx' e => hx ⟨x, hx', e⟩)) hs hi
section
variable {P : Program} {w : World} {o : Oper} {a : Act} {Q : Exit → Act → World → Prop} {K : Act → World → Prop}
theorem wp_del (m x : Operand) (t k e : TypeId) (hop : o.op = .call { callee := .builtin .delete, args := #[m, x], argTypes := #[t, k] }) (Kd : Go.Maps.Keyed P k) (ht : P.underlying t = some (.map k e))
  (b : Nat) (L : List (Value × Value)) (hm : a.eval m = .map (some b)) (hb : MB P k w b L) (xv : Value) (hx : a.eval x = xv) (hk : ∃ lx, keyOf P k xv = some lx)
  (h : ∀ w' L', Dropped L xv L' → MB P k w' b L' → Kp (· = b) w w' → w'.heap.size = w.heap.size → K (a.put o.dst (.tuple #[])) w') : o.wp P a w K Q := by
 obtain ⟨lx, hlx⟩ := hk
 obtain ⟨w', L', hs, hr, h1, h2, h3⟩ := hb.drop Kd ht hlx o.type
 unfold Oper.wp execOp
 simp [hop, resolve, invoke, builtin, hm, hx, hr, Result.andThen]
 exact h w' L' hs h1 h2 h3
end
theorem dropped_eq {L : List Se} (hn : (L.map fun x => ((x.e.s, x.e.i) : Pid)).Nodup) {s : List UInt8} {i : Int} {L' : List (Value × Value)} (h : Dropped (L.map seKV) (pidV s i) L') : L' = (L.filter fun x => idE x.e != (s, i)).map seKV := by
 cases h with
 | no h9 =>
  rw [List.filter_eq_self.2]
  intro x hx
  rw [bne_iff_ne]
  exact fun e => h9 (seKV x) (List.mem_map.2 ⟨x, hx, rfl⟩) (by show pidV x.e.s x.e.i = _; rw [show x.e.s = s from congrArg Prod.fst e, show x.e.i = i from congrArg Prod.snd e])
 | yes j u h9 =>
  rw [List.getElem?_map] at h9
  cases hy : L[j]? with
  | none => rw [hy] at h9; cases h9
  | some y =>
   rw [hy] at h9
   simp only [Option.map_some, Option.some.injEq, seKV, Prod.mk.injEq] at h9
   have hid := pidV_inj h9.1
   obtain ⟨hj, hyj⟩ := List.getElem?_eq_some_iff.1 hy
   have hid' : idE y.e = (s, i) := Prod.ext hid.1 hid.2
   have hsp : L = L.take j ++ y :: L.drop (j + 1) := by
    have h8 := (List.take_append_drop j L).symm
    rw [List.drop_eq_getElem_cons hj, hyj] at h8
    exact h8
   have hn2 := hn
   rw [hsp, List.map_append, List.map_cons, List.nodup_append] at hn2
   have h1 : ∀ x ∈ L.take j, (idE x.e != (s, i)) = true := fun x hx => by
    rw [bne_iff_ne]
    exact fun e => hn2.2.2 _ (List.mem_map.2 ⟨x, hx, rfl⟩) _ (List.mem_cons_self ..) (e.trans hid'.symm)
   have h2 : ∀ x ∈ L.drop (j + 1), (idE x.e != (s, i)) = true := fun x hx => by
    rw [bne_iff_ne]
    exact fun e => (List.nodup_cons.1 hn2.2.1).1 (List.mem_map.2 ⟨x, hx, e.trans hid'.symm⟩)
   have h3 : L.filter (fun x => idE x.e != (s, i)) = L.take j ++ L.drop (j + 1) := by
    conv => lhs; rw [hsp]
    rw [List.filter_append, List.filter_cons, List.filter_eq_self.2 h1, List.filter_eq_self.2 h2, if_neg (by rw [hid']; simp)]
   rw [h3, List.eraseIdx_eq_take_drop_succ, List.map_append, List.map_take, List.map_drop]
set_option maxRecDepth 100000 in
theorem pdrop_pg (w : World) (gp gm : Nat) (L : List Se) (s : List UInt8) (i : Int) (h : PG w gp gm L) (hs : s.length ≤ 9223372036854775807) (hi : (Lit.int .i64 i).wf = true) :
  Calls Tryz.prog 15 #[.pointer (some ⟨gp, 0, none⟩), pidV s i] w fun e w' => e = .returned (.tuple #[]) ∧ PG w' gp gm (L.filter fun x => idE x.e != (s, i)) ∧ Kp (· = gm) w w' := by
 have HP := Lib.hid h
 have HK := Lib.hid (keyPid s i hs hi)
 clear h hs hi
 go_enter Tryz.func15, Tryz.ntmps15
 go_wp2_with (first
  | ((with_reducible show OpW 3); refine wpList_box _ rfl 39 (.tmp 1) rfl [.string (strB s), .int .i64 i] rfl ?_; intro w1 a1 a2 a3; have HQ := Lib.hid a1; have HB1 := Lib.hid a2; clear a1 a2 a3))
 have HP1 := Lib.hid (HP.out.kept HB1.out)
 have HC1 : Hid (∀ w', Below w1.heap.size w1 w' → w'.cell? ⟨gp, 0, none⟩ = some (.map (some gm)) ∧ Below w1.heap.size w1 w') := Lib.hid (fun w' hb => ⟨(HP1.out.kept hb).p.get (j := 0) rfl, hb⟩)
 refine Text.wp_region_text (fun w' => w'.cell? ⟨gp, 0, none⟩ = some (.map (some gm)) ∧ Below w1.heap.size w1 w') [(0, 4), (1, 4), (2, 4), (3, 0), (4, 0), (5, 3)] (by kernel_rfl) (by kernel_rfl) (fun _ _ _ _ _ h => h) (HC1.out _ (Below.refl _ _).drew) ?_
 iterate 3 (refine Text.purek rfl rfl (fun K hK => ⟨_, fun w' => by go_simp <;> rfl, ?_⟩); go_simp; refine hK _ ?_; clear hK K)
 (refine Text.heldk rfl rfl (fun K hK => ⟨_, fun w' hw' => by go_simp <;> rfl, ?_⟩); go_simp; refine hK _ ?_; clear hK K)
 refine Text.heldk rfl rfl (fun K hK => ?_)
 refine ⟨_, fun w' hw' => exec_loadv 39 (.tmp 3) rfl 2 (by kernel_rfl) w.heap.size 0 [.string (strB s), .int .i64 i] rfl (BL.all (HQ.out.kept hw'.2)) rfl, ?_⟩
 go_simp
 refine hK _ ?_
 clear hK K
 refine Text.last rfl rfl (fun K hK => ?_)
 refine wp_del (.tmp 7) (.tmp 8) 92 39 80 rfl pidKeyed stMap gm _ rfl HP1.out.m.drew (pidV s i) rfl HK.out ?_
 intro w2 L' h1 h2 h3 h4
 have HPG : Hid (PG w2 gp gm (L.filter fun x => idE x.e != (s, i))) := Lib.hid (by
  rw [dropped_eq HP.out.nodup h1] at h2
  exact ⟨HP1.out.p.drew.kp h3 HP.out.ne, h2, fun x hx => (HP1.out.ok x (List.mem_filter.1 hx).1).kp ((Kp.refl _ _).drew.trans h3) (fun b hb e => (HP.out.far x (List.mem_filter.1 hx).1).2 (by rw [← e]; exact hb)), HP.out.ap.sublist List.filter_sublist, fun x hx => HP.out.far x (List.mem_filter.1 hx).1, HP.out.ne⟩)
 have HK2 : Hid (Kp (· = gm) w w2) := Lib.hid ((Kp.of_below HB1.out).trans ((Kp.refl _ _).drew.trans h3))
 refine hK _ _ ?_
 clear hK K h1 h2 h3 h4
 refine Text.done ?_
 go_wp2_with fail
 go_end0
 exact ⟨rfl, HPG.out, HK2.out⟩
end Go.Proofs.YtheijpjfpaghfaaGreatDoor
/- Low of a purse of many pieces. -/
namespace Go.Proofs.YtheijpjfpaghfaaGreatDoor
open Go Go.RowKit Go.ChangeMaps Go.MapKept Gf Sha

def lowE (l : List En) (lim : Int) : List Pid := (l.filter fun e => decide ((e.tk.length : Int) < lim)).map idE
set_option maxRecDepth 100000 in
set_option maxHeartbeats 2000000 in
theorem plow_pg (w : World) (gp gm : Nat) (L : List Se) (lim : Int) (h : PG w gp gm L) (hn : L.length ≤ 100000) :
  Calls Tryz.prog 17 #[.pointer (some ⟨gp, 0, none⟩), .int .i64 lim] w fun e w' => ∃ (v : Value) (LS : List Se), e = .returned v ∧ LS.Perm L ∧ (LS.map fun x => idE x.e).Pairwise (fun a b => ltI a b = true) ∧ RW w' 39 2 v (lowE (LS.map (·.e)) lim).length ((lowE (LS.map (·.e)) lim).flatMap pidC) ∧ Below w.heap.size w w' := by
 have HP := Lib.hid h
 have HN := Lib.hid hn
 clear h hn
 go_enter Tryz.func17, Tryz.ntmps17
 go_wp2_with (first
  | (go_at_call 45; refine (pknown_any w gp gm L HP.out HN.out).mono ?_; rintro e w2 ⟨kv, ids, rfl, r1, r2, r3, r4, r5⟩; obtain ⟨Av, cv, ev, _⟩ := r3.form; subst ev; obtain ⟨LS, p1, p2⟩ := perm_lift r1; obtain ⟨n, hn⟩ : ∃ n, n = ids.length := ⟨_, rfl⟩; rw [← hn] at r3 r4 ⊢; have HNL : Hid (LS.length = n) := Lib.hid (by rw [hn, ← p2, List.length_map]); have HPERM := Lib.hid p1; have HIDS := Lib.hid p2; have HI2 := Lib.hid r2; have HKV := Lib.hid r3; have HB2 := Lib.hid r5; clear r1 r2 r3 r4 r5 p1 p2 hn))
 have hn1 : n ≤ 100000 := by have := HPERM.out.length_eq; have := HNL.out; have := HN.out; omega
 obtain ⟨EL, hEL⟩ : ∃ l, l = LS.map (·.e) := ⟨_, rfl⟩
 have HEL := Lib.hid hEL
 clear hEL
 have HKO : Hid (∀ q, (Value.slice Av n cv).ownBlock = some q → q < w2.heap.size) := Lib.hid (fun q e => HKV.out.lt e)
 go_loopw [5, 11] (fun lv iv wr => ∃ (i m : Nat), i ≤ n ∧ m ≤ i ∧ iv = .int .i64 (i : Int) ∧ Hid ((lowE (EL.take i) lim).length = m) ∧ Hid (RW wr 39 2 lv m ((lowE (EL.take i) lim).flatMap pidC)) ∧ Hid (∀ q, lv.ownBlock = some q → w2.heap.size ≤ q) ∧ Hid (RW wr 39 2 (.slice Av n cv) n (ids.flatMap pidC)) ∧ Hid (Below w.heap.size w wr) ∧ Hid (w2.heap.size ≤ wr.heap.size)) (fun _ iv _ => n - (intOf iv).toNat)
 case atStart => exact ⟨0, 0, by omega, by omega, rfl, Lib.hid rfl, Lib.hid (RW.nil _ _ _), Lib.hid (fun q e => by cases e), HKV, HB2, Lib.hid (Nat.le_refl _)⟩
 case round =>
  obtain ⟨i, m, hi, hmi, rfl, hm, hrw, hown, hkv, hb, hz⟩ := hrel
  obtain ⟨wx, hwx⟩ : ∃ x, x = wr := ⟨_, rfl⟩
  rw [← hwx] at hrw hkv hb hz ⊢
  clear hwx
  obtain ⟨Al, cl, el, _⟩ := hrw.out.form
  subst el
  by_cases hik : i < n
  ·
   have hil : i < LS.length := by rw [HNL.out]; exact hik
   have hip : i < ids.length := by rw [← HIDS.out, List.length_map]; exact hil
   obtain ⟨g', o', c', e, _, hat⟩ := hkv.out.at_ (by omega)
   cases e
   obtain ⟨x, hx⟩ : ∃ x, x = LS[i] := ⟨_, rfl⟩
   have hxm : x ∈ L := HPERM.out.subset (by rw [hx]; exact List.getElem_mem hil)
   have HAT := Lib.hid (At.elem (f := pidC) pidC_len hat hip)
   have hid9 : ids[i] = idE x.e := by simp only [← HIDS.out, List.getElem_map, hx]
   rw [hid9] at HAT
   have HTK : Hid (EL.take (i + 1) = EL.take i ++ [x.e]) := Lib.hid (by
    have hie : i < EL.length := by rw [HEL.out, List.length_map]; exact hil
    have hE : EL[i] = x.e := by simp only [HEL.out, List.getElem_map, hx]
    rw [List.take_succ_eq_append_getElem hie, hE])
   have HSX := Lib.hid (HP.out.ok x hxm)
   have HOF0 : Hid (ofE (L.map (·.e)) (idE x.e) = x.e) := Lib.hid (ofE_in HP.out.ids (List.mem_map.2 ⟨x, hxm, rfl⟩))
   clear hat hx hid9 hxm
   obtain ⟨⟨s, z, tk, us⟩, tv, uv'⟩ := x
   obtain ⟨p, hp⟩ : ∃ p, p = tk.length := ⟨_, rfl⟩
   have HOF : Hid ((ofE (L.map (·.e)) (s, z)).tk.length = p) := Lib.hid (by have h9 := HOF0.out; rw [hp]; exact congrArg (fun e : En => e.tk.length) h9)
   have HPL := Lib.hid hp
   clear hp
   by_cases hlt : (p : Int) < lim
   ·
    have fl : decide ((p : Int) < lim) = true := decide_eq_true hlt
    have HLOW : Hid (lowE (EL.take (i + 1)) lim = lowE (EL.take i) lim ++ [(s, z)]) := Lib.hid (by
     rw [HTK.out]
     unfold lowE
     rw [List.filter_append, List.map_append, List.filter_cons, if_pos (by rw [← HPL.out]; exact fl)]
     rfl)
    clear hlt
    go_wp2_with (first
     | ((with_reducible show OpW 14); refine wpList_loadv _ rfl 39 (.tmp 13) rfl 2 (by kernel_rfl) g' (o' + i * 2) [.string (strB s), .int .i64 z] (by go_simp) HAT.out rfl ?_)
     | ((with_reducible show OpW 7); refine wpList_alloc _ rfl 39 rfl pidZ pidZero ?_; intro y1 a1 a2 a3; have HI1 := Lib.hid a1; have HX1 := Lib.hid a2; clear a1 a2 a3)
     | ((with_reducible show OpN); refine wpList_storev _ rfl 39 (.tmp 7) (.tmp 14) rfl 2 (by kernel_rfl) wx.heap.size 0 _ pidZ [.string (strB s), .int .i64 z] rfl rfl HI1.out rfl (one_val _ rfl) (by decide) ?_; intro y2 a1 a2 a3; have HI2' : Hid (BL y2 wx.heap.size 39 [.string (strB s), .int .i64 z]) := Lib.hid a1; have HX2 : Hid (Below wx.heap.size wx y2) := Lib.hid (low_own HX1.out a2 (fun i hi e => by omega)); clear a1 a2 a3)
     | ((with_reducible show OpW 16); refine wpList_loadv _ rfl 39 (.tmp 7) rfl 2 (by kernel_rfl) wx.heap.size 0 [.string (strB s), .int .i64 z] rfl (BL.all HI2'.out) rfl ?_)
     | (go_at_call 19; refine (pleft_pg y2 gp gm L s z (HP.out.kept (below_thenB hb.out hb.out.size HX2.out)) HSX.out.ws HSX.out.wi).mono ?_; rintro e y3 ⟨rfl, b1⟩; rw [HOF.out]; have HX3 := Lib.hid (below_thenB HX2.out HX2.out.size b1); have HI3 := Lib.hid (HI2'.out.kept b1); clear b1)
     | ((with_reducible show OpW 21); refine wpList_loadv _ rfl 39 (.tmp 7) rfl 2 (by kernel_rfl) wx.heap.size 0 [.string (strB s), .int .i64 z] rfl (BL.all HI3.out) rfl ?_)
     | ((with_reducible show OpW 22); refine wpList_bslice _ rfl 55 39 1 _ rfl #[(0, .agg #[.string (strB s), .int .i64 z])] (by rw [List.map_toArray]; rfl) [.string (strB s), .int .i64 z] (by exact bslPid s z _) ?_; intro y4 a1 a2 a3; have HN4 := Lib.hid a1; have HX4 := Lib.hid (below_thenB HX3.out HX3.out.size a2); have HRW4 := Lib.hid (hrw.out.kept HX4.out); have HKV4 := Lib.hid (hkv.out.kept HX4.out); clear a1 a2 a3)
     | ((with_reducible show OpW 23); obtain ⟨iS, i1, i2, i3, i4⟩ := info_some infoPidS; refine wpList_appRW _ rfl (.tmp 20) (.tmp 22) 55 39 2 iS _ rfl Tryz.underlying55 i1 i2 i3 rfl _ m _ rfl HRW4.out y3.heap.size _ rfl HN4.out rfl (one_val _ rfl) (by rw [i4]; omega) (by omega) ?_; intro v6 w6 ap; have HAP := Lib.hid ap; clear ap i1 i2 i3 i4))
    go_roundw
    case rel =>
     refine ⟨i + 1, m + 1, by omega, by omega, by go_num, Lib.hid (by rw [HLOW.out, List.length_append, hm.out]; rfl), Lib.hid ?_, Lib.hid (fun q e => (HAP.out.own q e).elim (hown.out q) (fun h => by have := hz.out; have := HX4.out.size; omega)), Lib.hid (HKV4.out.kp HAP.out.kp (fun b hb e => by have := hown.out b e; have := HKO.out b hb; omega)), Lib.hid (low_own (below_thenB hb.out hb.out.size HX4.out) HAP.out.kp (fun j hj e => by have := hown.out j e; have := HB2.out.size; omega)), Lib.hid (Nat.le_trans hz.out (Nat.le_trans HX4.out.size HAP.out.kp.size))⟩
     have h9 := HAP.out.row
     rw [HLOW.out, List.flatMap_append]
     exact h9
    case measure => simp [intOf]; omega
   ·
    have fl : decide ((p : Int) < lim) = false := decide_eq_false hlt
    have HLOW : Hid (lowE (EL.take (i + 1)) lim = lowE (EL.take i) lim) := Lib.hid (by
     rw [HTK.out]
     unfold lowE
     rw [List.filter_append, List.map_append, List.filter_cons, if_neg (by rw [← HPL.out, fl]; decide)]
     simp)
    clear hlt
    go_wp2_with (first
     | ((with_reducible show OpW 14); refine wpList_loadv _ rfl 39 (.tmp 13) rfl 2 (by kernel_rfl) g' (o' + i * 2) [.string (strB s), .int .i64 z] (by go_simp) HAT.out rfl ?_)
     | ((with_reducible show OpW 7); refine wpList_alloc _ rfl 39 rfl pidZ pidZero ?_; intro y1 a1 a2 a3; have HI1 := Lib.hid a1; have HX1 := Lib.hid a2; clear a1 a2 a3)
     | ((with_reducible show OpN); refine wpList_storev _ rfl 39 (.tmp 7) (.tmp 14) rfl 2 (by kernel_rfl) wx.heap.size 0 _ pidZ [.string (strB s), .int .i64 z] rfl rfl HI1.out rfl (one_val _ rfl) (by decide) ?_; intro y2 a1 a2 a3; have HI2' : Hid (BL y2 wx.heap.size 39 [.string (strB s), .int .i64 z]) := Lib.hid a1; have HX2 : Hid (Below wx.heap.size wx y2) := Lib.hid (low_own HX1.out a2 (fun i hi e => by omega)); clear a1 a2 a3)
     | ((with_reducible show OpW 16); refine wpList_loadv _ rfl 39 (.tmp 7) rfl 2 (by kernel_rfl) wx.heap.size 0 [.string (strB s), .int .i64 z] rfl (BL.all HI2'.out) rfl ?_)
     | (go_at_call 19; refine (pleft_pg y2 gp gm L s z (HP.out.kept (below_thenB hb.out hb.out.size HX2.out)) HSX.out.ws HSX.out.wi).mono ?_; rintro e y3 ⟨rfl, b1⟩; rw [HOF.out]; have HX3 := Lib.hid (below_thenB HX2.out HX2.out.size b1); have HI3 := Lib.hid (HI2'.out.kept b1); clear b1)
     | fail)
    go_roundw
    case rel => exact ⟨i + 1, m, by omega, by omega, by go_num, Lib.hid (by rw [HLOW.out]; exact hm.out), Lib.hid (by rw [HLOW.out]; exact hrw.out.kept HX3.out), hown, Lib.hid (hkv.out.kept HX3.out), Lib.hid (below_thenB hb.out hb.out.size HX3.out), Lib.hid (Nat.le_trans hz.out HX3.out.size)⟩
    case measure => simp [intOf]; omega
  ·
   obtain rfl : i = n := by omega
   have HFIN : Hid (EL.take i = EL) := Lib.hid (by
    have h8 : EL.length = i := by rw [HEL.out, List.length_map, HNL.out]
    rw [← h8, List.take_length])
   rw [HFIN.out] at hm hrw
   go_wp2_with fail
   go_ret
   refine ⟨_, LS, rfl, HPERM.out, ?_, by rw [← HEL.out, hm.out]; exact hrw.out, hb.out⟩
   have h9 : (LS.map fun x => idE x.e) = ids := HIDS.out
   rw [h9]
   refine sorted_lt ?_ HI2.out
   rw [← h9]
   exact (HPERM.out.map fun x : Se => idE x.e).nodup_iff.2 HP.out.nodup
end Go.Proofs.YtheijpjfpaghfaaGreatDoor
