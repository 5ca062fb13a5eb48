/- The law ChallengeOnce: its walk. -/
import Derived.Test.YtgjgofjabdjclaaDoorTk9m
namespace Go.Proofs.YtgjgofjabdjclaaDoor
open Go Go.RowKit Gf Sha

theorem sum1_any (g : Nat) (s : List UInt8) (w : World) (h : w.cell? ⟨g, 0, none⟩ = some (.string (strB s))) (hs : s.length = 32) :
    Calls Tryd.prog 27 #[.slice (some ⟨g, 0, none⟩) 1 1] w fun e w' => e = .returned (.bool true) ∧ w = w' := by
  have q : (((strB s).size : Int) != 32) = false := by rw [strB_size, hs]; rfl
  go_enter Tryd.func27, Tryd.ntmps27
  go_wp2_with fail
  go_loop [7] (fun iv => iv = .int .i64 0 ∨ iv = .int .i64 1) (fun iv => 1 - (intOf iv).toNat)
  case atStart => exact .inl rfl
  case round =>
    rcases hrel with rfl | rfl
    · go_wp2_with fail
      go_round
      case rel => exact .inr rfl
      case measure => simp [intOf]
    · go_wp2_with fail
      go_ret
      exact ⟨rfl, rfl⟩
def tkO (l : List UInt8) (k : Nat) : Sc := (nameL (gB l k) 1, nameL (UInt8.ofNat k) 2)
theorem u8_small (k : Nat) : IntKind.u8.wrap (k : Int) = bv (UInt8.ofNat k) := by
  unfold bv
  rw [UInt8.toNat_ofNat']
  show (k : Int) % 256 = _
  omega
theorem nm2' : Value.int .u8 2 = B 2 := rfl

theorem addB_ne {xs : List Sc} (h : addB [] xs = true) {q j : Nat} (hj : j < xs.length) (hq : q < j) : xs[q].1 ≠ xs[j].1 := fun e => by
  have h1 := addB_no (kn := []) hj (by
    rw [List.nil_append, List.contains_iff_mem, ← e]
    exact List.mem_map.2 ⟨xs[q], List.mem_take_iff_getElem.2 ⟨q, by omega, rfl⟩, rfl⟩)
  rw [h] at h1
  cases h1
theorem tok_cells' {w : World} {g : Nat} {t : TypeId} {s : List UInt8} {i : Int} {x : Sc} (h : BL w g t (tokC s i x)) :
    w.cell? ⟨g, 0, none⟩ = some (.string (strB s)) ∧ w.cell? ⟨g, 1, none⟩ = some (.int .i64 i) ∧ w.cell? ⟨g, 2, none⟩ = some (.string (strB x.1)) ∧ w.cell? ⟨g, 3, none⟩ = some (.string (strB x.2)) :=
  ⟨h.get (j := 0) rfl, h.get (j := 1) rfl, h.get (j := 2) rfl, h.get (j := 3) rfl⟩
theorem tk1_p {w : World} {g : Nat} {ty : TypeId} {s : List UInt8} {i : Int} {t : Sc} (h : BL w g ty (tokC s i t)) : TkP w (some ⟨g, 0, none⟩) 1 1 s i [t] :=
  ⟨rfl, Nat.le_refl _, by decide, fun k hk => match k, hk with
    | 0, _ => ⟨g, 0, rfl, BL.all h⟩⟩
theorem addB_snoc {kn : List (List UInt8)} {xs : List Sc} {t : Sc} (h : addB kn xs = true) (h1 : addB (kn ++ xs.map (·.1)) [t] = true) : addB kn (xs ++ [t]) = true := by
  induction xs generalizing kn with
  | nil => simpa using h1
  | cons x xs ih =>
    simp only [addB, Bool.and_eq_true] at h
    simp only [List.cons_append, addB, Bool.and_eq_true]
    refine ⟨h.1, ih h.2 ?_⟩
    rw [List.append_assoc]
    exact h1

set_option maxRecDepth 100000 in
set_option maxHeartbeats 8000000 in
theorem once_main (s : List UInt8) (ii : Nat) (A : Option Addr) (n c : Nat) (l : List UInt8) (w : World) (hT : Tabs w) (hd : BS w A n c l) (hs : s.length = 32) (hi : ii < 16) (hn : n ≤ 12) :
    Calls Tryd.prog 6 #[.agg #[.string (strB s), .int .i64 (ii : Int)], .slice A n c] w fun e w' => e = .returned (.bool true) ∧ Below w.heap.size w w' := by
  have HT := Lib.hid hT
  have HD := Lib.hid hd
  have HS := Lib.hid hs
  have HI := Lib.hid hi
  have t1 : (((strB s).size : Int) != 32) = false := by rw [strB_size, hs]; rfl
  obtain ⟨i, hii⟩ : ∃ i : Int, i = (ii : Int) := ⟨_, rfl⟩
  have d1 : decide (i < 0) = false := decide_eq_false (by omega)
  have d2 : decide ((16 : Int) ≤ i) = false := decide_eq_false (by omega)
  have d3 : decide ((12 : Int) < (n : Int)) = false := decide_eq_false (by omega)
  have HIW : Hid ((Lit.int .i64 i).wf = true) := Lib.hid (by rw [hii]; simp [Lit.wf, IntKind.min, IntKind.max, IntKind.signed, IntKind.bits]; omega)
  have HIB : Hid (idB s i = true) := Lib.hid (by simp only [idB, Bool.and_eq_true, decide_eq_true_eq]; omega)
  have hn0 : 0 ≤ (n : Int) := by omega
  rw [← hii]
  clear hT hd hs hi hii
  go_enter Tryd.func6, Tryd.ntmps6
  go_wp2_with (first
    | ((with_reducible show wpList _ _ _ (⟨some 2, _, _, _, _, _⟩ :: _) _ _); refine wpList_box _ rfl 33 (.tmp 0) rfl [.string (strB s), .int .i64 i] rfl ?_; intro wa a1 a2 a3; have HGa := Lib.hid a1; have HBa := Lib.hid a2; clear a1 a2 a3)
    | (go_at_call 12; refine (awake_any wa (HT.out.kept HBa.out)).mono ?_; rintro e wB ⟨rfl, b1⟩; have HBc := Lib.hid (below_then HBa.out b1); have HGc := Lib.hid (HGa.out.kept b1); have p0 := HGc.out.get (j := 0) rfl; have p1 := HGc.out.get (j := 1) rfl; clear b1)
    | (go_at_call 23; refine (purse_new wB s i).mono ?_; rintro e w2 ⟨gp, gm, rfl, h1, b1, h2, h3⟩; have HP2 := Lib.hid h1; have HB2 := Lib.hid b1; have HPM := Lib.hid (And.intro h2 h3); clear h1 b1 h2 h3 p0 p1))
  have HR0 : Hid (RW (w2.alloc (.cells #[] 37)) 37 4 (.slice (some ⟨w2.heap.size, 0, none⟩) 0 0) 0 (([] : List Sc).flatMap (tokC s i))) := Lib.hid (RW.of_blk (l := []) (BL.new w2 37 []) rfl (by decide))
  have HB0 : Hid (Below w2.heap.size w2 (w2.alloc (.cells #[] 37))) := Lib.hid ((Below.refl _ _).alloc (Nat.le_refl _) _)
  have HP0 := Lib.hid (HP2.out.kept HB0.out)
  have HX0 := Lib.hid (below_thenB HB2.out HB2.out.size HB0.out)
  have HPB0 : Hid (∀ b, PB gm nilV nilV b → wB.heap.size ≤ b) := Lib.hid (fun b hb => hb.elim (fun h => by subst h; exact HPM.out.2) (fun h => h.elim (fun h => by cases h) (fun h => by cases h)))
  have HF0 : Hid (∀ b, (Value.slice (some ⟨w2.heap.size, 0, none⟩) 0 0).ownBlock = some b → wB.heap.size ≤ b ∧ b ≠ gp ∧ ¬ PB gm nilV nilV b) := Lib.hid (fun b hb => by
    cases hb
    refine ⟨HB2.out.size, fun e => ?_, fun h => Nat.lt_irrefl _ (HP2.out.lt h)⟩
    exact Nat.lt_irrefl _ (by have h9 := HP2.out.p.lt; rw [← e] at h9; exact h9))
  clear HP2 HB2 HB0
  go_loopw [6, 46] (fun av iv wr => ∃ (k m : Nat) (v tv : Value) (xs : List Sc), k ≤ n ∧ m ≤ k ∧ iv = .int .i64 (k : Int) ∧ v = av ∧ Hid (xs.length = m) ∧ Hid (RW wr 37 4 v m (xs.flatMap (tokC s i))) ∧ Hid (PQ wr gp gm s i tv nilV xs []) ∧ Hid (∀ b, PB gm tv nilV b → wB.heap.size ≤ b) ∧ Hid (∀ b, v.ownBlock = some b → wB.heap.size ≤ b ∧ b ≠ gp ∧ ¬ PB gm tv nilV b) ∧ Hid (addB [] xs = true) ∧ Hid (∀ y ∈ xs, y.1.length = 32 ∧ y.2.length = 32) ∧ Hid (Below wB.heap.size wB wr)) (fun _ iv _ => n - (intOf iv).toNat)
  case atStart => exact ⟨0, 0, _, nilV, [], by omega, by omega, rfl, rfl, Lib.hid rfl, HR0, HP0, HPB0, HF0, Lib.hid rfl, Lib.hid (fun y hy => by cases hy), HX0⟩
  case round =>
    obtain ⟨k, m, v, tv, xs, hk, hmk, rfl, rfl, hxl, hrw, hpq, hpb, hfar, hadd, hlen, hx⟩ := hrel
    obtain ⟨wz, hwz⟩ : ∃ x, x = wr := ⟨_, rfl⟩
    rw [← hwz] at hrw hpq hx ⊢
    clear hwz
    by_cases hlt : k < n
    · have HGz := Lib.hid (HGc.out.kept hx.out)
      obtain ⟨x, hxx⟩ : ∃ x, x = gB l k := ⟨_, rfl⟩
      obtain ⟨y, hyy⟩ : ∃ y, y = UInt8.ofNat k := ⟨_, rfl⟩
      have hw8 : IntKind.u8.wrap (k : Int) = bv y := by rw [hyy]; exact u8_small k
      obtain ⟨ga, oa, e, cl⟩ := ((HD.out.kept HBc.out).kept hx.out).2.2.2 k hlt
      cases e
      rw [show (fun k => B (gB l k)) k = B x by rw [hxx]] at cl
      clear hxx hyy
      go_wp2_with fail
      clear cl
      go_cut [9] (fun s9 wx => ∃ gT : Nat, s9 = .pointer (some ⟨gT, 0, none⟩) ∧ Hid (BL wx gT 37 (tokC s i (nameL x 1, nameL y 2))) ∧ Hid (Below wz.heap.size wz wx) ∧ Hid (wz.heap.size ≤ gT))
      case first =>
        refine Text.wp_region_bt (fun w' => Below wz.heap.size wz w') (.still 1 4 (.still 3 4 (.still 4 4 (.still 0 0 (.br 2 (.br 5 (.still 6 4 (.eff 7 (.eff 8 .leaf))) 7 (.eff 5 (.still 6 4 (.eff 8 .leaf)))) 7 (.eff 2 (.eff 5 (.still 6 4 (.eff 8 .leaf))))))))) (by kernel_rfl) (by kernel_rfl) (fun _ _ _ _ _ h => h) ((Below.refl _ _).drew) ?_
        iterate 3 (refine Text.bpurek rfl rfl (fun K hK => ⟨_, fun w' => by go_simp <;> rfl, ?_⟩); go_simp; refine hK _ ?_; clear hK K)
        refine Text.bheldk rfl rfl (fun K hK => ⟨_, fun w' hw' => exec_loadv 33 (.tmp 2) rfl 2 (by kernel_rfl) w.heap.size 0 [.string (strB s), .int .i64 i] rfl (BL.all (HGz.out.kept hw')) rfl, ?_⟩)
        go_simp
        refine hK _ ?_
        clear hK K
        have HDz : Hid (Below wz.heap.size wz wz.drew) := Lib.hid (Below.refl _ _).drew
        refine Text.bfork ?_ ?_
        · refine Text.beff rfl rfl (fun K hK => ?_)
          go_simp
          refine (name_c x 1 _ _ rfl nm1 wz.drew).mono ?_
          rintro e wd ⟨rfl, b1⟩
          have HXwd : Hid (Below wz.heap.size wz wd) := Lib.hid (below_thenB (HDz.out) (by have := (HDz.out).size; exact this) b1)
          refine hK _ _ HXwd.out ?_
          clear hK K b1
          refine Text.bfork ?_ ?_
          · refine Text.beff rfl rfl (fun K hK => ?_)
            go_simp
            refine (name_c y 2 _ _ rfl nm2' wd).mono ?_
            rintro e we ⟨rfl, b1⟩
            have HXwe : Hid (Below wz.heap.size wz we) := Lib.hid (below_thenB (HXwd.out) (by have := (HXwd.out).size; exact this) b1)
            refine hK _ _ HXwe.out ?_
            clear hK K b1
            (refine Text.bpurek rfl rfl (fun K hK => ⟨_, fun w' => by go_simp <;> rfl, ?_⟩); go_simp; refine hK _ ?_; clear hK K)
            refine Text.beff rfl rfl (fun K hK => ?_)
            refine wp_alloc 37 rfl tokZ tokZero ?_
            intro wf a1 a2 a3
            have HXwf : Hid (Below wz.heap.size wz wf) := Lib.hid (below_thenB (HXwe.out) (by have := (HXwe.out).size; exact this) a2)
            have HVwf := Lib.hid a1
            refine hK _ _ HXwf.out ?_
            clear hK K a1 a2 a3
            refine Text.beff rfl rfl (fun K hK => ?_)
            refine wp_storev 37 (.tmp 9) (.tmp 57) rfl 4 (by kernel_rfl) we.heap.size 0 37 tokZ (tokC s i (nameL x 1, nameL y 2)) rfl rfl HVwf.out rfl (tokC_one _ _ _) (by decide) ?_
            intro wt a1 a2 a3
            have HXwt : Hid (Below wz.heap.size wz wt) := Lib.hid (((Kp.of_below (S := fun _ => False) (HXwf.out)).after a2 (fun j hj e => by have e2 : j = we.heap.size := e; have := HXwe.out.size; have e3 : (World.drew wz).heap.size = wz.heap.size := rfl; omega)).below (Nat.le_refl _) (fun _ h => h.elim))
            have HVt : Hid (BL wt we.heap.size 37 (tokC s i (nameL x 1, nameL y 2))) := Lib.hid a1
            refine hK _ _ HXwt.out ?_
            clear hK K a1 a2 a3
            refine Text.bdone ?_
            go_wp2_with fail
            go_meet
            exact ⟨we.heap.size, rfl, HVt, HXwt, Lib.hid (by have := HXwe.out.size; have e3 : (World.drew wz).heap.size = wz.heap.size := rfl; omega)⟩
          · refine Text.beff rfl rfl (fun K hK => ?_)
            refine wp_alloc 37 rfl tokZ tokZero ?_
            intro we a1 a2 a3
            have HXwe : Hid (Below wz.heap.size wz we) := Lib.hid (below_thenB (HXwd.out) (by have := (HXwd.out).size; exact this) a2)
            have HVwe := Lib.hid a1
            refine hK _ _ HXwe.out ?_
            clear hK K a1 a2 a3
            have HLe : Hid (wz.heap.size ≤ wd.heap.size) := Lib.hid (by have := HXwd.out.size; exact this)
            refine Text.beff rfl rfl (fun K hK => ?_)
            go_simp
            refine (name_c y 2 _ _ rfl nm2' we).mono ?_
            rintro e wf ⟨rfl, b1⟩
            have HXwf : Hid (Below wz.heap.size wz wf) := Lib.hid (below_thenB HXwe.out HXwe.out.size b1)
            have HVwf := Lib.hid (HVwe.out.kept b1)
            refine hK _ _ HXwf.out ?_
            clear hK K b1
            (refine Text.bpurek rfl rfl (fun K hK => ⟨_, fun w' => by go_simp <;> rfl, ?_⟩); go_simp; refine hK _ ?_; clear hK K)
            refine Text.beff rfl rfl (fun K hK => ?_)
            refine wp_storev 37 (.tmp 9) (.tmp 57) rfl 4 (by kernel_rfl) wd.heap.size 0 37 tokZ (tokC s i (nameL x 1, nameL y 2)) rfl rfl HVwf.out rfl (tokC_one _ _ _) (by decide) ?_
            intro wt a1 a2 a3
            have HXwt : Hid (Below wz.heap.size wz wt) := Lib.hid (((Kp.of_below (S := fun _ => False) (HXwf.out)).after a2 (fun j hj e => by have e2 : j = wd.heap.size := e; have := HLe.out; have e3 : (World.drew wz).heap.size = wz.heap.size := rfl; omega)).below (Nat.le_refl _) (fun _ h => h.elim))
            have HVt : Hid (BL wt wd.heap.size 37 (tokC s i (nameL x 1, nameL y 2))) := Lib.hid a1
            refine hK _ _ HXwt.out ?_
            clear hK K a1 a2 a3
            refine Text.bdone ?_
            go_wp2_with fail
            go_meet
            exact ⟨wd.heap.size, rfl, HVt, HXwt, Lib.hid (by have := HLe.out; have e3 : (World.drew wz).heap.size = wz.heap.size := rfl; omega)⟩
        · refine Text.beff rfl rfl (fun K hK => ?_)
          refine wp_alloc 37 rfl tokZ tokZero ?_
          intro wd a1 a2 a3
          have HXwd : Hid (Below wz.heap.size wz wd) := Lib.hid (below_thenB (HDz.out) (by have := (HDz.out).size; exact this) a2)
          have HVwd := Lib.hid a1
          refine hK _ _ HXwd.out ?_
          clear hK K a1 a2 a3
          refine Text.beff rfl rfl (fun K hK => ?_)
          go_simp
          refine (name_c x 1 _ _ rfl nm1 wd).mono ?_
          rintro e we ⟨rfl, b1⟩
          have HXwe : Hid (Below wz.heap.size wz we) := Lib.hid (below_thenB HXwd.out HXwd.out.size b1)
          have HVwe := Lib.hid (HVwd.out.kept b1)
          refine hK _ _ HXwe.out ?_
          clear hK K b1
          refine Text.beff rfl rfl (fun K hK => ?_)
          go_simp
          refine (name_c y 2 _ _ rfl nm2' we).mono ?_
          rintro e wf ⟨rfl, b1⟩
          have HXwf : Hid (Below wz.heap.size wz wf) := Lib.hid (below_thenB HXwe.out HXwe.out.size b1)
          have HVwf := Lib.hid (HVwe.out.kept b1)
          refine hK _ _ HXwf.out ?_
          clear hK K b1
          (refine Text.bpurek rfl rfl (fun K hK => ⟨_, fun w' => by go_simp <;> rfl, ?_⟩); go_simp; refine hK _ ?_; clear hK K)
          refine Text.beff rfl rfl (fun K hK => ?_)
          refine wp_storev 37 (.tmp 9) (.tmp 57) rfl 4 (by kernel_rfl) wz.heap.size 0 37 tokZ (tokC s i (nameL x 1, nameL y 2)) rfl rfl HVwf.out rfl (tokC_one _ _ _) (by decide) ?_
          intro wt a1 a2 a3
          have HXwt : Hid (Below wz.heap.size wz wt) := Lib.hid (((Kp.of_below (S := fun _ => False) (HXwf.out)).after a2 (fun j hj e => by have e2 : j = wz.heap.size := e; have := (Nat.le_refl wz.heap.size); have e3 : (World.drew wz).heap.size = wz.heap.size := rfl; omega)).below (Nat.le_refl _) (fun _ h => h.elim))
          have HVt : Hid (BL wt wz.heap.size 37 (tokC s i (nameL x 1, nameL y 2))) := Lib.hid a1
          refine hK _ _ HXwt.out ?_
          clear hK K a1 a2 a3
          refine Text.bdone ?_
          go_wp2_with fail
          go_meet
          exact ⟨wz.heap.size, rfl, HVt, HXwt, Lib.hid (by have := (Nat.le_refl wz.heap.size); have e3 : (World.drew wz).heap.size = wz.heap.size := rfl; omega)⟩
      case rest =>
        obtain ⟨gT, rfl, hg, hxw, hgt⟩ := hcut
        have HRw := Lib.hid (hrw.out.kept hxw.out)
        have HPw := Lib.hid (hpq.out.kept hxw.out)
        have HXw := Lib.hid (below_thenB hx.out hx.out.size hxw.out)
        have HPL : Hid (∀ b, PB gm tv nilV b → b < wz.heap.size) := Lib.hid (fun b hb => hpq.out.lt hb)
        have HVL : Hid (∀ b, v.ownBlock = some b → b < wz.heap.size) := Lib.hid (fun b hb => hrw.out.lt hb)
        have HTB : Hid (tokB s i [(nameL x 1, nameL y 2)] = true) := Lib.hid (by simp only [tokB, HIB.out]; rfl)
        have HKN : Hid (∀ z ∈ ([] : List (List UInt8)) ++ xs.map (·.1), z.length ≤ 9223372036854775807) := Lib.hid (fun z hz => by
          rw [List.nil_append] at hz
          obtain ⟨q, hq, rfl⟩ := List.mem_map.1 hz
          rw [(hlen.out q hq).1]; decide)
        obtain ⟨t, ht⟩ : ∃ t : Sc, t = (nameL x 1, nameL y 2) := ⟨_, rfl⟩
        have HTL : Hid (t.1.length = 32 ∧ t.2.length = 32) := Lib.hid (by rw [ht]; exact ⟨rfl, rfl⟩)
        rw [← ht] at hg HTB
        clear ht hrw hpq
        by_cases hnew : addB ([] ++ xs.map (·.1)) [t] = true
        · have HADD : Hid (addB [] (xs ++ [t]) = true) := Lib.hid (by
            have h1 := hnew
            rw [List.nil_append] at h1
            exact addB_snoc (kn := []) hadd.out (by rw [List.nil_append]; exact h1))
          have HNEW := Lib.hid hnew
          clear hnew
          go_wp2_with (first
            | ((with_reducible show wpList _ _ _ (⟨some 59, _, _, _, _, _⟩ :: _) _ _); refine wpList_loadv _ rfl 37 (.tmp 9) rfl 4 (by kernel_rfl) gT 0 (tokC s i t) rfl (BL.all hg.out) rfl ?_)
            | ((with_reducible show wpList _ _ _ (⟨some 60, _, _, _, _, _⟩ :: _) _ _); refine wpList_bslice _ rfl 24 37 1 _ rfl #[(0, .agg (tokC s i t).toArray)] (by rw [List.map_toArray]; rfl) (tokC s i t) (bslTok s t.1 t.2 i _) ?_; intro w3 a1 a2 a3; have HG3 := Lib.hid a1; have HX3 := Lib.hid a2; have HZ3 := Lib.hid a3; have HgT3 := Lib.hid (hg.out.kept a2); clear a1 a2 a3)
            | (go_at_call 24; refine (add_any w3 gp gm s i tv nilV xs [] (some ⟨_, 0, none⟩) 1 1 [t] (HPw.out.kept HX3.out) (tk1_p HG3.out) HTB.out (by rw [hxl.out]; show m + 0 + 1 ≤ 4096; omega) HKN.out (fun a ha hb => by cases ha; exact Nat.lt_irrefl _ (Nat.lt_of_lt_of_le (HPL.out _ hb) hxw.out.size))).mono ?_; rintro e w4 hr; obtain ⟨rfl, tv', q1, q2, q3⟩ := AddRet.yes hr HNEW.out; have HP4 := Lib.hid q1; have HK4 := Lib.hid q2; have HO4 := Lib.hid q3; have HgT4 : Hid (BL w4 gT 37 (tokC s i t)) := Lib.hid (HgT3.out.kp q2 (fun hb => by have := HPL.out _ hb; have := hgt.out; omega)); have HR4 := Lib.hid ((HRw.out.kept HX3.out).kp q2 (fun b hb => (hfar.out b hb).2.2)); clear hr q1 q2 q3)
            | ((with_reducible show wpList _ _ _ (⟨some 64, _, _, _, _, _⟩ :: _) _ _); refine wpList_loadv _ rfl 37 (.tmp 9) rfl 4 (by kernel_rfl) gT 0 (tokC s i t) rfl (BL.all HgT4.out) rfl ?_)
            | ((with_reducible show wpList _ _ _ (⟨some 65, _, _, _, _, _⟩ :: _) _ _); refine wpList_bslice _ rfl 24 37 1 _ rfl #[(0, .agg (tokC s i t).toArray)] (by rw [List.map_toArray]; rfl) (tokC s i t) (bslTok s t.1 t.2 i _) ?_; intro w5 a1 a2 a3; have HG5 := Lib.hid a1; have HX5 := Lib.hid a2; have HR5 := Lib.hid (HR4.out.kept a2); have HP5 := Lib.hid (HP4.out.kept a2); clear a1 a2 a3)
            | ((with_reducible show wpList _ _ _ (⟨some 66, _, _, _, _, _⟩ :: _) _ _); obtain ⟨iS, i1, i2, i3, i4⟩ := info_some infoTk4; refine wpList_appRW _ rfl (.tmp 63) (.tmp 65) 24 37 4 iS _ rfl Tryd.underlying24 i1 i2 i3 rfl v m _ rfl HR5.out w4.heap.size _ rfl HG5.out rfl (tokC_one _ _ _) (by rw [i4]; omega) (by omega) ?_; intro v6 w6 ap; have HA6 := Lib.hid ap; clear ap i1 i2 i3 i4))
          have XB3 := Lib.hid (below_thenB HXw.out HXw.out.size HX3.out)
          have XB4 := Lib.hid (below_pb XB3.out HK4.out hpb.out)
          have XB5 := Lib.hid (below_thenB XB4.out XB4.out.size HX5.out)
          have HPB' := Lib.hid (pb_next hpb.out XB3.out HO4.out)
          have HSZ : Hid (wz.heap.size ≤ w3.heap.size) := Lib.hid (Nat.le_trans hxw.out.size HX3.out.size)
          have HNV : Hid (∀ b, PB gm tv' nilV b → ¬ v.ownBlock = some b) := Lib.hid (fun b hb hv => (HO4.out b hb).elim (fun h => (hfar.out b hv).2.2 h) (fun h => by have := HVL.out b hv; have := HSZ.out; omega))
          go_roundw
          case rel => exact ⟨k + 1, m + 1, v6, tv', xs ++ [t], by omega, by omega, by go_num, rfl, Lib.hid (by rw [List.length_append, hxl.out]; rfl), Lib.hid (by have := HA6.out.row; rw [List.flatMap_append, List.flatMap_cons, List.flatMap_nil, List.append_nil]; exact this), Lib.hid (HP5.out.kp HA6.out.kp (fun h => (hfar.out gp h).2.1 rfl) HNV.out), HPB', Lib.hid (fun b hb => (HA6.out.own b hb).elim (fun h => ⟨(hfar.out b h).1, (hfar.out b h).2.1, fun h2 => HNV.out b h2 h⟩) (fun h => ⟨Nat.le_trans XB5.out.size h, fun e => by have := HP5.out.p.lt; omega, fun h2 => by have := HP5.out.lt h2; omega⟩)), HADD, Lib.hid (fun z hz => by
            rw [List.mem_append, List.mem_singleton] at hz
            rcases hz with hz | rfl
            · exact hlen.out z hz
            · exact HTL.out), Lib.hid (((Kp.of_below (S := fun _ => False) XB5.out).after HA6.out.kp (fun j hj hS => by have := (hfar.out j hS).1; omega)).below (Nat.le_refl _) (fun _ h => h.elim))⟩
          case measure => simp [intOf]; omega
        · rw [Bool.not_eq_true] at hnew
          have HNEW := Lib.hid hnew
          clear hnew
          go_wp2_with (first
            | ((with_reducible show wpList _ _ _ (⟨some 59, _, _, _, _, _⟩ :: _) _ _); refine wpList_loadv _ rfl 37 (.tmp 9) rfl 4 (by kernel_rfl) gT 0 (tokC s i t) rfl (BL.all hg.out) rfl ?_)
            | ((with_reducible show wpList _ _ _ (⟨some 60, _, _, _, _, _⟩ :: _) _ _); refine wpList_bslice _ rfl 24 37 1 _ rfl #[(0, .agg (tokC s i t).toArray)] (by rw [List.map_toArray]; rfl) (tokC s i t) (bslTok s t.1 t.2 i _) ?_; intro w3 a1 a2 a3; have HG3 := Lib.hid a1; have HX3 := Lib.hid a2; clear a1 a2 a3)
            | (go_at_call 24; refine (add_any w3 gp gm s i tv nilV xs [] (some ⟨_, 0, none⟩) 1 1 [t] (HPw.out.kept HX3.out) (tk1_p HG3.out) HTB.out (by rw [hxl.out]; show m + 0 + 1 ≤ 4096; omega) HKN.out (fun a ha hb => by cases ha; exact Nat.lt_irrefl _ (Nat.lt_of_lt_of_le (HPL.out _ hb) hxw.out.size))).mono ?_; rintro e w4 hr; obtain ⟨rfl, q1⟩ := AddRet.no hr HNEW.out; have HX4 := Lib.hid (below_then HX3.out q1); clear hr q1))
          have HX4w := Lib.hid (below_thenB HXw.out HXw.out.size HX4.out)
          go_roundw
          case rel => exact ⟨k + 1, m, v, tv, xs, by omega, by omega, by go_num, rfl, hxl, Lib.hid (HRw.out.kept HX4.out), Lib.hid (HPw.out.kept HX4.out), hpb, hfar, hadd, hlen, HX4w⟩
          case measure => simp [intOf]; omega
    · obtain rfl : k = n := by omega
      have hm0 : 0 ≤ (m : Int) := by omega
      have hm12 : (m : Int) ≤ 12 := by omega
      obtain ⟨Av, cv, ev, _⟩ := hrw.out.form
      subst ev
      have HFV : Hid (∀ b, (Value.slice Av m cv).ownBlock = some b → b < wz.heap.size) := Lib.hid (fun b hb => hrw.out.lt hb)
      go_wp2_with fail
      go_loopw [70] (fun iv wr => ∃ (j : Nat) (tu uu : Value), j ≤ m ∧ iv = .int .i64 (j : Int) ∧ Hid (RW wr 37 4 (.slice Av m cv) m (xs.flatMap (tokC s i))) ∧ Hid (PQ wr gp gm s i tu uu (xs.drop j) ((xs.take j).map (·.1))) ∧ Hid (∀ b, PB gm tu uu b → wB.heap.size ≤ b) ∧ Hid (∀ b, (Value.slice Av m cv).ownBlock = some b → ¬ PB gm tu uu b) ∧ Hid (Below wB.heap.size wB wr)) (fun iv _ => m - (intOf iv).toNat)
      case atStart => exact ⟨0, tv, nilV, by omega, rfl, hrw, hpq, hpb, Lib.hid (fun b hb => (hfar.out b hb).2.2), hx⟩
      case round =>
        obtain ⟨j, tu, uu, hj, rfl, hrj, hpj, hbj, hfj, hxj⟩ := hrel
        obtain ⟨wy, hwy⟩ : ∃ x, x = wr := ⟨_, rfl⟩
        rw [← hwy] at hrj hpj hxj ⊢
        clear hwy
        by_cases hjm : j < m
        · have hjl : j < xs.length := by have := hxl.out; omega
          obtain ⟨g, o, c', e, hcv, hat⟩ := hrj.out.at_ (by omega)
          cases e
          obtain ⟨x, hx0⟩ : ∃ x, xs[j] = x := ⟨_, rfl⟩
          have HATx : Hid (At wy g (o + j * 4) (tokC s i x)) := Lib.hid (by have := At.elem (f := tokC s i) (s := 4) (fun _ => rfl) hat (k := j) hjl; rwa [hx0] at this)
          have hdrop : xs.drop j = x :: xs.drop (j + 1) := by rw [List.drop_eq_getElem_cons hjl, hx0]
          have htake : (xs.take (j + 1)).map (·.1) = (xs.take j).map (·.1) ++ [x.1] := by rw [List.take_succ_eq_append_getElem hjl, List.map_append, hx0]; rfl
          rw [hdrop] at hpj
          have HTAKE := Lib.hid htake
          have HLEN : Hid ((((x :: xs.drop (j + 1) : List Sc).length : Nat) : Int) = (m : Int) - (j : Int)) := Lib.hid (by rw [← hdrop, List.length_drop, hxl.out]; omega)
          have f1 : IntKind.i64.wrap ((m : Int) - (j : Int)) = (m : Int) - (j : Int) := by rw [IntWalk.i64_in _ (by omega)]
          have HNE : Hid (∀ q (hq : q < j), (xs[q]'(by omega)).1 ≠ x.1) := Lib.hid (fun q hq => by rw [← hx0]; exact addB_ne hadd.out hjl hq)
          have HXL : Hid (x.1.length = 32 ∧ x.2.length = 32) := Lib.hid (by rw [← hx0]; exact hlen.out _ (List.getElem_mem hjl))
          have HKN : Hid (∀ z ∈ (xs.take (j + 1)).map (·.1) ++ (xs.drop (j + 1)).map (·.1), z.length ≤ 9223372036854775807) := Lib.hid (fun z hz => by
            rw [← List.map_append, List.take_append_drop] at hz
            obtain ⟨q, hq, rfl⟩ := List.mem_map.1 hz
            rw [(hlen.out q hq).1]; decide)
          have HOLD : Hid (addB ((xs.take (j + 1)).map (·.1) ++ (xs.drop (j + 1)).map (·.1)) [x] = false) := Lib.hid (by rw [htake]; simp [addB])
          have HCNT : Hid ((xs.drop (j + 1)).length + ((xs.take (j + 1)).map (·.1)).length + 1 ≤ 4096) := Lib.hid (by rw [List.length_drop, List.length_map, List.length_take, hxl.out]; omega)
          have HTB : Hid (tokB s i [x] = true) := Lib.hid (by simp [tokB, HIB.out, HXL.out.1, HXL.out.2])
          have HHAT := Lib.hid hat
          have hjmi : (j : Int) < (m : Int) := by omega
          have HSs : Hid (s.length ≤ 9223372036854775807) := Lib.hid (by rw [HS.out]; decide)
          clear hat hx0 hdrop htake
          go_wp2_with (first
            | ((with_reducible show wpList _ _ _ (⟨some 74, _, _, _, _, _⟩ :: _) _ _); refine wpList_loadv _ rfl 37 (.tmp 73) rfl 4 (by kernel_rfl) g (o + j * 4) (tokC s i x) (by go_simp) HATx.out rfl ?_)
            | ((with_reducible show wpList _ _ _ (⟨some 11, _, _, _, _, _⟩ :: _) _ _); refine wpList_alloc _ rfl 37 rfl tokZ tokZero ?_; intro y1 a1 a2 a3; have HVy1 := Lib.hid a1; have HXy1 := Lib.hid a2; clear a1 a2 a3)
            | ((with_reducible show wpList _ _ _ (⟨none, _, _, _, _, _⟩ :: _) _ _); refine wpList_storev _ rfl 37 (.tmp 11) (.tmp 74) rfl 4 (by kernel_rfl) wy.heap.size 0 _ tokZ (tokC s i x) rfl rfl HVy1.out rfl (tokC_one _ _ _) (by decide) ?_; intro y2 a1 a2 a3; have HVy2 : Hid (BL y2 wy.heap.size 37 (tokC s i x)) := Lib.hid a1; have HXy2 : Hid (Below wy.heap.size wy y2) := Lib.hid (((Kp.of_below (S := fun _ => False) HXy1.out).after a2 (fun i hi e => by omega)).below (Nat.le_refl _) (fun _ h => h.elim)); have HPy2 := Lib.hid (hpj.out.kept HXy2.out); have HGy2 := Lib.hid (HGc.out.kept (below_thenB hxj.out hxj.out.size HXy2.out)); clear a1 a2 a3)
            | ((with_reducible show wpList _ _ _ (⟨some 76, _, _, _, _, _⟩ :: _) _ _); refine wpList_loadv _ rfl 33 (.tmp 2) rfl 2 (by kernel_rfl) w.heap.size 0 [.string (strB s), .int .i64 i] rfl (BL.all HGy2.out) rfl ?_)
            | (go_at_call 25; refine (left_any y2 gp gm s i tu uu _ _ HPy2.out HSs.out HIW.out).mono ?_; rintro e y3 ⟨rfl, b1⟩; rw [HLEN.out]; have HXy3 := Lib.hid (below_then HXy2.out b1); have HVy3 := Lib.hid (HVy2.out.kept b1); have HPy3 := Lib.hid (HPy2.out.kept b1); have HGy3 := Lib.hid (HGy2.out.kept b1); clear b1)
            | ((with_reducible show wpList _ _ _ (⟨some 85, _, _, _, _, _⟩ :: _) _ _); refine wpList_loadv _ rfl 33 (.tmp 2) rfl 2 (by kernel_rfl) w.heap.size 0 [.string (strB s), .int .i64 i] rfl (BL.all HGy3.out) rfl ?_)
            | (go_at_call 26; refine (use_one y3 gp gm s i tu uu x (xs.drop (j + 1)) _ HPy3.out HSs.out HIW.out (by rw [List.length_map, List.length_take]; omega)).mono ?_; rintro e y4 ⟨rfl, tu', uu', p, k2, o2⟩; rw [← HTAKE.out] at p; have HPy4 := Lib.hid p; have HKy4 := Lib.hid k2; have HOy4 := Lib.hid o2; clear p k2 o2)
            | ((with_reducible show wpList _ _ _ (⟨some 12, _, _, _, _, _⟩ :: _) _ _); refine wpList_alloc _ rfl 37 rfl tokZ tokZero ?_; intro y5 a1 a2 a3; have HVy5 := Lib.hid a1; have HXy5 := Lib.hid a2; clear a1 a2 a3)
            | ((with_reducible show wpList _ _ _ (⟨none, _, _, _, _, _⟩ :: _) _ _); refine wpList_storev _ rfl 37 (.tmp 12) (.tmp 87) rfl 4 (by kernel_rfl) y4.heap.size 0 _ tokZ (tokC s i x) rfl rfl HVy5.out rfl (tokC_one _ _ _) (by decide) ?_; intro y6 a1 a2 a3; have HVy6 : Hid (BL y6 y4.heap.size 37 (tokC s i x)) := Lib.hid a1; have HXy6 : Hid (Below y4.heap.size y4 y6) := Lib.hid (((Kp.of_below (S := fun _ => False) HXy5.out).after a2 (fun i hi e => by omega)).below (Nat.le_refl _) (fun _ h => h.elim)); have HVx4 : Hid (BL y4 wy.heap.size 37 (tokC s i x)) := Lib.hid (HVy3.out.kp HKy4.out (fun hb => by have := hpj.out.lt hb; omega)); have HVx6 := Lib.hid (HVx4.out.kept HXy6.out); have HPy6 := Lib.hid (HPy4.out.kept HXy6.out); obtain ⟨q0, q1, q2, q3⟩ := tok_cells' HVy6.out; obtain ⟨r0, r1, r2, r3⟩ := tok_cells' HVx6.out; clear a1 a2 a3)
            | (go_at_call 24; refine (add_any _ gp gm s i tu' uu' (xs.drop (j + 1)) ((xs.take (j + 1)).map (·.1)) (some ⟨y6.heap.size, 0, none⟩) 1 1 [x] (HPy6.out.kept ((Below.refl _ _).alloc (Nat.le_refl _) _)) (tk1_p (BL.new y6 37 (tokC s i x))) HTB.out HCNT.out HKN.out (fun a ha hb => by cases ha; exact Nat.lt_irrefl _ (HPy6.out.lt hb))).mono ?_; rintro e y7 hr; obtain ⟨rfl, b1⟩ := AddRet.no hr HOLD.out; have HXy7 : Hid (Below y6.heap.size y6 y7) := Lib.hid (((Below.refl _ _).alloc (Nat.le_refl _) _).trans (b1.mono (by simp))); clear hr b1 q0 q1 q2 q3 r0 r1 r2 r3))
          have HFG : Hid (¬ PB gm tu uu g) := Lib.hid (hfj.out g rfl)
          have HGL : Hid (g < wy.heap.size) := Lib.hid (hrj.out.lt rfl)
          have HXy37 : Hid (Below y4.heap.size y4 y7) := Lib.hid (below_thenB HXy6.out HXy6.out.size HXy7.out)
          have HAT7 : Hid (At y7 g o (xs.flatMap (tokC s i))) := Lib.hid (((HHAT.out.kept HXy3.out).kp HKy4.out HFG.out).kept HXy37.out)
          have HRW7 : Hid (RW y7 37 4 (.slice (some ⟨g, o, none⟩) m cv) m (xs.flatMap (tokC s i))) := Lib.hid (((hrj.out.kept HXy3.out).kp HKy4.out hfj.out).kept HXy37.out)
          have HPy7 := Lib.hid (HPy6.out.kept HXy7.out)
          have HVy7 := Lib.hid (HVy6.out.kept HXy7.out)
          have HB3 := Lib.hid (below_thenB hxj.out hxj.out.size HXy3.out)
          have HPBn := Lib.hid (pb_next hbj.out HB3.out HOy4.out)
          have HB7 := Lib.hid (below_thenB (below_pb HB3.out HKy4.out hbj.out) (Nat.le_trans HB3.out.size HKy4.out.size) HXy37.out)
          have HFn : Hid (∀ b, (Value.slice (some ⟨g, o, none⟩) m cv).ownBlock = some b → ¬ PB gm tu' uu' b) := Lib.hid (fun b hb h2 => (HOy4.out b h2).elim (hfj.out b hb) (fun h => by have := hrj.out.lt hb; have := HXy3.out.size; omega))
          have hjc : j ≤ cv := by omega
          have hjc2 : (j : Int) ≤ (cv : Int) := by omega
          have hj0 : 0 ≤ (j : Int) := by omega
          clear HVy1 HXy1 HVy2 HPy2 HGy2 HXy2 HVy3 HPy3 HGy3 HPy4 HVy5 HXy5 HVy6 HVx4 HVx6 HPy6 HXy6 HXy7 HXy37 HATx
          go_wp2_with fail
          go_loopw [107] (fun iv wr => ∃ q : Nat, q ≤ j ∧ iv = .int .i64 (q : Int) ∧ Hid (Below y7.heap.size y7 wr)) (fun iv _ => j - (intOf iv).toNat)
          case atStart => exact ⟨0, by omega, rfl, Lib.hid (Below.refl _ _)⟩
          case round =>
            obtain ⟨q, hq, rfl, hxq⟩ := hrel
            obtain ⟨wq, hwq⟩ : ∃ x, x = wr := ⟨_, rfl⟩
            rw [← hwq] at hxq ⊢
            clear hwq
            by_cases hqj : q < j
            · obtain ⟨z, hz⟩ : ∃ z, xs[q]'(by omega) = z := ⟨_, rfl⟩
              have HATz : Hid (At wq g (o + q * 4) (tokC s i z)) := Lib.hid (by have := At.elem (f := tokC s i) (s := 4) (fun _ => rfl) (HAT7.out.kept hxq.out) (k := q) (by omega); rwa [hz] at this)
              have hne : ((strB z.1).toList == (strB x.1).toList) = false := by rw [strB_eq]; exact decide_eq_false (by rw [← hz]; exact HNE.out q hqj)
              have HVq := Lib.hid (HVy7.out.kept hxq.out)
              have hqji : (q : Int) < (j : Int) := by omega
              clear hz
              go_wp2_with (first
                | ((with_reducible show wpList _ _ _ (⟨some 110, _, _, _, _, _⟩ :: _) _ _); refine wpList_loadv _ rfl 37 (.tmp 109) rfl 4 (by kernel_rfl) g (o + q * 4) (tokC s i z) (by go_simp) HATz.out rfl ?_)
                | ((with_reducible show wpList _ _ _ (⟨some 15, _, _, _, _, _⟩ :: _) _ _); refine wpList_alloc _ rfl 37 rfl tokZ tokZero ?_; intro z1 a1 a2 a3; have HVz1 := Lib.hid a1; have HXz1 := Lib.hid a2; clear a1 a2 a3)
                | ((with_reducible show wpList _ _ _ (⟨none, _, _, _, _, _⟩ :: _) _ _); refine wpList_storev _ rfl 37 (.tmp 15) (.tmp 110) rfl 4 (by kernel_rfl) wq.heap.size 0 _ tokZ (tokC s i z) rfl rfl HVz1.out rfl (tokC_one _ _ _) (by decide) ?_; intro z2 a1 a2 a3; have HVz2 : Hid (BL z2 wq.heap.size 37 (tokC s i z)) := Lib.hid a1; have HXz2 : Hid (Below wq.heap.size wq z2) := Lib.hid (((Kp.of_below (S := fun _ => False) HXz1.out).after a2 (fun i hi e => by omega)).below (Nat.le_refl _) (fun _ h => h.elim)); have u2 := (tok_cells' HVz2.out).2.2.1; have u3 := (tok_cells' (HVq.out.kept HXz2.out)).2.2.1; clear a1 a2 a3))
              go_roundw
              case rel => exact ⟨q + 1, by omega, by go_num, Lib.hid (below_thenB hxq.out hxq.out.size HXz2.out)⟩
              case measure => simp [intOf]; omega
            · obtain rfl : q = j := by omega
              have hqji : ¬ (q : Int) < (q : Int) := by omega
              go_wp2_with fail
              go_roundw
              case rel => exact ⟨q + 1, tu', uu', by omega, by go_num, Lib.hid (HRW7.out.kept hxq.out), Lib.hid (HPy7.out.kept hxq.out), HPBn, HFn, Lib.hid (below_thenB HB7.out HB7.out.size hxq.out)⟩
              case measure => simp [intOf]; omega
        · obtain rfl : j = m := by omega
          have hjj : ¬ (j : Int) < (j : Int) := by omega
          have hpe := hpj.out
          rw [List.drop_of_length_le (by have := hxl.out; omega)] at hpe
          have HPE := Lib.hid hpe
          have HGe := Lib.hid (HGc.out.kept hxj.out)
          have HSs : Hid (s.length ≤ 9223372036854775807) := Lib.hid (by rw [HS.out]; decide)
          clear hpe
          go_wp2_with (first
            | ((with_reducible show wpList _ _ _ (⟨some 120, _, _, _, _, _⟩ :: _) _ _); refine wpList_loadv _ rfl 33 (.tmp 2) rfl 2 (by kernel_rfl) w.heap.size 0 [.string (strB s), .int .i64 i] rfl (BL.all HGe.out) rfl ?_)
            | (go_at_call 26; refine (use_empty wy gp gm s i tu uu _ HPE.out HSs.out HIW.out).mono ?_; rintro e y4 ⟨rfl, b1⟩; have HXy4 := Lib.hid b1; clear b1)
            | ((with_reducible show wpList _ _ _ (⟨some 16, _, _, _, _, _⟩ :: _) _ _); refine wpList_alloc _ rfl 37 rfl tokZ tokZero ?_; intro y5 a1 a2 a3; have HVy5 := Lib.hid a1; have HXy5 := Lib.hid a2; clear a1 a2 a3)
            | ((with_reducible show wpList _ _ _ (⟨none, _, _, _, _, _⟩ :: _) _ _); refine wpList_storev _ rfl 37 (.tmp 16) (.tmp 122) rfl 4 (by kernel_rfl) y4.heap.size 0 _ tokZ tokZ rfl rfl HVy5.out rfl tokZ_one (by decide) ?_; intro y6 a1 a2 a3; have HXy6 : Hid (Below y4.heap.size y4 y6) := Lib.hid (((Kp.of_below (S := fun _ => False) HXy5.out).after a2 (fun i hi e => by omega)).below (Nat.le_refl _) (fun _ h => h.elim)); have HXe := Lib.hid (below_then HXy4.out HXy6.out); have p0 := (HGe.out.kept HXe.out).get (j := 0) rfl; clear a1 a2 a3)
            | (go_at_call 27; refine (sum1_any y6.heap.size s _ ((BL.new y6 9 [.string (strB s)]).get (j := 0) rfl) HS.out).mono ?_; rintro e y7 ⟨rfl, rfl⟩))
          go_ret
          exact ⟨rfl, below_thenB HBc.out HBc.out.size (below_thenB hxj.out hxj.out.size (HXe.out.alloc HXe.out.size _))⟩

set_option maxRecDepth 100000 in
set_option maxHeartbeats 2000000 in
theorem once_walk (s : List UInt8) (i : Int) (A : Option Addr) (n c : Nat) (l : List UInt8) (w : World) (hT : Tabs w) (hd : BS w A n c l) :
    Calls Tryd.prog 6 #[.agg #[.string (strB s), .int .i64 i], .slice A n c] w fun e w' => e = .returned (.bool true) ∧ Below w.heap.size w w' := by
  have HT := Lib.hid hT
  have HD := Lib.hid hd
  clear hT hd
  by_cases hs : s.length = 32
  · have t1 : (((strB s).size : Int) != 32) = false := by rw [strB_size, hs]; rfl
    by_cases h0 : 0 ≤ i
    · have d1 : decide (i < 0) = false := decide_eq_false (by omega)
      by_cases h1 : i < 16
      · have d2 : decide ((16 : Int) ≤ i) = false := decide_eq_false (by omega)
        by_cases h2 : n ≤ 12
        · obtain ⟨i, rfl⟩ := Int.eq_ofNat_of_zero_le h0
          exact once_main s i A n c l w HT.out HD.out hs (by omega) h2
        · have d3 : decide ((12 : Int) < (n : Int)) = true := decide_eq_true (by omega)
          clear hs h0 h1 h2
          go_enter Tryd.func6, Tryd.ntmps6
          go_wp2_with (first
            | ((with_reducible show wpList _ _ _ (⟨some 2, _, _, _, _, _⟩ :: _) _ _); refine wpList_box _ rfl 33 (.tmp 0) rfl [.string (strB s), .int .i64 i] rfl ?_; intro wa a1 a2 a3; have HGa := Lib.hid a1; have HBa := Lib.hid a2; clear a1 a2 a3)
            | (go_at_call 12; (with_reducible show Calls _ _ _ wa _); refine (awake_any wa (HT.out.kept HBa.out)).mono ?_; rintro e w1 ⟨rfl, b1⟩; have HB1 := Lib.hid (below_then HBa.out b1); have HG1 := Lib.hid (HGa.out.kept b1); have p0 := HG1.out.get (j := 0) rfl; have p1 := HG1.out.get (j := 1) rfl; clear b1)
            | (go_at_call 12; refine (awake_any w1 (HT.out.kept HB1.out)).mono ?_; rintro e w2 ⟨rfl, b1⟩; have HB2 := Lib.hid (below_then HB1.out b1); clear b1))
          go_ret
          exact ⟨rfl, HB2.out⟩
      · have d2 : decide ((16 : Int) ≤ i) = true := decide_eq_true (by omega)
        clear hs h0 h1
        go_enter Tryd.func6, Tryd.ntmps6
        go_wp2_with (first
          | ((with_reducible show wpList _ _ _ (⟨some 2, _, _, _, _, _⟩ :: _) _ _); refine wpList_box _ rfl 33 (.tmp 0) rfl [.string (strB s), .int .i64 i] rfl ?_; intro wa a1 a2 a3; have HGa := Lib.hid a1; have HBa := Lib.hid a2; clear a1 a2 a3)
          | (go_at_call 12; (with_reducible show Calls _ _ _ wa _); refine (awake_any wa (HT.out.kept HBa.out)).mono ?_; rintro e w1 ⟨rfl, b1⟩; have HB1 := Lib.hid (below_then HBa.out b1); have HG1 := Lib.hid (HGa.out.kept b1); have p0 := HG1.out.get (j := 0) rfl; have p1 := HG1.out.get (j := 1) rfl; clear b1)
          | (go_at_call 12; refine (awake_any w1 (HT.out.kept HB1.out)).mono ?_; rintro e w2 ⟨rfl, b1⟩; have HB2 := Lib.hid (below_then HB1.out b1); clear b1))
        go_ret
        exact ⟨rfl, HB2.out⟩
    · have d1 : decide (i < 0) = true := decide_eq_true (by omega)
      clear hs h0
      go_enter Tryd.func6, Tryd.ntmps6
      go_wp2_with (first
        | ((with_reducible show wpList _ _ _ (⟨some 2, _, _, _, _, _⟩ :: _) _ _); refine wpList_box _ rfl 33 (.tmp 0) rfl [.string (strB s), .int .i64 i] rfl ?_; intro wa a1 a2 a3; have HGa := Lib.hid a1; have HBa := Lib.hid a2; clear a1 a2 a3)
        | (go_at_call 12; (with_reducible show Calls _ _ _ wa _); refine (awake_any wa (HT.out.kept HBa.out)).mono ?_; rintro e w1 ⟨rfl, b1⟩; have HB1 := Lib.hid (below_then HBa.out b1); have HG1 := Lib.hid (HGa.out.kept b1); have p0 := HG1.out.get (j := 0) rfl; have p1 := HG1.out.get (j := 1) rfl; clear b1)
        | (go_at_call 12; refine (awake_any w1 (HT.out.kept HB1.out)).mono ?_; rintro e w2 ⟨rfl, b1⟩; have HB2 := Lib.hid (below_then HB1.out b1); clear b1))
      go_ret
      exact ⟨rfl, HB2.out⟩
  · have t1 : (((strB s).size : Int) != 32) = true := by rw [strB_size]; simp only [bne_iff_ne, ne_eq]; omega
    clear hs
    go_enter Tryd.func6, Tryd.ntmps6
    go_wp2_with (first
      | ((with_reducible show wpList _ _ _ (⟨some 2, _, _, _, _, _⟩ :: _) _ _); refine wpList_box _ rfl 33 (.tmp 0) rfl [.string (strB s), .int .i64 i] rfl ?_; intro wa a1 a2 a3; have HGa := Lib.hid a1; have HBa := Lib.hid a2; clear a1 a2 a3)
      | (go_at_call 12; (with_reducible show Calls _ _ _ wa _); refine (awake_any wa (HT.out.kept HBa.out)).mono ?_; rintro e w1 ⟨rfl, b1⟩; have HB1 := Lib.hid (below_then HBa.out b1); have HG1 := Lib.hid (HGa.out.kept b1); have p0 := HG1.out.get (j := 0) rfl; have p1 := HG1.out.get (j := 1) rfl; clear b1)
      | (go_at_call 12; refine (awake_any w1 (HT.out.kept HB1.out)).mono ?_; rintro e w2 ⟨rfl, b1⟩; have HB2 := Lib.hid (below_then HB1.out b1); clear b1))
    go_ret
    exact ⟨rfl, HB2.out⟩
end Go.Proofs.YtgjgofjabdjclaaDoor
