/- Several texts in one: LGe, On, LawOpen45, Tabs, Dm. -/
import Derived.Test.YtgoefpbicohkfaaGreatDoorC30
import Derived.Test.YtgoefpbicohkfaaGreatDoorC19
import Derived.Test.YtgoefpbicohkfaaGreatDoorC10
import Derived.Test.YtgoefpbicohkfaaGreatDoorC8
import Derived.Test.YtgoefpbicohkfaaGreatDoorC4
import Derived.LaidMore
import Derived.Stop.Joined
import Derived.LaidLaws
import Derived.MakeChecks
/- The walk of EpochGenerations. -/
namespace Go.Proofs.YtgoefpbicohkfaaGreatDoor
open Go Go.RowKit Gf Sha

section
set_option maxRecDepth 100000
set_option maxHeartbeats 2000000
theorem ge_walk (Y : Ky) (A : Option Addr) (n c : Nat) (l : List UInt8) (B : Option Addr) (m d : Nat) (names : List (List UInt8)) (w : World) (hT : Tabs w) (h : BS w A n c l) (hN : LS rStr 1 16 w B m d names) :
    Calls Tryz.prog 3 #[Y.val, .slice A n c, .slice B m d] w fun e w' => e = .returned (.bool true) ∧ Below w.heap.size w w' := by
  have hn := h.len_le
  have hm := hN.len_le
  have H := Lib.hid h
  have HNM := Lib.hid hN
  have HT := Lib.hid hT
  obtain ⟨R, hR⟩ : ∃ R, R = genF (genP Y l names) 9223372036854775808 0 := ⟨_, rfl⟩
  have HR := Lib.hid hR.symm
  obtain ⟨⟨p, q⟩, hX⟩ : ∃ x, x = genA Y l R := ⟨_, rfl⟩
  have HX := Lib.hid hX.symm
  clear h hN hT hR hX
  cases f1 : decide ((20 : Int) < (m : Int)) with
  | true =>
    go_enter Tryz.func3, Tryz.ntmps3
    go_wp2_with (first
      | ((with_reducible show wpList _ _ _ (⟨some 3, _, _, _, _, _⟩ :: _) _ _); refine wpList_box _ rfl 23 (.tmp 0) rfl Y.cells rfl ?_; intro wa a1 a2 a3; have HGa := Lib.hid a1; have HBa := Lib.hid a2; clear a1 a2 a3)
      | (go_at_call 4; refine (awake_any wa).mono ?_; rintro e w1 ⟨rfl, b1⟩; have HB1 := Lib.hid (below_then HBa.out b1); have HG1 := Lib.hid (HGa.out.kept b1); clear b1)
      | fail)
    go_ret
    exact ⟨rfl, HB1.out⟩
  | false =>
    cases f2 : decide ((1000 : Int) < (n : Int)) with
    | true =>
      cases f3 : decide ((n : Int) ≤ 32768) with
      | true =>
        go_enter Tryz.func3, Tryz.ntmps3
        go_wp2_with (first
          | ((with_reducible show wpList _ _ _ (⟨some 3, _, _, _, _, _⟩ :: _) _ _); refine wpList_box _ rfl 23 (.tmp 0) rfl Y.cells rfl ?_; intro wa a1 a2 a3; have HGa := Lib.hid a1; have HBa := Lib.hid a2; clear a1 a2 a3)
          | (go_at_call 4; refine (awake_any wa).mono ?_; rintro e w1 ⟨rfl, b1⟩; have HB1 := Lib.hid (below_then HBa.out b1); have HG1 := Lib.hid (HGa.out.kept b1); clear b1)
          | fail)
        go_ret
        exact ⟨rfl, HB1.out⟩
      | false =>
        go_enter Tryz.func3, Tryz.ntmps3
        go_wp2_with (first
          | ((with_reducible show wpList _ _ _ (⟨some 3, _, _, _, _, _⟩ :: _) _ _); refine wpList_box _ rfl 23 (.tmp 0) rfl Y.cells rfl ?_; intro wa a1 a2 a3; have HGa := Lib.hid a1; have HBa := Lib.hid a2; clear a1 a2 a3)
          | (go_at_call 4; refine (awake_any wa).mono ?_; rintro e w1 ⟨rfl, b1⟩; have HB1 := Lib.hid (below_then HBa.out b1); have HG1 := Lib.hid (HGa.out.kept b1); clear b1)
          | ((with_reducible show wpList _ _ _ (⟨some 27, _, _, _, _, _⟩ :: _) _ _); refine wpList_loadv _ rfl 23 (.tmp 3) rfl 5 (by kernel_rfl) w.heap.size 0 Y.cells rfl (BL.all HG1.out) rfl ?_)
          | (go_at_call 5; refine (gen_any Y A n c l B m d names R w1 (H.out.kept HB1.out) (HNM.out.kept stay_str HB1.out) (HT.out.kept HB1.out) HR.out).mono ?_; rw [HX.out]; rintro e w2 ⟨rfl, b1⟩; have HB2 := Lib.hid (below_then HB1.out b1); have HG2 := Lib.hid (HG1.out.kept b1); clear b1)
          | ((with_reducible show wpList _ _ _ (⟨some 34, _, _, _, _, _⟩ :: _) _ _); refine wpList_loadv _ rfl 23 (.tmp 3) rfl 5 (by kernel_rfl) w.heap.size 0 Y.cells rfl (BL.all HG2.out) rfl ?_)
          | (go_at_call 6; refine (rgen_any Y A n c l B m d names R w2 (H.out.kept HB2.out) (HNM.out.kept stay_str HB2.out) HR.out).mono ?_; rw [HX.out]; rintro e w3 ⟨rfl, b1⟩; have HB3 := Lib.hid (below_then HB2.out b1); clear b1))
        go_ret
        exact ⟨rfl, HB3.out⟩
    | false =>
      go_enter Tryz.func3, Tryz.ntmps3
      go_wp2_with (first
        | ((with_reducible show wpList _ _ _ (⟨some 3, _, _, _, _, _⟩ :: _) _ _); refine wpList_box _ rfl 23 (.tmp 0) rfl Y.cells rfl ?_; intro wa a1 a2 a3; have HGa := Lib.hid a1; have HBa := Lib.hid a2; clear a1 a2 a3)
        | (go_at_call 4; refine (awake_any wa).mono ?_; rintro e w1 ⟨rfl, b1⟩; have HB1 := Lib.hid (below_then HBa.out b1); have HG1 := Lib.hid (HGa.out.kept b1); clear b1)
        | ((with_reducible show wpList _ _ _ (⟨some 27, _, _, _, _, _⟩ :: _) _ _); refine wpList_loadv _ rfl 23 (.tmp 3) rfl 5 (by kernel_rfl) w.heap.size 0 Y.cells rfl (BL.all HG1.out) rfl ?_)
        | (go_at_call 5; refine (gen_any Y A n c l B m d names R w1 (H.out.kept HB1.out) (HNM.out.kept stay_str HB1.out) (HT.out.kept HB1.out) HR.out).mono ?_; rw [HX.out]; rintro e w2 ⟨rfl, b1⟩; have HB2 := Lib.hid (below_then HB1.out b1); have HG2 := Lib.hid (HG1.out.kept b1); clear b1)
        | ((with_reducible show wpList _ _ _ (⟨some 34, _, _, _, _, _⟩ :: _) _ _); refine wpList_loadv _ rfl 23 (.tmp 3) rfl 5 (by kernel_rfl) w.heap.size 0 Y.cells rfl (BL.all HG2.out) rfl ?_)
        | (go_at_call 6; refine (rgen_any Y A n c l B m d names R w2 (H.out.kept HB2.out) (HNM.out.kept stay_str HB2.out) HR.out).mono ?_; rw [HX.out]; rintro e w3 ⟨rfl, b1⟩; have HB3 := Lib.hid (below_then HB2.out b1); clear b1))
      go_ret
      exact ⟨rfl, HB3.out⟩
end
end Go.Proofs.YtgoefpbicohkfaaGreatDoor
/- Arguments of the types of chapter 47 opened. -/
namespace Go.Proofs.YtgoefpbicohkfaaGreatDoor
open Go Go.ChangeShapes Go.WideShapes Go.ChangeAt Go.RowKit Gf Sha

theorem cc_str : Tryz.prog.cellsOf 9 = 1 := by kernel_rfl
theorem cc_int : Tryz.prog.cellsOf 3 = 1 := by kernel_rfl
theorem cc_strs : Tryz.prog.cellsOf 25 = 1 := by kernel_rfl
theorem cc_ints : Tryz.prog.cellsOf 31 = 1 := by kernel_rfl
theorem cc_bytes : Tryz.prog.cellsOf 24 = 1 := by kernel_rfl
theorem fields_en : ∃ f0 f1 f2 f3 f4 f5 : Field, Tryz.prog.underlying 38 = some (.struct #[f0, f1, f2, f3, f4, f5]) ∧ (f0.type = 3 ∧ f0.offset = 0) ∧ (f1.type = 3 ∧ f1.offset = 1) ∧ (f2.type = 3 ∧ f2.offset = 2) ∧ (f3.type = 3 ∧ f3.offset = 3) ∧ (f4.type = 24 ∧ f4.offset = 4) ∧ (f5.type = 9 ∧ f5.offset = 5) := ⟨_, _, _, _, _, _, Tryz.underlying38, ⟨rfl, rfl⟩, ⟨rfl, rfl⟩, ⟨rfl, rfl⟩, ⟨rfl, rfl⟩, ⟨rfl, rfl⟩, ⟨rfl, rfl⟩⟩
theorem cells_en : Tryz.prog.cellsOf 38 = 6 := by kernel_rfl
set_option maxRecDepth 100000 in
theorem opens_en {H : Type} {enc : TypeId × Value → H} {W : World} : Opens enc Tryz.prog W 38 rEn := fun cs d ps n h hw hl => by
  obtain ⟨f0, f1, f2, f3, f4, f5, hu, ⟨t0, o0⟩, ⟨t1, o1⟩, ⟨t2, o2⟩, ⟨t3, o3⟩, ⟨t4, o4⟩, ⟨t5, o5⟩⟩ := fields_en
  rw [cells_en] at hl
  match cs, hl with
  | [u0, u1, u2, u3, u4, u5], _ =>
    have h0 := struct_each hu h hw 0 f0 rfl (R := rInt) (by rw [t0]; exact opens_int Tryz.underlying3) (by rw [o0, t0, cc_int]; simp)
    have h1 := struct_each hu h hw 1 f1 rfl (R := rInt) (by rw [t1]; exact opens_int Tryz.underlying3) (by rw [o1, t1, cc_int]; simp)
    have h2 := struct_each hu h hw 2 f2 rfl (R := rInt) (by rw [t2]; exact opens_int Tryz.underlying3) (by rw [o2, t2, cc_int]; simp)
    have h3 := struct_each hu h hw 3 f3 rfl (R := rInt) (by rw [t3]; exact opens_int Tryz.underlying3) (by rw [o3, t3, cc_int]; simp)
    have h4 := struct_each hu h hw 4 f4 rfl (R := rBytes) (by rw [t4]; exact opens_bytes Tryz.underlying24 Tryz.underlying5 (by kernel_rfl) (by kernel_rfl)) (by rw [o4, t4, cc_bytes]; simp)
    have h5 := struct_each hu h hw 5 f5 rfl (R := rStr) (by rw [t5]; exact opens_str Tryz.underlying9) (by rw [o5, t5, cc_str]; simp)
    rw [t0, o0, cc_int] at h0
    rw [t1, o1, cc_int] at h1
    rw [t2, o2, cc_int] at h2
    rw [t3, o3, cc_int] at h3
    rw [t4, o4, cc_bytes] at h4
    rw [t5, o5, cc_str] at h5
    obtain ⟨x0, e0, g0⟩ := h0
    obtain ⟨x1, e1, g1⟩ := h1
    obtain ⟨x2, e2, g2⟩ := h2
    obtain ⟨x3, e3, g3⟩ := h3
    obtain ⟨x4, A4, n4, c4, e4, g4⟩ := h4
    obtain ⟨x5, e5, g5⟩ := h5
    simp only [List.drop_zero, List.take_succ_cons, List.take_zero, List.cons.injEq, and_true, List.drop_succ_cons] at e0 e1 e2 e3 e4 e5
    exact ⟨⟨x0, x1, x2, x3, x4, x5⟩, A4, n4, c4, by rw [e0, e1, e2, e3, e4, e5], g4, g0, g1, g2, g3, g5⟩
set_option maxRecDepth 100000 in
/-- A struct that is an argument, opened. -/
theorem open_rec {H : Type} {enc : TypeId × Value → H} {W : World} {α : Type} {R : Rdg α} {t : TypeId} {fs : Array Field} {r : Reach} {b0 : Nat} {v : Value} {d : DataW H} {ps : List MemPlace} (hu : Tryz.prog.underlying t = some (.struct fs)) (hR : Opens enc Tryz.prog W t R) (hval : Value.okWide Tryz.prog W r b0 t v) (hd : DataW.Trod enc Tryz.prog W 0 (fun _ => true) true t v d ps) (hw : ∀ m ∈ d.weights Tryz.prog t, m ≤ reachBytes) :
    ∃ (cs : List Value) (x : α), v = .agg cs.toArray ∧ R W cs x := by
  obtain ⟨cs, rfl, hsz⟩ := okWide_struct hu hval
  obtain ⟨fuel, hf⟩ := hd
  obtain ⟨l⟩ := cs
  obtain ⟨x, hx⟩ := hR l d ps fuel hf hw (by simpa using hsz)
  exact ⟨l, x, rfl, hx⟩
theorem en_struct : ∃ fs, Tryz.prog.underlying 38 = some (.struct fs) := ⟨_, Tryz.underlying38⟩
end Go.Proofs.YtgoefpbicohkfaaGreatDoor
/- Arguments opened: keys and piece ids. -/
namespace Go.Proofs.YtgoefpbicohkfaaGreatDoor
open Go Go.ChangeShapes Go.WideShapes Go.ChangeAt Go.RowKit Gf Sha

section
variable {H : Type} {enc : TypeId × Value → H} {W : World} {base b0 : Nat} {sp : Nat → Bool} {held : Bool} {r : Reach}
theorem str_val {P : Program} {t : TypeId} {fuel : Nat} {v : Value} {x : DataW H × List MemPlace} (ht : P.underlying t = some .string) (h : DataW.trod enc P W base sp held fuel t [v] = some x) : ∃ l : List UInt8, v = .string (strB l) := by
  obtain ⟨s, e, _, _⟩ := DataW.trod_string ht h
  simp only [List.cons.injEq, and_true] at e
  exact ⟨s.data.toList, by rw [e, strB_of]⟩
theorem int_val {P : Program} {t : TypeId} {fuel : Nat} {v : Value} {x : DataW H × List MemPlace} (ht : P.underlying t = some (.int .i64)) (h : DataW.trod enc P W base sp held fuel t [v] = some x) : ∃ z : Int, v = .int .i64 z ∧ (Lit.int .i64 z).wf = true := by
  obtain ⟨z, e, _, hw⟩ := DataW.trod_int ht h
  simp only [List.cons.injEq, and_true] at e
  exact ⟨z, e, hw⟩
theorem c_str : Tryz.prog.cellsOf 9 = 1 := by kernel_rfl
theorem c_int : Tryz.prog.cellsOf 3 = 1 := by kernel_rfl
theorem c_keys : Tryz.prog.cellsOf 23 = 5 := by kernel_rfl
theorem keyFields : ∃ f0 f1 f2 f3 f4 : Field, Tryz.prog.underlying 23 = some (.struct #[f0, f1, f2, f3, f4]) ∧ (f0.type = 9 ∧ f0.offset = 0) ∧ (f1.type = 9 ∧ f1.offset = 1) ∧ (f2.type = 9 ∧ f2.offset = 2) ∧ (f3.type = 9 ∧ f3.offset = 3) ∧ (f4.type = 9 ∧ f4.offset = 4) := ⟨_, _, _, _, _, Tryz.underlying23, ⟨rfl, rfl⟩, ⟨rfl, rfl⟩, ⟨rfl, rfl⟩, ⟨rfl, rfl⟩, ⟨rfl, rfl⟩⟩
set_option maxRecDepth 100000 in
theorem open_keys {v : Value} {d : DataW H} {ps : List MemPlace} (hval : Value.okWide Tryz.prog W r b0 23 v) (hd : DataW.Trod enc Tryz.prog W base sp held 23 v d ps) :
    ∃ K : Ky, v = K.val ∧ True := by
  obtain ⟨f0, f1, f2, f3, f4, hu, ⟨t0, o0⟩, ⟨t1, o1⟩, ⟨t2, o2⟩, ⟨t3, o3⟩, ⟨t4, o4⟩⟩ := keyFields
  obtain ⟨cs, rfl, hsz⟩ := okWide_struct hu hval
  obtain ⟨fuel, hf⟩ := hd
  obtain ⟨xs, m, rfl, hx, hl, hn, hel⟩ := DataW.trod_struct hu hf
  rw [c_keys] at hsz
  obtain ⟨l⟩ := cs
  match l, hsz with
  | [u0, u1, u2, u3, u4], _ =>
    have h0 := hel 0 f0 rfl
    have h1 := hel 1 f1 rfl
    have h2 := hel 2 f2 rfl
    have h3 := hel 3 f3 rfl
    have h4 := hel 4 f4 rfl
    rw [t0, o0, c_str] at h0
    rw [t1, o1, c_str] at h1
    rw [t2, o2, c_str] at h2
    rw [t3, o3, c_str] at h3
    rw [t4, o4, c_str] at h4
    have hxl : xs.length = 5 := hn
    rw [List.getElem?_eq_getElem (by omega)] at h0 h1 h2 h3 h4
    obtain ⟨l0, rfl⟩ := str_val Tryz.underlying9 (v := u0) h0
    obtain ⟨l1, rfl⟩ := str_val Tryz.underlying9 (v := u1) h1
    obtain ⟨l2, rfl⟩ := str_val Tryz.underlying9 (v := u2) h2
    obtain ⟨l3, rfl⟩ := str_val Tryz.underlying9 (v := u3) h3
    obtain ⟨l4, rfl⟩ := str_val Tryz.underlying9 (v := u4) h4
    exact ⟨⟨l0, l1, l2, l3, l4⟩, rfl, trivial⟩
end
end Go.Proofs.YtgoefpbicohkfaaGreatDoor
/- The tables of sha256 and hmac, out of the condition that the row's card ties to the program's text. -/
namespace Go.Proofs.YtgoefpbicohkfaaGreatDoor
open Go Go.ChangeShapes Go.WideShapes Go.ChangeAt Go.RowKit Gf Sha

section
variable {H : Type} {enc : TypeId × Value → H} {P : Program} {w : World} {base : Nat} {spare : Nat → Bool} {held : Bool} {fuel : Nat} {t e : TypeId} {cs : List Value} {ps : List MemPlace} {k : IntKind}
theorem trod_ints (zs : List Int) (ht : P.underlying t = some (.array zs.length e)) (he : P.underlying e = some (.int k)) (ce : P.cellsOf e = 1) (ct : P.cellsOf t = zs.length)
    (h : DataW.trod enc P w base spare held fuel t cs = some (.agg (zs.map fun z => .lit (.int k z)), ps)) : cs = zs.map (.int k ·) := by
  obtain ⟨xs, m, rfl, hx, hl, hn, hel⟩ := DataW.trod_array ht h
  rw [ct] at hl
  simp only [Prod.mk.injEq, DataW.agg.injEq] at hx
  refine List.ext_getElem (by simp [hl]) (fun i h1 h2 => ?_)
  have hi : i < zs.length := by omega
  have hg := hel i hi
  rw [ce, Nat.mul_one, List.getElem?_eq_getElem (by omega)] at hg
  obtain ⟨z, e1, e2, _⟩ := DataW.trod_int he hg
  have h3 : (xs.map (·.1))[i]'(by simp; omega) = DataW.lit (.int k zs[i]) := by
    have : (xs.map (·.1)) = zs.map fun z => DataW.lit (.int k z) := hx.1.symm
    simp only [this, List.getElem_map]
  rw [List.getElem_map, e2] at h3
  simp only [DataW.lit.injEq, Lit.int.injEq, true_and] at h3
  subst h3
  have e3 : (cs.drop i).take 1 = [cs[i]] := by
    rw [List.drop_eq_getElem_cons h1]; rfl
  rw [e3] at e1
  simp only [List.cons.injEq, and_true] at e1
  rw [e1, List.getElem_map]
theorem cells_at {g : Nat} {n : String} {cs : Array Value} {l : List Value} (hg : P.globalNamed n = some g) (h : w.var? P n = some cs) (e : cs.toList = l) : At w g 0 l := by
  intro j v hj
  rw [Nat.zero_add, World.var?_cell hg h, ← hj, ← e]
  simp
end

theorem gPads : Tryz.prog.globalNamed "kinkeep/hmac.pads" = some 0 := by kernel_rfl
theorem gIni : Tryz.prog.globalNamed "kinkeep/sha256.initial" = some 1 := by kernel_rfl
theorem gCon : Tryz.prog.globalNamed "kinkeep/sha256.constants" = some 2 := by kernel_rfl
theorem tPads : (Tryz.prog.globals[0]?).map (·.type) = some 128 := by kernel_rfl
theorem tIni : (Tryz.prog.globals[1]?).map (·.type) = some 123 := by kernel_rfl
theorem tCon : (Tryz.prog.globals[2]?).map (·.type) = some 155 := by kernel_rfl
/-- What the rows list. -/
def laid3 : List (String × DataW Unit) := [("kinkeep/sha256.initial", Rows.laid_kinkeep_sha256_initial), ("kinkeep/sha256.constants", Rows.laid_kinkeep_sha256_constants), ("kinkeep/hmac.pads", Rows.laid_kinkeep_hmac_pads)]

set_option maxRecDepth 100000 in
theorem tabs_of_laid {W : World} (h : laidMetH Tryz.prog laid3 W) : Tabs W := by
  rw [MakeChecks.laidMetH_plain _ _ _ (by kernel_rfl)] at h
  obtain ⟨ps, ⟨g0, t0, cs0, f0, p0, q0, hg0, ht0, hv0, hd0, ⟨g1, t1, cs1, f1, p1, q1, hg1, ht1, hv1, hd1, ⟨g2, t2, cs2, f2, p2, q2, hg2, ht2, hv2, hd2, _, _⟩, _⟩, _⟩, _, _⟩ := h
  obtain rfl := Option.some.inj (gIni.symm.trans hg0)
  obtain rfl := Option.some.inj (gCon.symm.trans hg1)
  obtain rfl := Option.some.inj (gPads.symm.trans hg2)
  obtain rfl := Option.some.inj (tIni.symm.trans ht0)
  obtain rfl := Option.some.inj (tCon.symm.trans ht1)
  obtain rfl := Option.some.inj (tPads.symm.trans ht2)
  have e0 := trod_ints ([ini.a, ini.b, ini.c, ini.d, ini.e, ini.f, ini.g, ini.h].map wv) Tryz.underlying123 Tryz.underlying122 (by kernel_rfl) (by kernel_rfl) hd0
  have e1 := trod_ints (ks.map wv) Tryz.underlying155 Tryz.underlying122 (by kernel_rfl) (by kernel_rfl) hd1
  have e2 := trod_ints [54, 92] Tryz.underlying128 Tryz.underlying5 (by kernel_rfl) (by kernel_rfl) hd2
  exact ⟨cells_at gPads hv2 e2, cells_at gIni hv0 e0, cells_at gCon hv1 (by rw [e1]; rfl)⟩
end Go.Proofs.YtgoefpbicohkfaaGreatDoor
/- The heap that the door leaves meets the rows' condition. -/
namespace Go.Proofs.YtgoefpbicohkfaaGreatDoor
open Go Go.ChangeShapes Go.WideShapes Go.ChangeAt Go.RowKit Gf Sha

set_option maxRecDepth 100000 in
theorem door_met (os : Os) (args : Array Value) : laidMetH Tryz.prog laid3 ((World.doorLaid Tryz.prog 24 os).forCall (fun _ _ => 0) ⟨#[], args, []⟩).memory :=
  laidMetH_of_parts3 (fuel := 8) (laidMet_of_run' 8 (by kernel_rfl) (by kernel_rfl)) (by kernel_rfl) (by kernel_rfl)
end Go.Proofs.YtgoefpbicohkfaaGreatDoor
