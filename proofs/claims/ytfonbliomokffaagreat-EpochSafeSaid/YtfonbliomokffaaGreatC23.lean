/- Several texts in one: On. -/
import Derived.Test.YtfonbliomokffaaGreatC9
import Derived.Test.YtfonbliomokffaaGreatC2
/- Arguments of the types of chapter 47 opened. -/
namespace Go.Proofs.YtfonbliomokffaaGreat
open Go Go.ChangeShapes Go.WideShapes Go.ChangeAt Go.RowKit Gf Sha

theorem cc_str : Tryz.prog.cellsOf 9 = 1 := by kernel_rfl
theorem cc_int : Tryz.prog.cellsOf 3 = 1 := by kernel_rfl
theorem cc_strs : Tryz.prog.cellsOf 27 = 1 := by kernel_rfl
theorem cc_ints : Tryz.prog.cellsOf 23 = 1 := by kernel_rfl
theorem cc_bytes : Tryz.prog.cellsOf 31 = 1 := by kernel_rfl
theorem fields_en : ∃ f0 f1 f2 f3 f4 f5 : Field, Tryz.prog.underlying 33 = some (.struct #[f0, f1, f2, f3, f4, f5]) ∧ (f0.type = 3 ∧ f0.offset = 0) ∧ (f1.type = 3 ∧ f1.offset = 1) ∧ (f2.type = 3 ∧ f2.offset = 2) ∧ (f3.type = 3 ∧ f3.offset = 3) ∧ (f4.type = 31 ∧ f4.offset = 4) ∧ (f5.type = 9 ∧ f5.offset = 5) := ⟨_, _, _, _, _, _, Tryz.underlying33, ⟨rfl, rfl⟩, ⟨rfl, rfl⟩, ⟨rfl, rfl⟩, ⟨rfl, rfl⟩, ⟨rfl, rfl⟩, ⟨rfl, rfl⟩⟩
theorem cells_en : Tryz.prog.cellsOf 33 = 6 := by kernel_rfl
set_option maxRecDepth 100000 in
theorem opens_en {H : Type} {enc : TypeId × Value → H} {W : World} : Opens enc Tryz.prog W 33 rEn := fun cs d ps n h hw hl => by
  obtain ⟨f0, f1, f2, f3, f4, f5, hu, ⟨t0, o0⟩, ⟨t1, o1⟩, ⟨t2, o2⟩, ⟨t3, o3⟩, ⟨t4, o4⟩, ⟨t5, o5⟩⟩ := fields_en
  rw [cells_en] at hl
  match cs, hl with
  | [u0, u1, u2, u3, u4, u5], _ =>
    have h0 := struct_each hu h hw 0 f0 rfl (R := rInt) (by rw [t0]; exact opens_int Tryz.underlying3) (by rw [o0, t0, cc_int]; simp)
    have h1 := struct_each hu h hw 1 f1 rfl (R := rInt) (by rw [t1]; exact opens_int Tryz.underlying3) (by rw [o1, t1, cc_int]; simp)
    have h2 := struct_each hu h hw 2 f2 rfl (R := rInt) (by rw [t2]; exact opens_int Tryz.underlying3) (by rw [o2, t2, cc_int]; simp)
    have h3 := struct_each hu h hw 3 f3 rfl (R := rInt) (by rw [t3]; exact opens_int Tryz.underlying3) (by rw [o3, t3, cc_int]; simp)
    have h4 := struct_each hu h hw 4 f4 rfl (R := rBytes) (by rw [t4]; exact opens_bytes Tryz.underlying31 Tryz.underlying5 (by kernel_rfl) (by kernel_rfl)) (by rw [o4, t4, cc_bytes]; simp)
    have h5 := struct_each hu h hw 5 f5 rfl (R := rStr) (by rw [t5]; exact opens_str Tryz.underlying9) (by rw [o5, t5, cc_str]; simp)
    rw [t0, o0, cc_int] at h0
    rw [t1, o1, cc_int] at h1
    rw [t2, o2, cc_int] at h2
    rw [t3, o3, cc_int] at h3
    rw [t4, o4, cc_bytes] at h4
    rw [t5, o5, cc_str] at h5
    obtain ⟨x0, e0, g0⟩ := h0
    obtain ⟨x1, e1, g1⟩ := h1
    obtain ⟨x2, e2, g2⟩ := h2
    obtain ⟨x3, e3, g3⟩ := h3
    obtain ⟨x4, A4, n4, c4, e4, g4⟩ := h4
    obtain ⟨x5, e5, g5⟩ := h5
    simp only [List.drop_zero, List.take_succ_cons, List.take_zero, List.cons.injEq, and_true, List.drop_succ_cons] at e0 e1 e2 e3 e4 e5
    exact ⟨⟨x0, x1, x2, x3, x4, x5⟩, A4, n4, c4, by rw [e0, e1, e2, e3, e4, e5], g4, g0, g1, g2, g3, g5⟩
theorem fields_pp : ∃ f0 f1 f2 f3 f4 : Field, Tryz.prog.underlying 40 = some (.struct #[f0, f1, f2, f3, f4]) ∧ (f0.type = 3 ∧ f0.offset = 0) ∧ (f1.type = 3 ∧ f1.offset = 1) ∧ (f2.type = 3 ∧ f2.offset = 2) ∧ (f3.type = 23 ∧ f3.offset = 3) ∧ (f4.type = 27 ∧ f4.offset = 4) := ⟨_, _, _, _, _, Tryz.underlying40, ⟨rfl, rfl⟩, ⟨rfl, rfl⟩, ⟨rfl, rfl⟩, ⟨rfl, rfl⟩, ⟨rfl, rfl⟩⟩
theorem cells_pp : Tryz.prog.cellsOf 40 = 5 := by kernel_rfl
set_option maxRecDepth 100000 in
theorem opens_pp {H : Type} {enc : TypeId × Value → H} {W : World} : Opens enc Tryz.prog W 40 rPp := fun cs d ps n h hw hl => by
  obtain ⟨f0, f1, f2, f3, f4, hu, ⟨t0, o0⟩, ⟨t1, o1⟩, ⟨t2, o2⟩, ⟨t3, o3⟩, ⟨t4, o4⟩⟩ := fields_pp
  rw [cells_pp] at hl
  match cs, hl with
  | [u0, u1, u2, u3, u4], _ =>
    have h0 := struct_each hu h hw 0 f0 rfl (R := rInt) (by rw [t0]; exact opens_int Tryz.underlying3) (by rw [o0, t0, cc_int]; simp)
    have h1 := struct_each hu h hw 1 f1 rfl (R := rInt) (by rw [t1]; exact opens_int Tryz.underlying3) (by rw [o1, t1, cc_int]; simp)
    have h2 := struct_each hu h hw 2 f2 rfl (R := rInt) (by rw [t2]; exact opens_int Tryz.underlying3) (by rw [o2, t2, cc_int]; simp)
    have h3 := struct_each hu h hw 3 f3 rfl (R := (rList rInt 1 8)) (by rw [t3]; exact opens_list Tryz.underlying23 (by decide) (by kernel_rfl) (by kernel_rfl) (opens_int Tryz.underlying3)) (by rw [o3, t3, cc_ints]; simp)
    have h4 := struct_each hu h hw 4 f4 rfl (R := (rList rStr 1 16)) (by rw [t4]; exact opens_list Tryz.underlying27 (by decide) (by kernel_rfl) (by kernel_rfl) (opens_str Tryz.underlying9)) (by rw [o4, t4, cc_strs]; simp)
    rw [t0, o0, cc_int] at h0
    rw [t1, o1, cc_int] at h1
    rw [t2, o2, cc_int] at h2
    rw [t3, o3, cc_ints] at h3
    rw [t4, o4, cc_strs] at h4
    obtain ⟨x0, e0, g0⟩ := h0
    obtain ⟨x1, e1, g1⟩ := h1
    obtain ⟨x2, e2, g2⟩ := h2
    obtain ⟨x3, A3, n3, c3, e3, g3⟩ := h3
    obtain ⟨x4, A4, n4, c4, e4, g4⟩ := h4
    simp only [List.drop_zero, List.take_succ_cons, List.take_zero, List.cons.injEq, and_true, List.drop_succ_cons] at e0 e1 e2 e3 e4
    exact ⟨⟨x0, x1, x2, x3, x4⟩, A3, n3, c3, A4, n4, c4, by rw [e0, e1, e2, e3, e4], g3, g4, g0, g1, g2⟩
set_option maxRecDepth 100000 in
/-- A struct that is an argument, opened. -/
theorem open_rec {H : Type} {enc : TypeId × Value → H} {W : World} {α : Type} {R : Rdg α} {t : TypeId} {fs : Array Field} {r : Reach} {b0 : Nat} {v : Value} {d : DataW H} {ps : List MemPlace} (hu : Tryz.prog.underlying t = some (.struct fs)) (hR : Opens enc Tryz.prog W t R) (hval : Value.okWide Tryz.prog W r b0 t v) (hd : DataW.Trod enc Tryz.prog W 0 (fun _ => true) true t v d ps) (hw : ∀ m ∈ d.weights Tryz.prog t, m ≤ reachBytes) :
    ∃ (cs : List Value) (x : α), v = .agg cs.toArray ∧ R W cs x := by
  obtain ⟨cs, rfl, hsz⟩ := okWide_struct hu hval
  obtain ⟨fuel, hf⟩ := hd
  obtain ⟨l⟩ := cs
  obtain ⟨x, hx⟩ := hR l d ps fuel hf hw (by simpa using hsz)
  exact ⟨l, x, rfl, hx⟩
theorem en_struct : ∃ fs, Tryz.prog.underlying 33 = some (.struct fs) := ⟨_, Tryz.underlying33⟩
theorem pp_struct : ∃ fs, Tryz.prog.underlying 40 = some (.struct fs) := ⟨_, Tryz.underlying40⟩
end Go.Proofs.YtfonbliomokffaaGreat
