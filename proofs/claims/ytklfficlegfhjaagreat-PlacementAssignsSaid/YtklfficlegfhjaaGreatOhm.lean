/- Arguments of the types of chapter 34 opened. -/
import Derived.Test.YtklfficlegfhjaaGreatC6
import Derived.Test.YtklfficlegfhjaaGreatC2
namespace Go.Proofs.YtklfficlegfhjaaGreat
open Go Go.ChangeShapes Go.WideShapes Go.ChangeAt Go.RowKit Gf Sha

theorem cc_str : Tryz.prog.cellsOf 9 = 1 := by kernel_rfl
theorem cc_int : Tryz.prog.cellsOf 3 = 1 := by kernel_rfl
theorem cc_pi : Tryz.prog.cellsOf 78 = 2 := by kernel_rfl
theorem fields_wt : ∃ f0 f1 f2 f3 : Field, Tryz.prog.underlying 74 = some (.struct #[f0, f1, f2, f3]) ∧ (f0.type = 9 ∧ f0.offset = 0) ∧ (f1.type = 3 ∧ f1.offset = 1) ∧ (f2.type = 3 ∧ f2.offset = 2) ∧ (f3.type = 3 ∧ f3.offset = 3) := ⟨_, _, _, _, Tryz.underlying74, ⟨rfl, rfl⟩, ⟨rfl, rfl⟩, ⟨rfl, rfl⟩, ⟨rfl, rfl⟩⟩
theorem cells_wt : Tryz.prog.cellsOf 74 = 4 := by kernel_rfl
set_option maxRecDepth 100000 in
theorem opens_wt {H : Type} {enc : TypeId × Value → H} {W : World} : Opens enc Tryz.prog W 74 rWt := fun cs d ps n h hw hl => by
 obtain ⟨f0, f1, f2, f3, hu, ⟨t0, o0⟩, ⟨t1, o1⟩, ⟨t2, o2⟩, ⟨t3, o3⟩⟩ := fields_wt
 rw [cells_wt] at hl
 match cs, hl with
 | [u0, u1, u2, u3], _ =>
  have h0 := struct_each hu h hw 0 f0 rfl (R := rStr) (by rw [t0]; exact opens_str Tryz.underlying9) (by rw [o0, t0, cc_str]; simp)
  have h1 := struct_each hu h hw 1 f1 rfl (R := rInt) (by rw [t1]; exact opens_int Tryz.underlying3) (by rw [o1, t1, cc_int]; simp)
  have h2 := struct_each hu h hw 2 f2 rfl (R := rInt) (by rw [t2]; exact opens_int Tryz.underlying3) (by rw [o2, t2, cc_int]; simp)
  have h3 := struct_each hu h hw 3 f3 rfl (R := rInt) (by rw [t3]; exact opens_int Tryz.underlying3) (by rw [o3, t3, cc_int]; simp)
  rw [t0, o0, cc_str] at h0
  rw [t1, o1, cc_int] at h1
  rw [t2, o2, cc_int] at h2
  rw [t3, o3, cc_int] at h3
  obtain ⟨x0, e0, g0⟩ := h0
  obtain ⟨x1, e1, g1⟩ := h1
  obtain ⟨x2, e2, g2⟩ := h2
  obtain ⟨x3, e3, g3⟩ := h3
  simp only [List.drop_zero, List.take_succ_cons, List.take_zero, List.cons.injEq, and_true, List.drop_succ_cons] at e0 e1 e2 e3
  exact ⟨⟨x0, x1, x2, x3⟩, by rw [e0, e1, e2, e3], g0, g1, g2, g3⟩
theorem fields_hd : ∃ f0 f1 f2 : Field, Tryz.prog.underlying 76 = some (.struct #[f0, f1, f2]) ∧ (f0.type = 3 ∧ f0.offset = 0) ∧ (f1.type = 3 ∧ f1.offset = 1) ∧ (f2.type = 3 ∧ f2.offset = 2) := ⟨_, _, _, Tryz.underlying76, ⟨rfl, rfl⟩, ⟨rfl, rfl⟩, ⟨rfl, rfl⟩⟩
theorem cells_hd : Tryz.prog.cellsOf 76 = 3 := by kernel_rfl
set_option maxRecDepth 100000 in
theorem opens_hd {H : Type} {enc : TypeId × Value → H} {W : World} : Opens enc Tryz.prog W 76 rHd := fun cs d ps n h hw hl => by
 obtain ⟨f0, f1, f2, hu, ⟨t0, o0⟩, ⟨t1, o1⟩, ⟨t2, o2⟩⟩ := fields_hd
 rw [cells_hd] at hl
 match cs, hl with
 | [u0, u1, u2], _ =>
  have h0 := struct_each hu h hw 0 f0 rfl (R := rInt) (by rw [t0]; exact opens_int Tryz.underlying3) (by rw [o0, t0, cc_int]; simp)
  have h1 := struct_each hu h hw 1 f1 rfl (R := rInt) (by rw [t1]; exact opens_int Tryz.underlying3) (by rw [o1, t1, cc_int]; simp)
  have h2 := struct_each hu h hw 2 f2 rfl (R := rInt) (by rw [t2]; exact opens_int Tryz.underlying3) (by rw [o2, t2, cc_int]; simp)
  rw [t0, o0, cc_int] at h0
  rw [t1, o1, cc_int] at h1
  rw [t2, o2, cc_int] at h2
  obtain ⟨x0, e0, g0⟩ := h0
  obtain ⟨x1, e1, g1⟩ := h1
  obtain ⟨x2, e2, g2⟩ := h2
  simp only [List.drop_zero, List.take_succ_cons, List.take_zero, List.cons.injEq, and_true, List.drop_succ_cons] at e0 e1 e2
  exact ⟨⟨x0, x1, x2⟩, by rw [e0, e1, e2], g0, g1, g2⟩
/-- A piece's name. -/
def rPi : Rdg (List UInt8 × Int) := fun _ cs x => cs = [.string (strB x.1), .int .i64 x.2] ∧ x.1.length ≤ reachBytes ∧ wfI x.2
theorem fields_pi : ∃ f0 f1 : Field, Tryz.prog.underlying 78 = some (.struct #[f0, f1]) ∧ (f0.type = 9 ∧ f0.offset = 0) ∧ (f1.type = 3 ∧ f1.offset = 1) := ⟨_, _, Tryz.underlying78, ⟨rfl, rfl⟩, ⟨rfl, rfl⟩⟩
set_option maxRecDepth 100000 in
theorem opens_pi {H : Type} {enc : TypeId × Value → H} {W : World} : Opens enc Tryz.prog W 78 rPi := fun cs d ps n h hw hl => by
 obtain ⟨f0, f1, hu, ⟨t0, o0⟩, ⟨t1, o1⟩⟩ := fields_pi
 rw [cc_pi] at hl
 match cs, hl with
 | [u0, u1], _ =>
  have h0 := struct_each hu h hw 0 f0 rfl (R := rStr) (by rw [t0]; exact opens_str Tryz.underlying9) (by rw [o0, t0, cc_str]; simp)
  have h1 := struct_each hu h hw 1 f1 rfl (R := rInt) (by rw [t1]; exact opens_int Tryz.underlying3) (by rw [o1, t1, cc_int]; simp)
  rw [t0, o0, cc_str] at h0
  rw [t1, o1, cc_int] at h1
  obtain ⟨x0, e0, g0⟩ := h0
  obtain ⟨x1, e1, g1⟩ := h1
  simp only [List.drop_zero, List.take_succ_cons, List.take_zero, List.cons.injEq, and_true, List.drop_succ_cons] at e0 e1
  exact ⟨(x0, x1), by rw [e0, e1], g0, g1⟩
theorem fields_pl : ∃ f0 f1 : Field, Tryz.prog.underlying 85 = some (.struct #[f0, f1]) ∧ (f0.type = 78 ∧ f0.offset = 0) ∧ (f1.type = 3 ∧ f1.offset = 2) := ⟨_, _, Tryz.underlying85, ⟨rfl, rfl⟩, ⟨rfl, rfl⟩⟩
theorem cells_pl : Tryz.prog.cellsOf 85 = 3 := by kernel_rfl
set_option maxRecDepth 100000 in
theorem opens_pl {H : Type} {enc : TypeId × Value → H} {W : World} : Opens enc Tryz.prog W 85 rPl := fun cs d ps n h hw hl => by
 obtain ⟨f0, f1, hu, ⟨t0, o0⟩, ⟨t1, o1⟩⟩ := fields_pl
 rw [cells_pl] at hl
 match cs, hl with
 | [u0, u1, u2], _ =>
  have h0 := struct_each hu h hw 0 f0 rfl (R := rPi) (by rw [t0]; exact opens_pi) (by rw [o0, t0, cc_pi]; simp)
  have h1 := struct_each hu h hw 1 f1 rfl (R := rInt) (by rw [t1]; exact opens_int Tryz.underlying3) (by rw [o1, t1, cc_int]; simp)
  rw [t0, o0, cc_pi] at h0
  rw [t1, o1, cc_int] at h1
  obtain ⟨⟨x0, y0⟩, e0, g0, k0⟩ := h0
  obtain ⟨x1, e1, g1⟩ := h1
  simp only [List.drop_zero, List.take_succ_cons, List.take_zero, List.cons.injEq, and_true, List.drop_succ_cons] at e0 e1
  exact ⟨⟨x0, y0, x1⟩, by rw [e0.1, e0.2, e1], g0, k0, g1⟩
end Go.Proofs.YtklfficlegfhjaaGreat
