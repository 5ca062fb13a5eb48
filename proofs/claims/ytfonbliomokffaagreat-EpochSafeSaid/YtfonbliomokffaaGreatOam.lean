/- A list of acts opened. -/
import Derived.Test.YtfonbliomokffaaGreatC23
import Derived.Test.YtfonbliomokffaaGreatZjm
namespace Go.Proofs.YtfonbliomokffaaGreat
open Go Go.ChangeShapes Go.WideShapes Go.ChangeAt Go.RowKit Gf Sha

def rU8 : Rdg UInt8 := fun _ cs b => cs = [B b]
theorem cc_u8 : Tryz.prog.cellsOf 5 = 1 := by kernel_rfl
theorem opens_u8 {H : Type} {enc : TypeId × Value → H} {W : World} : Opens enc Tryz.prog W 5 rU8 := fun cs d ps n h hw _ => by
 obtain ⟨z, e1, _, h3⟩ := DataW.trod_int Tryz.underlying5 h
 refine ⟨UInt8.ofNat z.toNat, ?_⟩
 rw [e1]
 show [Value.int IntKind.u8 z] = [Value.int IntKind.u8 (bv (UInt8.ofNat z.toNat))]
 rw [byte_of h3]
theorem fields_ac : ∃ f0 f1 f2 f3 : Field, Tryz.prog.underlying 55 = some (.struct #[f0, f1, f2, f3]) ∧ (f0.type = 3 ∧ f0.offset = 0) ∧ (f1.type = 3 ∧ f1.offset = 1) ∧ (f2.type = 3 ∧ f2.offset = 2) ∧ (f3.type = 5 ∧ f3.offset = 3) := ⟨_, _, _, _, Tryz.underlying55, ⟨rfl, rfl⟩, ⟨rfl, rfl⟩, ⟨rfl, rfl⟩, ⟨rfl, rfl⟩⟩
theorem cells_ac : Tryz.prog.cellsOf 55 = 4 := by kernel_rfl
set_option maxRecDepth 100000 in
theorem opens_ac {H : Type} {enc : TypeId × Value → H} {W : World} : Opens enc Tryz.prog W 55 rAc := fun cs d ps n h hw hl => by
 obtain ⟨f0, f1, f2, f3, hu, ⟨t0, o0⟩, ⟨t1, o1⟩, ⟨t2, o2⟩, ⟨t3, o3⟩⟩ := fields_ac
 rw [cells_ac] at hl
 match cs, hl with
 | [u0, u1, u2, u3], _ =>
  have h0 := struct_each hu h hw 0 f0 rfl (R := rInt) (by rw [t0]; exact opens_int Tryz.underlying3) (by rw [o0, t0, cc_int]; simp)
  have h1 := struct_each hu h hw 1 f1 rfl (R := rInt) (by rw [t1]; exact opens_int Tryz.underlying3) (by rw [o1, t1, cc_int]; simp)
  have h2 := struct_each hu h hw 2 f2 rfl (R := rInt) (by rw [t2]; exact opens_int Tryz.underlying3) (by rw [o2, t2, cc_int]; simp)
  have h3 := struct_each hu h hw 3 f3 rfl (R := rU8) (by rw [t3]; exact opens_u8) (by rw [o3, t3, cc_u8]; simp)
  rw [t0, o0, cc_int] at h0
  rw [t1, o1, cc_int] at h1
  rw [t2, o2, cc_int] at h2
  rw [t3, o3, cc_u8] at h3
  obtain ⟨x0, e0, g0⟩ := h0
  obtain ⟨x1, e1, g1⟩ := h1
  obtain ⟨x2, e2, g2⟩ := h2
  obtain ⟨x3, e3⟩ := h3
  simp only [rU8, List.drop_zero, List.take_succ_cons, List.take_zero, List.cons.injEq, and_true, List.drop_succ_cons] at e0 e1 e2 e3
  exact ⟨⟨x0, x1, x2, x3⟩, by rw [e0, e1, e2, e3], g0, g1, g2⟩
end Go.Proofs.YtfonbliomokffaaGreat
