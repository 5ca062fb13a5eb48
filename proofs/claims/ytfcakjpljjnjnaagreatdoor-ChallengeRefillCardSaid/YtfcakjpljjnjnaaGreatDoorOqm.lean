/- Arguments of the types of ChallengeRefill opened. -/
import Derived.Test.YtfcakjpljjnjnaaGreatDoorLRfm
import Derived.Test.YtfcakjpljjnjnaaGreatDoorC22
namespace Go.Proofs.YtfcakjpljjnjnaaGreatDoor
open Go Go.ChangeShapes Go.WideShapes Go.ChangeAt Go.RowKit Gf Sha

theorem cc_str : Tryz.prog.cellsOf 9 = 1 := by kernel_rfl
theorem cc_int : Tryz.prog.cellsOf 3 = 1 := by kernel_rfl
theorem cc_strs : Tryz.prog.cellsOf 46 = 1 := by kernel_rfl
theorem cc_refs : Tryz.prog.cellsOf 24 = 1 := by kernel_rfl
theorem cc_bytes : Tryz.prog.cellsOf 39 = 1 := by kernel_rfl
theorem cc_pc : Tryz.prog.cellsOf 31 = 2 := by kernel_rfl
theorem fields_rf : ∃ f0 f1 f2 : Field, Tryz.prog.underlying 44 = some (.struct #[f0, f1, f2]) ∧ (f0.type = 9 ∧ f0.offset = 0) ∧ (f1.type = 3 ∧ f1.offset = 1) ∧ (f2.type = 3 ∧ f2.offset = 2) := ⟨_, _, _, Tryz.underlying44, ⟨rfl, rfl⟩, ⟨rfl, rfl⟩, ⟨rfl, rfl⟩⟩
theorem cells_rf : Tryz.prog.cellsOf 44 = 3 := by kernel_rfl
set_option maxRecDepth 100000 in
theorem opens_rf {H : Type} {enc : TypeId × Value → H} {W : World} : Opens enc Tryz.prog W 44 rRf := fun cs d ps n h hw hl => by
 obtain ⟨f0, f1, f2, hu, ⟨t0, o0⟩, ⟨t1, o1⟩, ⟨t2, o2⟩⟩ := fields_rf
 rw [cells_rf] at hl
 match cs, hl with
 | [u0, u1, u2], _ =>
  have h0 := struct_each hu h hw 0 f0 rfl (R := rStr) (by rw [t0]; exact opens_str Tryz.underlying9) (by rw [o0, t0, cc_str]; simp)
  have h1 := struct_each hu h hw 1 f1 rfl (R := rInt) (by rw [t1]; exact opens_int Tryz.underlying3) (by rw [o1, t1, cc_int]; simp)
  have h2 := struct_each hu h hw 2 f2 rfl (R := rInt) (by rw [t2]; exact opens_int Tryz.underlying3) (by rw [o2, t2, cc_int]; simp)
  rw [t0, o0, cc_str] at h0
  rw [t1, o1, cc_int] at h1
  rw [t2, o2, cc_int] at h2
  obtain ⟨x0, e0, g0⟩ := h0
  obtain ⟨x1, e1, g1⟩ := h1
  obtain ⟨x2, e2, g2⟩ := h2
  simp only [List.drop_zero, List.take_succ_cons, List.take_zero, List.cons.injEq, and_true, List.drop_succ_cons] at e0 e1 e2
  exact ⟨(x0, x1, x2), by rw [e0, e1, e2]; rfl, g0, g1, g2⟩
theorem fields_pc : ∃ f0 f1 : Field, Tryz.prog.underlying 31 = some (.struct #[f0, f1]) ∧ (f0.type = 9 ∧ f0.offset = 0) ∧ (f1.type = 3 ∧ f1.offset = 1) := ⟨_, _, Tryz.underlying31, ⟨rfl, rfl⟩, ⟨rfl, rfl⟩⟩
theorem cells_pc : Tryz.prog.cellsOf 31 = 2 := by kernel_rfl
set_option maxRecDepth 100000 in
theorem opens_pc {H : Type} {enc : TypeId × Value → H} {W : World} : Opens enc Tryz.prog W 31 rPc := fun cs d ps n h hw hl => by
 obtain ⟨f0, f1, hu, ⟨t0, o0⟩, ⟨t1, o1⟩⟩ := fields_pc
 rw [cells_pc] at hl
 match cs, hl with
 | [u0, u1], _ =>
  have h0 := struct_each hu h hw 0 f0 rfl (R := rStr) (by rw [t0]; exact opens_str Tryz.underlying9) (by rw [o0, t0, cc_str]; simp)
  have h1 := struct_each hu h hw 1 f1 rfl (R := rInt) (by rw [t1]; exact opens_int Tryz.underlying3) (by rw [o1, t1, cc_int]; simp)
  rw [t0, o0, cc_str] at h0
  rw [t1, o1, cc_int] at h1
  obtain ⟨x0, e0, g0⟩ := h0
  obtain ⟨x1, e1, g1⟩ := h1
  simp only [List.drop_zero, List.take_succ_cons, List.take_zero, List.cons.injEq, and_true, List.drop_succ_cons] at e0 e1
  exact ⟨(x0, x1), by rw [e0, e1]; rfl, g0, g1⟩
theorem fields_sp : ∃ f0 f1 f2 f3 f4 f5 : Field, Tryz.prog.underlying 26 = some (.struct #[f0, f1, f2, f3, f4, f5]) ∧ (f0.type = 9 ∧ f0.offset = 0) ∧ (f1.type = 3 ∧ f1.offset = 1) ∧ (f2.type = 3 ∧ f2.offset = 2) ∧ (f3.type = 3 ∧ f3.offset = 3) ∧ (f4.type = 3 ∧ f4.offset = 4) ∧ (f5.type = 24 ∧ f5.offset = 5) := ⟨_, _, _, _, _, _, Tryz.underlying26, ⟨rfl, rfl⟩, ⟨rfl, rfl⟩, ⟨rfl, rfl⟩, ⟨rfl, rfl⟩, ⟨rfl, rfl⟩, ⟨rfl, rfl⟩⟩
theorem cells_sp : Tryz.prog.cellsOf 26 = 6 := by kernel_rfl
set_option maxRecDepth 100000 in
theorem opens_sp {H : Type} {enc : TypeId × Value → H} {W : World} : Opens enc Tryz.prog W 26 rSp := fun cs d ps n h hw hl => by
 obtain ⟨f0, f1, f2, f3, f4, f5, hu, ⟨t0, o0⟩, ⟨t1, o1⟩, ⟨t2, o2⟩, ⟨t3, o3⟩, ⟨t4, o4⟩, ⟨t5, o5⟩⟩ := fields_sp
 rw [cells_sp] at hl
 match cs, hl with
 | [u0, u1, u2, u3, u4, u5], _ =>
  have h0 := struct_each hu h hw 0 f0 rfl (R := rStr) (by rw [t0]; exact opens_str Tryz.underlying9) (by rw [o0, t0, cc_str]; simp)
  have h1 := struct_each hu h hw 1 f1 rfl (R := rInt) (by rw [t1]; exact opens_int Tryz.underlying3) (by rw [o1, t1, cc_int]; simp)
  have h2 := struct_each hu h hw 2 f2 rfl (R := rInt) (by rw [t2]; exact opens_int Tryz.underlying3) (by rw [o2, t2, cc_int]; simp)
  have h3 := struct_each hu h hw 3 f3 rfl (R := rInt) (by rw [t3]; exact opens_int Tryz.underlying3) (by rw [o3, t3, cc_int]; simp)
  have h4 := struct_each hu h hw 4 f4 rfl (R := rInt) (by rw [t4]; exact opens_int Tryz.underlying3) (by rw [o4, t4, cc_int]; simp)
  have h5 := struct_each hu h hw 5 f5 rfl (R := (rList rRf 3 32)) (by rw [t5]; exact opens_list Tryz.underlying24 (by decide) (by kernel_rfl) (by kernel_rfl) opens_rf) (by rw [o5, t5, cc_refs]; simp)
  rw [t0, o0, cc_str] at h0
  rw [t1, o1, cc_int] at h1
  rw [t2, o2, cc_int] at h2
  rw [t3, o3, cc_int] at h3
  rw [t4, o4, cc_int] at h4
  rw [t5, o5, cc_refs] at h5
  obtain ⟨x0, e0, g0⟩ := h0
  obtain ⟨x1, e1, g1⟩ := h1
  obtain ⟨x2, e2, g2⟩ := h2
  obtain ⟨x3, e3, g3⟩ := h3
  obtain ⟨x4, e4, g4⟩ := h4
  obtain ⟨x5, A5, n5, c5, e5, g5⟩ := h5
  simp only [List.drop_zero, List.take_succ_cons, List.take_zero, List.cons.injEq, and_true, List.drop_succ_cons] at e0 e1 e2 e3 e4 e5
  exact ⟨⟨x0, x1, x2, x3, x4, x5⟩, A5, n5, c5, by rw [e0, e1, e2, e3, e4, e5], g5, g0, g1, g2, g3, g4⟩
theorem LS.to_ts {w : World} {A : Option Addr} {n c : Nat} {m : List (List UInt8)} (h : LS rStr 1 16 w A n c m) : TS w A n c m :=
 ⟨h.1, h.2.1, h.2.2.1, fun k hk => by
  have hk' : k < m.length := by rw [h.1]; exact hk
  obtain ⟨g, o, cs, e, hat, hr⟩ := h.2.2.2 k hk'
  refine ⟨g, o, e, ?_⟩
  have e9 : cs = [.string (strB m[k])] := hr.1
  rw [e9, Nat.mul_one] at hat
  show w.cell? _ = some (.string (strB (gR m k)))
  rw [gR_eq hk']
  exact hat 0 _ rfl⟩
theorem fields_pe : ∃ f0 f1 f2 : Field, Tryz.prog.underlying 48 = some (.struct #[f0, f1, f2]) ∧ (f0.type = 31 ∧ f0.offset = 0) ∧ (f1.type = 39 ∧ f1.offset = 2) ∧ (f2.type = 46 ∧ f2.offset = 3) := ⟨_, _, _, Tryz.underlying48, ⟨rfl, rfl⟩, ⟨rfl, rfl⟩, ⟨rfl, rfl⟩⟩
theorem cells_pe : Tryz.prog.cellsOf 48 = 4 := by kernel_rfl
set_option maxRecDepth 100000 in
theorem opens_pe {H : Type} {enc : TypeId × Value → H} {W : World} : Opens enc Tryz.prog W 48 rPe := fun cs d ps n h hw hl => by
 obtain ⟨f0, f1, f2, hu, ⟨t0, o0⟩, ⟨t1, o1⟩, ⟨t2, o2⟩⟩ := fields_pe
 rw [cells_pe] at hl
 match cs, hl with
 | [u0, u1, u2, u3], _ =>
  have h0 := struct_each hu h hw 0 f0 rfl (R := rPc) (by rw [t0]; exact opens_pc) (by rw [o0, t0, cc_pc]; simp)
  have h1 := struct_each hu h hw 1 f1 rfl (R := rBytes) (by rw [t1]; exact opens_bytes Tryz.underlying39 Tryz.underlying5 (by kernel_rfl) (by kernel_rfl)) (by rw [o1, t1, cc_bytes]; simp)
  have h2 := struct_each hu h hw 2 f2 rfl (R := (rList rStr 1 16)) (by rw [t2]; exact opens_list Tryz.underlying46 (by decide) (by kernel_rfl) (by kernel_rfl) (opens_str Tryz.underlying9)) (by rw [o2, t2, cc_strs]; simp)
  rw [t0, o0, cc_pc] at h0
  rw [t1, o1, cc_bytes] at h1
  rw [t2, o2, cc_strs] at h2
  obtain ⟨x0, e0, g0⟩ := h0
  obtain ⟨x1, A1, n1, c1, e1, g1⟩ := h1
  obtain ⟨x2, A2, n2, c2, e2, g2⟩ := h2
  simp only [pcC, List.drop_zero, List.take_succ_cons, List.take_zero, List.cons.injEq, and_true, List.drop_succ_cons] at e0 e1 e2
  exact ⟨⟨x0.1, x0.2, x1, x2⟩, A1, n1, c1, A2, n2, c2, by rw [e0.1, e0.2, e1, e2], g1, LS.to_ts g2, g0⟩
set_option maxRecDepth 100000 in
/-- A struct that is an argument, opened. -/
theorem open_rec {H : Type} {enc : TypeId × Value → H} {W : World} {α : Type} {R : Rdg α} {t : TypeId} {fs : Array Field} {r : Reach} {b0 : Nat} {v : Value} {d : DataW H} {ps : List MemPlace} (hu : Tryz.prog.underlying t = some (.struct fs)) (hR : Opens enc Tryz.prog W t R) (hval : Value.okWide Tryz.prog W r b0 t v) (hd : DataW.Trod enc Tryz.prog W 0 (fun _ => true) true t v d ps) (hw : ∀ m ∈ d.weights Tryz.prog t, m ≤ reachBytes) :
  ∃ (cs : List Value) (x : α), v = .agg cs.toArray ∧ R W cs x := by
 obtain ⟨cs, rfl, hsz⟩ := okWide_struct hu hval
 obtain ⟨fuel, hf⟩ := hd
 obtain ⟨l⟩ := cs
 obtain ⟨x, hx⟩ := hR l d ps fuel hf hw (by simpa using hsz)
 exact ⟨l, x, rfl, hx⟩
theorem sp_struct : ∃ fs, Tryz.prog.underlying 26 = some (.struct fs) := ⟨_, Tryz.underlying26⟩
theorem opens_pes {H : Type} {enc : TypeId × Value → H} {W : World} : Opens enc Tryz.prog W 27 (rList rPe 4 72) := opens_list Tryz.underlying27 (by decide) (by kernel_rfl) (by kernel_rfl) opens_pe
end Go.Proofs.YtfcakjpljjnjnaaGreatDoor
