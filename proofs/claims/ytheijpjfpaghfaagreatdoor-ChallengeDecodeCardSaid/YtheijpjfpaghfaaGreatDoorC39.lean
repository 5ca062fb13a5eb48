/- Several texts in one: LawOpen45. -/
import Derived.Test.YtheijpjfpaghfaaGreatDoorC19
import Derived.Test.YtheijpjfpaghfaaGreatDoorC10
/- Arguments opened: keys and piece ids. -/
namespace Go.Proofs.YtheijpjfpaghfaaGreatDoor
open Go Go.ChangeShapes Go.WideShapes Go.ChangeAt Go.RowKit Gf Sha

section
variable {H : Type} {enc : TypeId × Value → H} {W : World} {base b0 : Nat} {sp : Nat → Bool} {held : Bool} {r : Reach}
theorem str_val {P : Program} {t : TypeId} {fuel : Nat} {v : Value} {x : DataW H × List MemPlace} (ht : P.underlying t = some .string) (h : DataW.trod enc P W base sp held fuel t [v] = some x) : ∃ l : List UInt8, v = .string (strB l) := by
  obtain ⟨s, e, _, _⟩ := DataW.trod_string ht h
  simp only [List.cons.injEq, and_true] at e
  exact ⟨s.data.toList, by rw [e, strB_of]⟩
theorem int_val {P : Program} {t : TypeId} {fuel : Nat} {v : Value} {x : DataW H × List MemPlace} (ht : P.underlying t = some (.int .i64)) (h : DataW.trod enc P W base sp held fuel t [v] = some x) : ∃ z : Int, v = .int .i64 z ∧ (Lit.int .i64 z).wf = true := by
  obtain ⟨z, e, _, hw⟩ := DataW.trod_int ht h
  simp only [List.cons.injEq, and_true] at e
  exact ⟨z, e, hw⟩
theorem pidFields : ∃ f0 f1 : Field, Tryz.prog.underlying 39 = some (.struct #[f0, f1]) ∧ (f0.type = 9 ∧ f0.offset = 0) ∧ (f1.type = 3 ∧ f1.offset = 1) := ⟨_, _, Tryz.underlying39, ⟨rfl, rfl⟩, ⟨rfl, rfl⟩⟩
theorem c_str : Tryz.prog.cellsOf 9 = 1 := by kernel_rfl
theorem c_int : Tryz.prog.cellsOf 3 = 1 := by kernel_rfl
theorem c_pid : Tryz.prog.cellsOf 39 = 2 := by kernel_rfl
theorem c_keys : Tryz.prog.cellsOf 68 = 5 := by kernel_rfl
set_option maxRecDepth 100000 in
theorem open_pid {v : Value} {d : DataW H} {ps : List MemPlace} (hval : Value.okWide Tryz.prog W r b0 39 v) (hd : DataW.Trod enc Tryz.prog W base sp held 39 v d ps) :
    ∃ (l : List UInt8) (a : Int), v = .agg #[.string (strB l), .int .i64 a] ∧ (Lit.int .i64 a).wf = true := by
  obtain ⟨f0, f1, hu, ⟨t0, o0⟩, ⟨t1, o1⟩⟩ := pidFields
  obtain ⟨cs, rfl, hsz⟩ := okWide_struct hu hval
  obtain ⟨fuel, hf⟩ := hd
  obtain ⟨xs, m, rfl, hx, hl, hn, hel⟩ := DataW.trod_struct hu hf
  rw [c_pid] at hsz
  obtain ⟨l⟩ := cs
  match l, hsz with
  | [u0, u1], _ =>
    have h0 := hel 0 f0 rfl
    have h1 := hel 1 f1 rfl
    rw [t0, o0, c_str] at h0
    rw [t1, o1, c_int] at h1
    have hxl : xs.length = 2 := hn
    rw [List.getElem?_eq_getElem (by omega)] at h0 h1
    obtain ⟨l, rfl⟩ := str_val Tryz.underlying9 (v := u0) h0
    obtain ⟨a, rfl, hw⟩ := int_val Tryz.underlying3 (v := u1) h1
    exact ⟨l, a, rfl, hw⟩
theorem keyFields : ∃ f0 f1 f2 f3 f4 : Field, Tryz.prog.underlying 68 = some (.struct #[f0, f1, f2, f3, f4]) ∧ (f0.type = 9 ∧ f0.offset = 0) ∧ (f1.type = 9 ∧ f1.offset = 1) ∧ (f2.type = 9 ∧ f2.offset = 2) ∧ (f3.type = 9 ∧ f3.offset = 3) ∧ (f4.type = 9 ∧ f4.offset = 4) := ⟨_, _, _, _, _, Tryz.underlying68, ⟨rfl, rfl⟩, ⟨rfl, rfl⟩, ⟨rfl, rfl⟩, ⟨rfl, rfl⟩, ⟨rfl, rfl⟩⟩
set_option maxRecDepth 100000 in
theorem open_keys {v : Value} {d : DataW H} {ps : List MemPlace} (hval : Value.okWide Tryz.prog W r b0 68 v) (hd : DataW.Trod enc Tryz.prog W base sp held 68 v d ps) :
    ∃ K : Ky, v = K.val ∧ True := by
  obtain ⟨f0, f1, f2, f3, f4, hu, ⟨t0, o0⟩, ⟨t1, o1⟩, ⟨t2, o2⟩, ⟨t3, o3⟩, ⟨t4, o4⟩⟩ := keyFields
  obtain ⟨cs, rfl, hsz⟩ := okWide_struct hu hval
  obtain ⟨fuel, hf⟩ := hd
  obtain ⟨xs, m, rfl, hx, hl, hn, hel⟩ := DataW.trod_struct hu hf
  rw [c_keys] at hsz
  obtain ⟨l⟩ := cs
  match l, hsz with
  | [u0, u1, u2, u3, u4], _ =>
    have h0 := hel 0 f0 rfl
    have h1 := hel 1 f1 rfl
    have h2 := hel 2 f2 rfl
    have h3 := hel 3 f3 rfl
    have h4 := hel 4 f4 rfl
    rw [t0, o0, c_str] at h0
    rw [t1, o1, c_str] at h1
    rw [t2, o2, c_str] at h2
    rw [t3, o3, c_str] at h3
    rw [t4, o4, c_str] at h4
    have hxl : xs.length = 5 := hn
    rw [List.getElem?_eq_getElem (by omega)] at h0 h1 h2 h3 h4
    obtain ⟨l0, rfl⟩ := str_val Tryz.underlying9 (v := u0) h0
    obtain ⟨l1, rfl⟩ := str_val Tryz.underlying9 (v := u1) h1
    obtain ⟨l2, rfl⟩ := str_val Tryz.underlying9 (v := u2) h2
    obtain ⟨l3, rfl⟩ := str_val Tryz.underlying9 (v := u3) h3
    obtain ⟨l4, rfl⟩ := str_val Tryz.underlying9 (v := u4) h4
    exact ⟨⟨l0, l1, l2, l3, l4⟩, rfl, trivial⟩
end
end Go.Proofs.YtheijpjfpaghfaaGreatDoor
