/- x[k:], x[:k] of byte slices and of arrays of bytes, as laws at the operation. Proved for any program. -/
import Derived.Test.YtboglaokdgnpaaaA1
namespace Go.Proofs.Ytboglaokdgnpaaa
open Go Go.RowKit Gf

/-- The address of x[k:]. -/
def cutA (A : Option Addr) (c k : Nat) : Option Addr := if c = k then A else A.map (·.add k)
/-- The bytes lie in no block of S. -/
def FarB (A : Option Addr) (n : Nat) (S : Nat → Prop) : Prop := ∀ g o, 0 < n → A = some ⟨g, o, none⟩ → ¬ S g
theorem BS.kpf {w w' : World} {A : Option Addr} {n c : Nat} {l : List UInt8} {S : Nat → Prop} (h : BS w A n c l) (hk : Kp S w w') (hf : FarB A n S) : BS w' A n c l :=
 ⟨h.1, h.2.1, h.2.2.1, fun k hk2 => by
  obtain ⟨g, o, e, hc⟩ := h.2.2.2 k hk2
  exact ⟨g, o, e, hk.cell hc (hf g o (by omega) e)⟩⟩
theorem FarB.cut {w : World} {A : Option Addr} {n c : Nat} {l : List UInt8} {S : Nat → Prop} (h : BS w A n c l) (hf : FarB A n S) {k : Nat} (hk : k ≤ n) : FarB (cutA A c k) (n - k) S := by
 intro g o hn e
 have h2 := h.2.1
 obtain ⟨g0, o0, rfl, _⟩ := h.2.2.2 0 (by omega)
 unfold cutA at e
 rw [if_neg (by omega), Option.map_some, addr_add] at e
 cases e
 exact hf _ _ (by omega) rfl
theorem FarB.pre {A : Option Addr} {n : Nat} {S : Nat → Prop} (hf : FarB A n S) {k : Nat} (hk : k ≤ n) : FarB A k S := fun g o hn e => hf g o (by omega) e
/-- What is old lies in no new block. -/
theorem BS.far_new {w : World} {A : Option Addr} {n c : Nat} {l : List UInt8} (h : BS w A n c l) {S : Nat → Prop} (hS : ∀ k, S k → w.heap.size ≤ k) : FarB A n S := fun g o hn e hs => by
 obtain ⟨g0, o0, e0, hc⟩ := h.2.2.2 0 hn
 rw [e] at e0
 cases e0
 have h1 := cell_lt hc
 have h2 := hS g hs
 simp at h1
 omega
theorem BS.cut {w : World} {A : Option Addr} {n c : Nat} {l : List UInt8} (h : BS w A n c l) {k : Nat} (hk : k ≤ n) : BS w (cutA A c k) (n - k) (c - k) (l.drop k) := by
 obtain ⟨h1, h2, h3, h4⟩ := h
 refine ⟨by simp [h1], by omega, by omega, fun j hj => ?_⟩
 obtain ⟨g, o, rfl, hc⟩ := h4 (k + j) (by omega)
 refine ⟨g, o + k, ?_, ?_⟩
 ·
  unfold cutA
  rw [if_neg (by omega), Option.map_some, addr_add]
 ·
  rw [Nat.add_assoc, hc]
  show some (B (gB l (k + j))) = some (B (gB (l.drop k) j))
  rw [gB, gB, List.getD_eq_getElem?_getD, List.getD_eq_getElem?_getD, List.getElem?_drop]
theorem BS.pre {w : World} {A : Option Addr} {n c : Nat} {l : List UInt8} (h : BS w A n c l) {k : Nat} (hk : k ≤ n) : BS w A k c (l.take k) := by
 obtain ⟨h1, h2, h3, h4⟩ := h
 refine ⟨by simp [h1]; omega, by omega, by omega, fun j hj => ?_⟩
 obtain ⟨g, o, rfl, hc⟩ := h4 j (by omega)
 refine ⟨g, o, rfl, ?_⟩
 rw [hc]
 show some (B (gB l j)) = some (B (gB (l.take k) j))
 rw [gB, gB, List.getD_eq_getElem?_getD, List.getD_eq_getElem?_getD, List.getElem?_take_of_lt hj]

section
variable {P : Program} (w : World) {ops : Array Oper} {rest : List Oper} {o : Oper} {a : Act} {Q : Exit → Act → World → Prop}

theorem one_size {te : TypeId} (hsz : (match P.info? te with | some i => i.size == 1 | none => false) = true) : (sizeOf te).run P w = .ok 1 w := by
 cases hi : P.info? te with
 | none => simp [hi] at hsz
 | some i => simp [hi] at hsz; simp [sizeOf, typeInfo, hi, hsz]

/-- x[k:] of a slice of one-cell elements. -/
theorem wpList_cut (hg : o.guard = none) (s lo : Operand) (ty te : TypeId) (hop : o.op = .slice ty s (some lo) none none) (hu : P.underlying ty = some (.slice te)) (hsz : (match P.info? te with | some i => i.size == 1 | none => false) = true)
  (A : Option Addr) (n c k : Nat) (z : Int) (hs : a.eval s = .slice A n c) (hlo : a.eval lo = .int .i64 z) (hz : z = (k : Int)) (hk : k ≤ n)
  (h : wpList P ops Q rest (a.put o.dst (.slice (cutA A c k) (n - k) (c - k))) w) : wpList P ops Q (o :: rest) a w :=
 wpList_plain hg fun K hK => by
  subst hz
  have h2 := one_size (P := P) w hsz
  unfold Oper.wp execOp
  simp only [hop, Option.map_some, Option.map_none, hs, hlo]
  simp [Instr.sliceAt, Instr.slice, run_underlying hu, Instr.sliceBounds, Instr.sliceBound, asIntOf, hk, h2, Result.andThen]
  exact hK _ _ h

/-- p[k:] of a pointer to an array of one-cell elements. -/
theorem wpList_cutarr (hg : o.guard = none) (s lo : Operand) (ty te : TypeId) (m : Nat) (hop : o.op = .slice ty s (some lo) none none) (hu : P.underlying ty = some (.array m te)) (hsz : (match P.info? te with | some i => i.size == 1 | none => false) = true)
  (g p k : Nat) (z : Int) (hs : a.eval s = .pointer (some ⟨g, p, none⟩)) (hlo : a.eval lo = .int .i64 z) (hz : z = (k : Int)) (hk : k < m)
  (h : wpList P ops Q rest (a.put o.dst (.slice (some ⟨g, p + k, none⟩) (m - k) (m - k))) w) : wpList P ops Q (o :: rest) a w :=
 wpList_plain hg fun K hK => by
  subst hz
  have h2 := one_size (P := P) w hsz
  unfold Oper.wp execOp
  simp only [hop, Option.map_some, Option.map_none, hs, hlo]
  simp [Instr.sliceAt, run_underlying hu, Instr.sureAddr, Instr.sliceBounds, Instr.sliceBound, asIntOf, Nat.le_of_lt hk, h2, Result.andThen, addr_add, show ¬ m = k by omega]
  exact hK _ _ h
end
end Go.Proofs.Ytboglaokdgnpaaa
