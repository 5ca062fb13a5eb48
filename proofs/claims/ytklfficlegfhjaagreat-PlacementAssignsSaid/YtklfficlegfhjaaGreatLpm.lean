/- Memory for insertion: append of slices in drawn regions. -/
import Derived.Test.YtklfficlegfhjaaGreatLem
import Derived.Test.YtklfficlegfhjaaGreatC16
namespace Go.Proofs.YtklfficlegfhjaaGreat
open Go Go.RowKit Gf Sha

def cutM (A : Option Addr) (c k m : Nat) : Option Addr := if c = k then A else A.map (·.add (k * m))
section
variable {P : Program} {w : World} {o : Oper} {a : Act}
theorem exec_cutM (s lo : Operand) (ty te : TypeId) (m : Nat) (hop : o.op = .slice ty s (some lo) none none) (hu : P.underlying ty = some (.slice te)) (h2 : (sizeOf te).run P w = .ok m w)
  (A : Option Addr) (n c k : Nat) (hs : a.eval s = .slice A n c) (hlo : a.eval lo = .int .i64 (k : Int)) (hk : k ≤ n) : (execOp a.eval o).run P w = .ok (.value (.slice (cutM A c k m) (n - k) (c - k))) w := by
 unfold execOp
 simp only [hop, Option.map_some, Option.map_none, hs, hlo]
 simp [Instr.sliceAt, Instr.slice, run_underlying hu, Instr.sliceBounds, Instr.sliceBound, asIntOf, hk, h2, Result.andThen]
 rfl
end
theorem LS.cutM {α : Type} {R : Rdg α} {s b n c : Nat} {w : World} {A : Option Addr} {L : List α} (h : LS R s b w A n c L) {k : Nat} (hk : k ≤ n) : LS R s b w (cutM A c k s) (n - k) (c - k) (L.drop k) := by
 refine ⟨by rw [List.length_drop, h.1], by have := h.2.1; omega, Nat.le_trans (Nat.mul_le_mul_right _ (Nat.sub_le _ _)) h.2.2.1, fun j hj => ?_⟩
 rw [List.length_drop] at hj
 obtain ⟨g', o', cs, e, h1, h2⟩ := h.2.2.2 (k + j) (by omega)
 have hc := h.2.1
 have hl := h.1
 refine ⟨g', o' + k * s, cs, ?_, ?_, ?_⟩
 ·
  unfold Proofs.YtklfficlegfhjaaGreat.cutM
  rw [if_neg (by omega), e, Option.map_some, addr_add]
 ·
  rw [Nat.add_assoc, ← Nat.add_mul]; exact h1
 ·
  rw [List.getElem_drop]; exact h2
theorem low_kp {S : Nat → Prop} {w0 w w' : World} (h : Below w0.heap.size w0 w) (hk : Kp S w w') (hS : ∀ i, i < w0.heap.size → ¬ S i) : Below w0.heap.size w0 w' :=
 ((Kp.of_below (S := fun _ => False) h).after hk (fun i hi e => hS i hi e)).below (Nat.le_refl _) (fun _ h => h.elim)
section
variable {α : Type} {R : Rdg α} {s b m c : Nat} {te t : TypeId} {A : Option Addr} {L M : List α} {P : Program} {w0 : World} (w : World) {o : Oper} {a : Act} {Q : Exit → Act → World → Prop} {K' : Act → World → Prop}
/-- append(r, x...), r a list that is being built; what else stands. -/
theorem wp_appOL2 (sl x : Operand) (i : TypeInfo) (z : Value) (hop : o.op = .call { callee := .builtin .append, args := #[sl, x], argTypes := #[t, t] })
  (ht : P.underlying t = some (.slice te)) (hi : P.info? te = some i) (hz : i.zero = some z) (hs : i.size = s) (hzs : z.cells.size = s) (v : Value) (hv : a.eval sl = v) (ho : OL R s te w0 w v L) (hb : Below w0.heap.size w0 w)
  (hx : a.eval x = .slice A m c) (hM : LS R s b w0 A m c M) (hlen : ∀ cs x, R w0 cs x → cs.length = s) (hone : ∀ cs x, R w0 cs x → ∀ u ∈ cs, u.oneCell' = true) (hsz : (L.length + m) * i.bytes ≤ 140737488355328) (hn : L.length + m ≤ 140737488355328)
  (hK : ∀ v' w', OL R s te w0 w' v' (L ++ M) → Below w0.heap.size w0 w' → Kp (fun i => v.ownBlock = some i) w w' → K' (a.put o.dst v') w') : o.wp P a w K' Q := by
 obtain ⟨css, h1, h2, h3, h4, h5⟩ := ho
 obtain ⟨dss, k1, k2, k3, k4⟩ := hM.src hlen hone ht
 refine wp_appX w sl x t te s i z hop ht hi hz hs hzs v L.length css.flatten hv h4 _ m dss.flatten hx (k4 w hb) hsz hn (fun v' w' ap => hK v' w' ?_ ?_ ap.kp)
 ·
  exact OL.app h1 h2 h3 h5 rfl k1 k2 k3 hM.1 hb.size ap
 ·
  exact low_kp hb ap.kp (fun j hj e => by have := h5 j e; omega)
end
theorem len_int {w : World} : ∀ cs x, rInt w cs x → cs.length = 1 := fun cs x ⟨e, _⟩ => by subst e; rfl
theorem ones_int {w : World} : ∀ cs x, rInt w cs x → ∀ u ∈ cs, u.oneCell' = true := fun cs x ⟨e, _⟩ u hu => by
 subst e; simp only [List.mem_cons, List.not_mem_nil, or_false] at hu; subst hu; rfl
theorem bslI0 (w : World) : (Instr.buildSlice 39 0 #[]).run Tryz.prog w = .ok (.slice (some ⟨w.heap.size, 0, none⟩) 0 0) (w.alloc (.cells ([] : List Value).toArray 3)) := by kernel_rfl
theorem bslH0 (w : World) : (Instr.buildSlice 32 0 #[]).run Tryz.prog w = .ok (.slice (some ⟨w.heap.size, 0, none⟩) 0 0) (w.alloc (.cells ([] : List Value).toArray 93)) := by kernel_rfl
theorem bslH1 (h : Hd) (w : World) : (Instr.buildSlice 32 1 #[(0, .agg (hdL h).toArray)]).run Tryz.prog w = .ok (.slice (some ⟨w.heap.size, 0, none⟩) 1 1) (w.alloc (.cells (hdL h).toArray 93)) := by kernel_rfl
theorem szI (w : World) : (sizeOf 3).run Tryz.prog w = .ok 1 w := by kernel_rfl
theorem szRh (w : World) : (sizeOf 93).run Tryz.prog w = .ok 3 w := by kernel_rfl
theorem infoRh : (Tryz.prog.info? 93).map (fun i => (i.zero, i.size, i.bytes)) = some (some (.agg hdZ.toArray), 3, 24) := by kernel_rfl
theorem ones_hd {w : World} : ∀ cs x, rHd w cs x → ∀ u ∈ cs, u.oneCell' = true := fun cs x h => by rw [h.1]; exact one_hd _
end Go.Proofs.YtklfficlegfhjaaGreat
