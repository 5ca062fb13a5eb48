/- The reference's Counting. -/
import Derived.Test.YtfonbliomokffaaGreatAdm
import Derived.Test.YtfonbliomokffaaGreatTpm
namespace Go.Proofs.YtfonbliomokffaaGreat
open Go Go.RowKit Gf Sha

section
variable {P : Program} {w : World} {o : Oper} {a : Act}
theorem exec_preM (s hi : Operand) (ty te : TypeId) (m : Nat) (hop : o.op = .slice ty s none (some hi) none) (hu : P.underlying ty = some (.slice te)) (h2 : (sizeOf te).run P w = .ok m w)
  (A : Option Addr) (n c k : Nat) (hs : a.eval s = .slice A n c) (hlo : a.eval hi = .int .i64 (k : Int)) (hk : k ≤ n) (hc : n ≤ c) : (execOp a.eval o).run P w = .ok (.value (.slice A k c)) w := by
 unfold execOp
 simp only [hop, Option.map_some, Option.map_none, hs, hlo]
 have h3 : k ≤ c := by omega
 simp [Instr.sliceAt, Instr.slice, run_underlying hu, Instr.sliceBounds, Instr.sliceBound, asIntOf, h3, h2, Result.andThen]
 intro _
 cases A <;> simp [Addr.add]
end
section
variable {α : Type} {R : Rdg α} {s b m c : Nat} {te t : TypeId} {A : Option Addr} {L M : List α} {P : Program} {w0 : World} (w : World) {o : Oper} {a : Act} {Q : Exit → Act → World → Prop} {K' : Act → World → Prop}
/-- append(r, x...), r a list that is being built; what else stands. -/
theorem wp_appOL2 (sl x : Operand) (i : TypeInfo) (z : Value) (hop : o.op = .call { callee := .builtin .append, args := #[sl, x], argTypes := #[t, t] })
  (ht : P.underlying t = some (.slice te)) (hi : P.info? te = some i) (hz : i.zero = some z) (hs : i.size = s) (hzs : z.cells.size = s) (v : Value) (hv : a.eval sl = v) (ho : OL R s te w0 w v L) (hb : Below w0.heap.size w0 w)
  (hx : a.eval x = .slice A m c) (hM : LS R s b w0 A m c M) (hlen : ∀ cs x, R w0 cs x → cs.length = s) (hone : ∀ cs x, R w0 cs x → ∀ u ∈ cs, u.oneCell' = true) (hsz : (L.length + m) * i.bytes ≤ 140737488355328) (hn : L.length + m ≤ 140737488355328)
  (hK : ∀ v' w', OL R s te w0 w' v' (L ++ M) → Below w0.heap.size w0 w' → Kp (fun i => v.ownBlock = some i) w w' → K' (a.put o.dst v') w') : o.wp P a w K' Q := by
 obtain ⟨css, h1, h2, h3, h4, h5⟩ := ho
 obtain ⟨dss, k1, k2, k3, k4⟩ := hM.src hlen hone ht
 refine wp_appX w sl x t te s i z hop ht hi hz hs hzs v L.length css.flatten hv h4 _ m dss.flatten hx (k4 w hb) hsz hn (fun v' w' ap => hK v' w' ?_ ?_ ap.kp)
 ·
  exact OL.app h1 h2 h3 h5 rfl k1 k2 k3 hM.1 hb.size ap
 ·
  exact low_kp hb ap.kp (fun j hj e => by have := h5 j e; omega)
end
theorem bslEn1 (x : En) (A : Option Addr) (n c : Nat) (w : World) : (Instr.buildSlice 22 1 #[(0, .agg (enC x A n c).toArray)]).run Tryz.prog w = .ok (.slice (some ⟨w.heap.size, 0, none⟩) 1 1) (w.alloc (.cells (enC x A n c).toArray 33)) := by kernel_rfl
theorem szEn (w : World) : (sizeOf 33).run Tryz.prog w = .ok 6 w := agg_size w (show Agg Tryz.prog 33 6 = true by kernel_rfl)
end Go.Proofs.YtfonbliomokffaaGreat
