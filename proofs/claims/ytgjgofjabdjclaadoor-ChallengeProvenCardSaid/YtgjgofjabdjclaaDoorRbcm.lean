/- Contract of ref03.constants. -/
import Derived.Test.YtgjgofjabdjclaaDoorRrm
import Derived.Test.YtgjgofjabdjclaaDoorA6
import Derived.Test.YtgjgofjabdjclaaDoorA10
import Derived.Test.YtgjgofjabdjclaaDoorA14
namespace Go.Proofs.YtgjgofjabdjclaaDoor
open Go Go.RowKit Gf Sha

theorem zero64 : (Tryd.prog.info? 150).map (·.zero) = some (some (.agg (List.replicate 64 (Value.int .u32 0)).toArray)) := by kernel_rfl
theorem zero8 : (Tryd.prog.info? 122).map (·.zero) = some (some (.agg (List.replicate 8 (Value.int .u32 0)).toArray)) := by kernel_rfl
theorem ks_vals : (ks.map W).toArray = #[.int .u32 1116352408, .int .u32 1899447441, .int .u32 3049323471, .int .u32 3921009573, .int .u32 961987163, .int .u32 1508970993, .int .u32 2453635748, .int .u32 2870763221, .int .u32 3624381080, .int .u32 310598401, .int .u32 607225278, .int .u32 1426881987, .int .u32 1925078388, .int .u32 2162078206, .int .u32 2614888103, .int .u32 3248222580, .int .u32 3835390401, .int .u32 4022224774, .int .u32 264347078, .int .u32 604807628, .int .u32 770255983, .int .u32 1249150122, .int .u32 1555081692, .int .u32 1996064986, .int .u32 2554220882, .int .u32 2821834349, .int .u32 2952996808, .int .u32 3210313671, .int .u32 3336571891, .int .u32 3584528711, .int .u32 113926993, .int .u32 338241895, .int .u32 666307205, .int .u32 773529912, .int .u32 1294757372, .int .u32 1396182291, .int .u32 1695183700, .int .u32 1986661051, .int .u32 2177026350, .int .u32 2456956037, .int .u32 2730485921, .int .u32 2820302411, .int .u32 3259730800, .int .u32 3345764771, .int .u32 3516065817, .int .u32 3600352804, .int .u32 4094571909, .int .u32 275423344, .int .u32 430227734, .int .u32 506948616, .int .u32 659060556, .int .u32 883997877, .int .u32 958139571, .int .u32 1322822218, .int .u32 1537002063, .int .u32 1747873779, .int .u32 1955562222, .int .u32 2024104815, .int .u32 2227730452, .int .u32 2361852424, .int .u32 2428436474, .int .u32 2756734187, .int .u32 3204031479, .int .u32 3329325298] := by kernel_rfl
theorem ks_one : ∀ v ∈ ks.map W, v.oneCell' = true := by
  intro v hv
  obtain ⟨x, _, rfl⟩ := List.mem_map.1 hv
  rfl

theorem results_cell1 {fn : Func} {a : Tmp} {t : TypeId} (h : fn.results = #[.cell a t]) {tmps : Array Value} {P : Program} {w : World} {g o n : Nat} {ms : List Value} (hp : tmps.getD a undef = .pointer (some ⟨g, o, none⟩)) (ht : Agg P t n = true) (hm : At w g o ms) (hn : ms.length = n) :
    (results fn tmps).run P w = .ok (.agg ms.toArray) w := by
  have hl := run_loadCells_list (P := P) w ⟨g, o, none⟩ ms (fun j v hv => by rw [addr_add]; exact hm j v hv)
  rw [hn] at hl
  have hp' : tmps[a]?.getD undef = .pointer (some ⟨g, o, none⟩) := by simpa using hp
  simp [results, h, hp', asAddr, loadVar, Sem.run_bind, agg_isAgg w ht, agg_size w ht, hl]

set_option maxRecDepth 100000 in
set_option maxHeartbeats 4000000 in
theorem constants_any (w : World) : Calls Tryd.prog 102 #[] w fun e w' => e = .returned (.agg (ks.map W).toArray) ∧ Below w.heap.size w w' := by
  go_enter Tryd.func102, Tryd.ntmps102
  go_wp2_with (first
    | ((with_reducible show wpList _ _ _ (⟨some 0, _, _, _, _, _⟩ :: _) _ _); refine wpList_alloc _ rfl 150 rfl (List.replicate 64 (.int .u32 0)) zero64 ?_; intro w1 a1 a2 a3; have HG1 := Lib.hid a1; have HB1 := Lib.hid a2; clear a1 a2 a3)
    | ((with_reducible show wpList _ _ _ (⟨none, _, _, _, _, _⟩ :: _) _ _); refine wpList_storev _ rfl 150 (.tmp 0) (.tmp 1) rfl 64 (by kernel_rfl) w.heap.size 0 _ (List.replicate 64 (.int .u32 0)) (ks.map W) rfl (by rw [ks_vals]; rfl) HG1.out rfl ks_one (by decide) ?_; intro w2 a1 a2 a3; rw [splice_all (List.replicate 64 (.int .u32 0)) (ks.map W) rfl] at a1; have HG2 := Lib.hid a1; have HB2 : Hid (Below w.heap.size w w2) := Lib.hid (((Kp.of_below (S := fun _ => False) HB1.out).after a2 (fun i hi e => by omega)).below (Nat.le_refl _) (fun _ h => h.elim)); clear a1 a2 a3))
  (try simp only [Exit.inBlock, Exit.then])
  exact bodyPost_ret (results_cell1 (n := 64) rfl rfl (by kernel_rfl) (BL.all HG2.out) rfl) rfl ⟨rfl, HB2.out⟩
end Go.Proofs.YtgjgofjabdjclaaDoor
