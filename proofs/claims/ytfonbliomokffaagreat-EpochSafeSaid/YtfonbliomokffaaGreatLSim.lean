/- EpochSafe: what its walk needs, plainly. -/
import Derived.Test.YtfonbliomokffaaGreatZpm
import Derived.Test.YtfonbliomokffaaGreatC21
namespace Go.Proofs.YtfonbliomokffaaGreat
open Go Go.RowKit Gf Sha

abbrev acZ : List Value := [.int .i64 0, .int .i64 0, .int .i64 0, .int .u8 0]
theorem acZero : (Tryz.prog.info? 55).map (·.zero) = some (some (.agg acZ.toArray)) := by kernel_rfl
theorem splice_ac (a : Ac) : splice acZ 0 (acC a) = acC a := rfl
def vz : Nat → Value := fun _ => .slice none 0 0
/-- The town before its writers are set. -/
def tI (three : Bool) (j : Nat) : Tn := ⟨fun _ => [], fun _ => 0, t0W three j, fun _ => false, fun _ => false, false, 0⟩
theorem bldTown (three : Bool) (w : World) : (Instr.build 53 #[]).run Tryz.prog w = .ok (.agg (tCs (tI three 0) vz).toArray) w := by
 cases three <;> kernel_rfl
theorem tm0 {w0 w : World} {g : Nat} (three : Bool) (hb : BL w g 53 (tCs (tI three 0) vz)) (hl : Below w0.heap.size w0 w) (hg : w0.heap.size ≤ g) : TM w0 w g (tI three 0) vz :=
 ⟨hb, fun d hd => ⟨[], rfl, (fun _ h => by cases h), (fun k h => absurd h (Nat.not_lt_zero k)), RW.nil _ _ _, (fun b hb => by cases hb)⟩, fun d _ d' _ _ b hb => (by cases hb), hl, hg⟩
theorem t0W_step (three : Bool) (i : Nat) : t0W three (i + 1) = up (t0W three i) i (three || (decide (i / 3 < 2) && decide (i % 3 < 2))) := by
 funext j
 unfold up t0W
 by_cases e : j = i
 ·
  subst e
  rw [if_pos rfl, decide_eq_true (by omega), Bool.true_and]
 ·
  rw [if_neg e]
  congr 1
  rw [decide_eq_decide]
  omega
theorem tI_set (three : Bool) (v : Nat → Value) {k d : Nat} (hk : k < 3) (hd : d < 3) {z : Bool} (hz : z = (three || (decide (k < 2) && decide (d < 2)))) : (tCs (tI three (3 * k + d)) v).set (12 + k * 3 + d) (.bool z) = tCs (tI three (3 * k + (d + 1))) v := by
 rw [set_wr hk hd, show 3 * k + (d + 1) = 3 * k + d + 1 by omega]
 unfold tI
 rw [t0W_step, show (3 * k + d) / 3 = k by omega, show (3 * k + d) % 3 = d by omega, ← hz]
/-- The entries of the first k logs. -/
def allK (T : Tn) : Nat → List En
 | 0 => []
 | k + 1 => allK T k ++ T.lg k
theorem allK_3 (T : Tn) : allK T 3 = T.all := by
 show (([] ++ T.lg 0) ++ T.lg 1) ++ T.lg 2 = _
 rw [List.nil_append]; rfl
theorem allK_len (T : Tn) {k : Nat} (hk : k < 3) : (allK T k).length + (T.lg k).length ≤ T.all.length := by
 unfold Tn.all
 simp only [List.length_append]
 match k, hk with
 | 0, _ => simp only [allK, List.length_nil]; omega
 | 1, _ => simp only [allK, List.length_append, List.length_nil]; omega
 | 2, _ => simp only [allK, List.length_append, List.length_nil]; omega
/-- The expelled of the first k. -/
def exK (T : Tn) (k : Nat) : List Int := ((List.range k).filter fun d => T.ex d).map fun d : Nat => (d : Int)
theorem exK_step (T : Tn) (k : Nat) : exK T (k + 1) = exK T k ++ (if T.ex k then [(k : Int)] else []) := by
 unfold exK
 rw [List.range_succ, List.filter_append, List.map_append]
 congr 1
 rw [List.filter_cons]
 split <;> rfl
theorem exK_len (T : Tn) (k : Nat) : (exK T k).length ≤ k := by
 unfold exK
 rw [List.length_map]
 exact Nat.le_trans (List.length_filter_le _ _) (by rw [List.length_range]; exact Nat.le_refl _)
theorem exK_3 (T : Tn) : exK T 3 = T.exL := rfl
/-- What a writer needs is not dropped. -/
theorem no_drop {three : Bool} {c L : Nat} {T : Tn} (h : Inv three c L T) (hL : L ≤ 2000) {u : Nat} (hu : u < 3) (he : T.ex u = false) {s : List UInt8} (hs : s ∈ T.needed u) : hasB (dropL (dd T.all) 0 T.exL) s = false := by
 rw [← Bool.not_eq_true, hasB_iff]
 obtain ⟨i, hi, rfl⟩ := List.mem_map.1 hs
 rw [List.mem_filter, List.mem_range] at hi
 exact town_safe h hL hu he hi.1 hi.2
end Go.Proofs.YtfonbliomokffaaGreat
