/- Several texts in one: Rot, Sha2. -/
import Derived.Test.YtgjgofjabdjclaaDoorChecked
import Derived.Test.YtgjgofjabdjclaaDoorA2
import Derived.WalkKit
import Derived.WalkLawsBesides
import Derived.WalkSpells
import Derived.Lib.Hide
/- Contract of bits.RotateLeft32 at the rotations that SHA-256 takes. -/
namespace Go.Proofs.YtgjgofjabdjclaaDoor
open Go.RowKit Gf Sha

theorem ret_u32 {a b : UInt32} (h : a = b) : Ending.returned (W a) = .returned (W b) := by rw [h]

theorem and31_2 : bits .and .u64 (IntKind.u64.wrap (-2)) 31 = 30 := by decide
theorem or_2 (x : UInt32) : bits .or .u32 (wv x * 1073741824 % 4294967296) (wv x / 4) = wv (rr x 2) := rot_w x 2 (by decide) (by decide)
theorem and31_6 : bits .and .u64 (IntKind.u64.wrap (-6)) 31 = 26 := by decide
theorem or_6 (x : UInt32) : bits .or .u32 (wv x * 67108864 % 4294967296) (wv x / 64) = wv (rr x 6) := rot_w x 6 (by decide) (by decide)
theorem and31_7 : bits .and .u64 (IntKind.u64.wrap (-7)) 31 = 25 := by decide
theorem or_7 (x : UInt32) : bits .or .u32 (wv x * 33554432 % 4294967296) (wv x / 128) = wv (rr x 7) := rot_w x 7 (by decide) (by decide)
theorem and31_11 : bits .and .u64 (IntKind.u64.wrap (-11)) 31 = 21 := by decide
theorem or_11 (x : UInt32) : bits .or .u32 (wv x * 2097152 % 4294967296) (wv x / 2048) = wv (rr x 11) := rot_w x 11 (by decide) (by decide)
theorem and31_13 : bits .and .u64 (IntKind.u64.wrap (-13)) 31 = 19 := by decide
theorem or_13 (x : UInt32) : bits .or .u32 (wv x * 524288 % 4294967296) (wv x / 8192) = wv (rr x 13) := rot_w x 13 (by decide) (by decide)
theorem and31_17 : bits .and .u64 (IntKind.u64.wrap (-17)) 31 = 15 := by decide
theorem or_17 (x : UInt32) : bits .or .u32 (wv x * 32768 % 4294967296) (wv x / 131072) = wv (rr x 17) := rot_w x 17 (by decide) (by decide)
theorem and31_18 : bits .and .u64 (IntKind.u64.wrap (-18)) 31 = 14 := by decide
theorem or_18 (x : UInt32) : bits .or .u32 (wv x * 16384 % 4294967296) (wv x / 262144) = wv (rr x 18) := rot_w x 18 (by decide) (by decide)
theorem and31_19 : bits .and .u64 (IntKind.u64.wrap (-19)) 31 = 13 := by decide
theorem or_19 (x : UInt32) : bits .or .u32 (wv x * 8192 % 4294967296) (wv x / 524288) = wv (rr x 19) := rot_w x 19 (by decide) (by decide)
theorem and31_22 : bits .and .u64 (IntKind.u64.wrap (-22)) 31 = 10 := by decide
theorem or_22 (x : UInt32) : bits .or .u32 (wv x * 1024 % 4294967296) (wv x / 4194304) = wv (rr x 22) := rot_w x 22 (by decide) (by decide)
theorem and31_25 : bits .and .u64 (IntKind.u64.wrap (-25)) 31 = 7 := by decide
theorem or_25 (x : UInt32) : bits .or .u32 (wv x * 128 % 4294967296) (wv x / 33554432) = wv (rr x 25) := rot_w x 25 (by decide) (by decide)
attribute [local go_sem] and31_2 or_2 and31_6 or_6 and31_7 or_7 and31_11 or_11 and31_13 or_13 and31_17 or_17 and31_18 or_18 and31_19 or_19 and31_22 or_22 and31_25 or_25
theorem rot2_any (x : UInt32) (w : World) :
    Calls Tryd.prog 129 #[W x, .int .i64 (-2)] w fun e w' => e = .returned (W (rr x 2)) ∧ w = w' := by
  go_enter Tryd.func129, Tryd.ntmps129
  go_wp2
  go_ret
  exact ⟨rfl, rfl⟩
theorem rot6_any (x : UInt32) (w : World) :
    Calls Tryd.prog 129 #[W x, .int .i64 (-6)] w fun e w' => e = .returned (W (rr x 6)) ∧ w = w' := by
  go_enter Tryd.func129, Tryd.ntmps129
  go_wp2
  go_ret
  exact ⟨rfl, rfl⟩
theorem rot7_any (x : UInt32) (w : World) :
    Calls Tryd.prog 129 #[W x, .int .i64 (-7)] w fun e w' => e = .returned (W (rr x 7)) ∧ w = w' := by
  go_enter Tryd.func129, Tryd.ntmps129
  go_wp2
  go_ret
  exact ⟨rfl, rfl⟩
theorem rot11_any (x : UInt32) (w : World) :
    Calls Tryd.prog 129 #[W x, .int .i64 (-11)] w fun e w' => e = .returned (W (rr x 11)) ∧ w = w' := by
  go_enter Tryd.func129, Tryd.ntmps129
  go_wp2
  go_ret
  exact ⟨rfl, rfl⟩
theorem rot13_any (x : UInt32) (w : World) :
    Calls Tryd.prog 129 #[W x, .int .i64 (-13)] w fun e w' => e = .returned (W (rr x 13)) ∧ w = w' := by
  go_enter Tryd.func129, Tryd.ntmps129
  go_wp2
  go_ret
  exact ⟨rfl, rfl⟩
theorem rot17_any (x : UInt32) (w : World) :
    Calls Tryd.prog 129 #[W x, .int .i64 (-17)] w fun e w' => e = .returned (W (rr x 17)) ∧ w = w' := by
  go_enter Tryd.func129, Tryd.ntmps129
  go_wp2
  go_ret
  exact ⟨rfl, rfl⟩
theorem rot18_any (x : UInt32) (w : World) :
    Calls Tryd.prog 129 #[W x, .int .i64 (-18)] w fun e w' => e = .returned (W (rr x 18)) ∧ w = w' := by
  go_enter Tryd.func129, Tryd.ntmps129
  go_wp2
  go_ret
  exact ⟨rfl, rfl⟩
theorem rot19_any (x : UInt32) (w : World) :
    Calls Tryd.prog 129 #[W x, .int .i64 (-19)] w fun e w' => e = .returned (W (rr x 19)) ∧ w = w' := by
  go_enter Tryd.func129, Tryd.ntmps129
  go_wp2
  go_ret
  exact ⟨rfl, rfl⟩
theorem rot22_any (x : UInt32) (w : World) :
    Calls Tryd.prog 129 #[W x, .int .i64 (-22)] w fun e w' => e = .returned (W (rr x 22)) ∧ w = w' := by
  go_enter Tryd.func129, Tryd.ntmps129
  go_wp2
  go_ret
  exact ⟨rfl, rfl⟩
theorem rot25_any (x : UInt32) (w : World) :
    Calls Tryd.prog 129 #[W x, .int .i64 (-25)] w fun e w' => e = .returned (W (rr x 25)) ∧ w = w' := by
  go_enter Tryd.func129, Tryd.ntmps129
  go_wp2
  go_ret
  exact ⟨rfl, rfl⟩
end Go.Proofs.YtgjgofjabdjclaaDoor
/- The schedule of SHA-256 word by word, as cells. No program in sight. -/
namespace Go.Proofs.YtgjgofjabdjclaaDoor
open Go Gf

namespace Sha
/-- The first k words of the schedule, the last one first. -/
def wl (l : List UInt8) : Nat → List UInt32
  | 0 => []
  | k + 1 => (if k < 16 then word l k else nxt (wl l k)) :: wl l k
theorem wl_length (l : List UInt8) (k : Nat) : (wl l k).length = k := by
  induction k with
  | zero => rfl
  | succ k ih => simp [wl, ih]
theorem wl_first (l : List UInt8) (k : Nat) (h : k ≤ 16) : wl l k = ((List.range k).map (word l)).reverse := by
  induction k with
  | zero => rfl
  | succ k ih => rw [wl, if_pos (by omega), ih (by omega), List.range_succ, List.map_append, List.reverse_append]; rfl
theorem sched_wl (l : List UInt8) (n : Nat) : ∀ k, 16 ≤ k → sched n (wl l k) = wl l (k + n) := by
  induction n with
  | zero => intro k _; rfl
  | succ n ih =>
    intro k hk
    have e : nxt (wl l k) :: wl l k = wl l (k + 1) := by rw [wl, if_neg (by omega)]
    rw [sched, e, ih (k + 1) (by omega), show k + 1 + n = k + (n + 1) by omega]
theorem ws_wl (l : List UInt8) : ws l = (wl l 64).reverse := by
  rw [ws, first, ← wl_first l 16 (by omega), sched_wl l 48 16 (by omega)]
theorem ws_length (l : List UInt8) : (ws l).length = 64 := by rw [ws_wl, List.length_reverse, wl_length]

/-- The cells of the array while the schedule is being made. -/
def wcells (r : List UInt32) : List Value := r.reverse.map W ++ List.replicate (64 - r.length) (.int .u32 0)
theorem wcells_get (r : List UInt32) (j i : Nat) (h : j + i + 1 = r.length) : (wcells r)[j]? = some (W (gw r i)) := by
  have h1 : j < (r.reverse.map W).length := by simp; omega
  rw [wcells, List.getElem?_append_left h1, List.getElem?_map, List.getElem?_reverse (by omega), show r.length - 1 - j = i by omega, gw, List.getD, List.getElem?_eq_getElem (by omega)]
  rfl
theorem wcells_set (r : List UInt32) (x : UInt32) (h : r.length < 64) : (wcells r).set r.length (W x) = wcells (x :: r) := by
  have h1 : (r.reverse.map W).length = r.length := by simp
  have e : 64 - r.length = (64 - (r.length + 1)) + 1 := by omega
  unfold wcells
  rw [List.set_append, if_neg (by omega), h1, Nat.sub_self, e, List.replicate_succ, List.set_cons_zero, List.reverse_cons, List.map_append, List.append_assoc, List.length_cons]
  rfl
theorem wcells_zero (r : List UInt32) (h : r.length < 64) : (wcells r)[r.length]? = some (.int .u32 0) := by
  have h1 : (r.reverse.map W).length = r.length := by simp
  rw [wcells, List.getElem?_append_right (by omega), h1, Nat.sub_self, List.getElem?_replicate_of_lt (by omega)]
theorem wcells_length (r : List UInt32) (h : r.length ≤ 64) : (wcells r).length = 64 := by simp [wcells]; omega
theorem wcells_nil : wcells [] = List.replicate 64 (.int .u32 0) := by simp [wcells]
/-- The word at place k of the whole schedule. -/
theorem wcells_ws (l : List UInt8) (k : Nat) (h : k < 64) : (wcells (wl l 64))[k]? = some (W (gw (ws l) k)) := by
  rw [wcells_get _ k (63 - k) (by rw [wl_length]; omega), ws_wl]
  congr 2
  rw [gw, gw, List.getD, List.getD, List.getElem?_reverse (by rw [wl_length]; exact h), wl_length, show 64 - 1 - k = 63 - k by omega]
theorem nxt_wl (l : List UInt8) (k : Nat) (h : 16 ≤ k) : wl l (k + 1) = (ss1 (gw (wl l k) 1) + gw (wl l k) 6 + ss0 (gw (wl l k) 14) + gw (wl l k) 15) :: wl l k := by
  rw [wl, if_neg (by omega)]; rfl
theorem word_wl (l : List UInt8) (k : Nat) (h : k < 16) : wl l (k + 1) = word l k :: wl l k := by rw [wl, if_pos h]
theorem word_eq (l : List UInt8) (k : Nat) : (gB l (4 * k)).toUInt32 <<< 24 ||| (gB l (4 * k + 1)).toUInt32 <<< 16 ||| (gB l (4 * k + 2)).toUInt32 <<< 8 ||| (gB l (4 * k + 3)).toUInt32 = word l k := rfl

/-- The state after k rounds. -/
def rk (s : St) (l : List UInt8) : Nat → St
  | 0 => s
  | k + 1 => rnd (rk s l k) (gw ks k) (gw (ws l) k)
theorem rnds_take (x y : UInt32) (xs : List UInt32) : ∀ (ys : List UInt32) (s : St), rnds s (xs ++ [x]) (ys ++ [y]) = (if xs.length = ys.length then rnd (rnds s xs ys) x y else rnds s (xs ++ [x]) (ys ++ [y])) := by
  induction xs with
  | nil =>
    intro ys s
    cases ys with
    | nil => rfl
    | cons y ys => simp
  | cons a xs ih =>
    intro ys s
    cases ys with
    | nil => simp
    | cons b ys =>
      simp only [List.cons_append, rnds, List.length_cons, Nat.add_right_cancel_iff]
      split
      · rename_i h
        rw [ih, if_pos h]
      · rfl
theorem rk_rnds (s : St) (l : List UInt8) (k : Nat) (h : k ≤ 64) : rk s l k = rnds s (ks.take k) ((ws l).take k) := by
  have h1 : ks.length = 64 := by decide
  have h2 := ws_length l
  induction k with
  | zero => rfl
  | succ k ih =>
    rw [List.take_succ_eq_append_getElem (by omega), List.take_succ_eq_append_getElem (by omega), rnds_take, if_pos (by simp; omega), ← ih (by omega), rk]
    congr 1
    · rw [gw, List.getD, List.getElem?_eq_getElem (by omega)]; rfl
    · rw [gw, List.getD, List.getElem?_eq_getElem (by omega)]; rfl
theorem comp_rk (s : St) (l : List UInt8) : comp s l = s.add (rk s l 64) := by
  have h1 : ks.length = 64 := by decide
  have h2 := ws_length l
  rw [comp, rk_rnds s l 64 (by omega), List.take_of_length_le (by omega), List.take_of_length_le (by omega)]
/-- The words as cells. -/
def St.cells (s : St) : List Value := [W s.a, W s.b, W s.c, W s.d, W s.e, W s.f, W s.g, W s.h]
/-- Word k. -/
def sw (s : St) (k : Nat) : UInt32 := match k with | 0 => s.a | 1 => s.b | 2 => s.c | 3 => s.d | 4 => s.e | 5 => s.f | 6 => s.g | _ => s.h
theorem cells_sw (s : St) (k : Nat) (h : k < 8) : s.cells[k]? = some (W (sw s k)) := by
  match k, h with
  | 0, _ => rfl
  | 1, _ => rfl
  | 2, _ => rfl
  | 3, _ => rfl
  | 4, _ => rfl
  | 5, _ => rfl
  | 6, _ => rfl
  | 7, _ => rfl
theorem sw_add (s v : St) (k : Nat) (h : k < 8) : sw (s.add v) k = sw s k + sw v k := by
  match k, h with
  | 0, _ => rfl
  | 1, _ => rfl
  | 2, _ => rfl
  | 3, _ => rfl
  | 4, _ => rfl
  | 5, _ => rfl
  | 6, _ => rfl
  | 7, _ => rfl
theorem cells_length (s : St) : s.cells.length = 8 := rfl
/-- A prefix of one state's words over another's. -/
def mixC (v s : St) (rest : List Value) (k : Nat) : List Value := v.cells.take k ++ s.cells.drop k ++ rest
theorem mixC_zero (v s : St) (rest : List Value) : mixC v s rest 0 = s.cells ++ rest := rfl
theorem mixC_all (v s : St) (rest : List Value) : mixC v s rest 8 = v.cells ++ rest := rfl
theorem mixC_set (v s : St) (rest : List Value) (k : Nat) (h : k < 8) : (mixC v s rest k).set k (W (sw v k)) = mixC v s rest (k + 1) := by
  match k, h with
  | 0, _ => rfl
  | 1, _ => rfl
  | 2, _ => rfl
  | 3, _ => rfl
  | 4, _ => rfl
  | 5, _ => rfl
  | 6, _ => rfl
  | 7, _ => rfl
theorem mixC_get (v s : St) (rest : List Value) (k : Nat) (h : k < 8) : (mixC v s rest k)[k]? = some (W (sw s k)) := by
  match k, h with
  | 0, _ => rfl
  | 1, _ => rfl
  | 2, _ => rfl
  | 3, _ => rfl
  | 4, _ => rfl
  | 5, _ => rfl
  | 6, _ => rfl
  | 7, _ => rfl
end Sha
end Go.Proofs.YtgjgofjabdjclaaDoor
