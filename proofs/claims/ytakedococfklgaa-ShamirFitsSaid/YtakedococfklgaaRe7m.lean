/- Contracts of the references kinkeepref10 Threshold, Length, Xs, Shares. -/
import Derived.Test.YtakedococfklgaaRe1m
import Derived.Test.YtakedococfklgaaCo4m
import Derived.Test.YtakedococfklgaaAw1m
namespace Go.Proofs.Ytakedococfklgaa
open Go.RowKit Gf

set_option maxHeartbeats 400000 in
theorem rthr_any (x : Int) (w : World) : Calls Try.prog 21 #[.int .i64 x] w fun e w' => e = .returned (.bool (vT x)) ∧ w = w' := by
  by_cases h1 : 1 ≤ x
  · have HV : Hid (vT x = decide (x ≤ 16)) := Lib.hid (by simp [vT, h1])
    go_enter Try.func21, Try.ntmps21
    go_wp2
    go_ret
    exact ⟨ret_bool (by rw [HV.out]), rfl⟩
  · have HV : Hid (vT x = false) := Lib.hid (by simp [vT, h1])
    have q : decide (1 ≤ x) = false := by simpa using h1
    go_enter Try.func21, Try.ntmps21
    go_wp2
    go_ret
    exact ⟨ret_bool HV.out.symm, rfl⟩

/-- The length of the shares' bytes. -/
def lnK (l : List (Int × List UInt8)) : Nat := if l.length = 0 then 0 else (gS l 0).2.length
set_option maxHeartbeats 400000 in
theorem rlen_any (A : Option Addr) (n c : Nat) (l : List (Int × List UInt8)) (w : World) (h : SS w A n c l) :
    Calls Try.prog 35 #[.slice A n c] w fun e w' => e = .returned (.int .i64 (lnK l : Int)) ∧ w = w' := by
  have hn := h.len_le
  by_cases h0 : n = 0
  · have q : ((n : Int) == 0) = true := by simp [h0]
    have HZ : Hid (lnK l = 0) := Lib.hid (by unfold lnK; rw [if_pos (by rw [h.1]; exact h0)])
    clear h h0
    go_enter Try.func35, Try.ntmps35
    go_wp2
    go_ret
    refine ⟨?_, rfl⟩
    rw [HZ.out]
    rfl
  · have q : ((n : Int) == 0) = false := by simp [h0]
    obtain ⟨g, o, A1, n1, c1, rfl, r1, r2, r3⟩ := h.at_ (Below.refl _ _) (k := 0) (by omega)
    have HZ : Hid (lnK l = n1) := Lib.hid (by unfold lnK; rw [if_neg (by rw [h.1]; exact h0)]; exact r3.1)
    have hn0 : 0 < n := by omega
    simp only [Nat.zero_mul, Nat.add_zero] at r2
    clear h h0 r1 r3
    go_enter Try.func35, Try.ntmps35
    go_wp2
    go_ret
    refine ⟨?_, rfl⟩
    rw [HZ.out]
    rfl

theorem xsL_take {l : List (Int × List UInt8)} {k : Nat} (h : k < l.length) : xsL (l.take (k + 1)) = xsL (l.take k) ++ [(gS l k).1] := by
  rw [List.take_succ_eq_append_getElem h, gS_eq h, xsL, xsL, List.map_append]; rfl
set_option maxRecDepth 100000 in
set_option maxHeartbeats 1000000 in
theorem rxs_any (A : Option Addr) (n c : Nat) (l : List (Int × List UInt8)) (w : World) (h : SS w A n c l) (h64 : n ≤ 64) :
    Calls Try.prog 49 #[.slice A n c] w fun e w' => ∃ A' c', e = .returned (.slice A' n c') ∧ IS w' A' n c' (xsL l) ∧ Below w.heap.size w w' := by
  have hn := h.len_le
  have H := Lib.hid h
  have HL := Lib.hid h.1
  have H64 := Lib.hid h64
  clear h h64
  go_enter Try.func49, Try.ntmps49
  go_wp2_with fail
  go_loopw [3, 8] (fun v i wr => ∃ (k m : Nat) (A1 : Option Addr) (c1 : Nat), k ≤ n ∧ i = .int .i64 (k : Int) ∧ m = k ∧ v = .slice A1 m c1 ∧ Hid (wr.ownsRow w.heap.size 3 1 (.slice A1 m c1) m ((xsL (l.take k)).map (Value.int .i64))) ∧ Hid (Below w.heap.size w wr)) (fun _ i _ => n - (intOf i).toNat)
  case atStart => exact ⟨0, 0, none, 0, by omega, rfl, rfl, rfl, Lib.hid (World.ownsRow_nil _ _ _ _), Lib.hid (Below.refl _ _)⟩
  case round =>
    obtain ⟨k, m, A1, c1, hk, rfl, hm, rfl, ho, hb⟩ := hrel
    subst hm
    by_cases hlt : m < n
    · obtain ⟨g1, o1, A2, n2, c2, rfl, q1, q2, q3⟩ := H.out.at_ hb.out hlt
      obtain ⟨y, hy⟩ : ∃ y, y = (gS l m).1 := ⟨_, rfl⟩
      rw [← hy] at q1
      have HT : Hid (xsL (l.take (m + 1)) = xsL (l.take m) ++ [y]) := Lib.hid (by rw [xsL_take (by rw [HL.out]; exact hlt), hy])
      clear q3 hy
      have hb7 : Below wr.heap.size wr ((wr.alloc (.cells #[.int .i64 y, .slice A2 n2 c2] 33)).alloc (.cells #[.int .i64 y] 3)) := below_then (kb1 _ _) (kb1 _ _)
      have HK7 : Hid (Blk ((wr.alloc (.cells #[.int .i64 y, .slice A2 n2 c2] 33)).alloc (.cells #[.int .i64 y] 3)) (wr.heap.size + 1) 3 #[.int .i64 y]) := Lib.hid (blk_at (by simp) _ _)
      have HOT := Lib.hid (Kp.own (S := fun _ => False) (Kp.of_below hb7) ho.out (fun _ _ => id))
      have HBT := Lib.hid (below_then hb.out hb7)
      have HM8 : Hid ((m + 1) * 8 ≤ 140737488355328) := Lib.hid (by have := H64.out; omega)
      have HM9 : Hid (m < 140737488355328) := Lib.hid (by have := H64.out; omega)
      clear hb7
      go_wp2_with (first
        | (at_builtin; refine wpList_app1 _ rfl (.tmp 12) (.tmp 15) 24 3 (.int .i64 0) 8 Try.underlying24 infoInt rfl rfl w.heap.size (.slice A1 m c1) m _ rfl HOT.out (wr.heap.size + 1) 1 3 (.int .i64 y) rfl HK7.out rfl HM8.out HM9.out HBT.out.size ?_; intro v6 w6 hp6))
      obtain ⟨m6, g6, cap6, hm6, rfl⟩ := own_form (by omega) hp6.1
      subst hm6
      have HO6 : Hid (w6.ownsRow w.heap.size 3 1 (.slice (some ⟨g6, 0, none⟩) (m + 1) cap6) (m + 1) ((xsL (l.take (m + 1))).map (Value.int .i64))) := Lib.hid (by rw [HT.out, List.map_append]; exact hp6.1)
      have HB6 : Hid (Below w.heap.size w w6) := Lib.hid (HBT.out.grown hp6.2.1 HBT.out.size (fun b hb' => own_base HOT.out b hb'))
      clear hp6
      go_wp2_with fail
      go_roundw
      case rel => exact ⟨m + 1, m + 1, _, cap6, by omega, by go_num, rfl, rfl, HO6, HB6⟩
      case measure => simp [intOf]; omega
    · obtain rfl : m = n := by omega
      have ho9 := ho.out
      rw [List.take_of_length_le (by rw [HL.out]; exact Nat.le_refl _)] at ho9
      obtain ⟨A9, c9, e9, hi9⟩ := IS.of_own ho9 (by have := H64.out; unfold lim; omega)
      injection e9 with e91 e92 e93
      subst e91 e93
      have HI := Lib.hid hi9
      clear ho9 hi9 e92
      go_wp2_with fail
      go_ret
      exact ⟨A1, c1, rfl, HI.out, hb.out⟩
end Go.Proofs.Ytakedococfklgaa
