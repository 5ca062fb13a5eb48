/- Contracts of shamir.validShares, validLists. -/
import Derived.Test.YtakedococfklgaaSh0
namespace Go.Proofs.Ytakedococfklgaa
open Go.RowKit Gf

/-- The X of shares. -/
def xsL (l : List (Int × List UInt8)) : List Int := l.map (·.1)
/-- Share k has as many bytes as the first one, and not too many. -/
def dOk (l : List (Int × List UInt8)) (k : Nat) : Bool := decide ((gS l k).2.length = (gS l 0).2.length ∧ (gS l k).2.length ≤ 1024)
def shB (l : List (Int × List UInt8)) : Bool := (List.range l.length).all (dOk l) && xsB (xsL l)
theorem shB_false {l : List (Int × List UInt8)} {i : Nat} (hi : i < l.length) (h : dOk l i = false) : shB l = false := by
  unfold shB
  have : (List.range l.length).all (dOk l) = false := by rw [List.all_eq_false]; exact ⟨i, List.mem_range.2 hi, by simp [h]⟩
  rw [this]; rfl
theorem shB_all {l : List (Int × List UInt8)} (h : ∀ i, i < l.length → dOk l i = true) : shB l = xsB (xsL l) := by
  unfold shB
  have : (List.range l.length).all (dOk l) = true := by rw [List.all_eq_true]; intro i hi; exact h i (List.mem_range.1 hi)
  rw [this]; rfl
theorem xs_take (l : List (Int × List UInt8)) (k : Nat) (h : k < l.length) : (xsL (l.take (k + 1))).map (Value.int .i64) = (xsL (l.take k)).map (Value.int .i64) ++ [.int .i64 (gS l k).1] := by
  rw [List.take_succ_eq_append_getElem h, gS_eq h, xsL, List.map_append, List.map_append]; rfl
theorem IS.of_own {w : World} {base : Nat} {v : Value} {n : Nat} {z : List Int} (h : w.ownsRow base 3 1 v n (z.map (Value.int .i64))) (hn : n * 8 ≤ lim) : ∃ A c, v = .slice A n c ∧ IS w A n c z := by
  have hl : z.length = n := by have := h.1; simpa using this
  rcases h.2 with ⟨rfl, rfl⟩ | ⟨g, cap, cur, rfl, _, hh, hnc, _, hsz, htk⟩
  · exact ⟨none, 0, rfl, hl, Nat.le_refl _, hn, fun k hk => absurd hk (by omega)⟩
  · refine ⟨some ⟨g, 0, none⟩, cap, rfl, hl, hnc, hn, fun k hk => ⟨g, 0, rfl, ?_⟩⟩
    have hkl : k < z.length := by omega
    show _ = some (Value.int .i64 (gI z k))
    rw [Nat.zero_add, h.cellAt k (by omega), gI_eq hkl]
    simp [List.getElem?_eq_getElem hkl]

theorem bdA (W : World) (m : Nat) (o : Obj) : Below W.heap.size W ((W.drewN m).alloc o) := (below_drewN (Below.refl _ _) m).alloc (Nat.le_refl _) _
theorem bdB (W : World) (m : Nat) (cs : Array Value) (t : TypeId) {g : Nat} (hg : W.heap.size = g) : Blk ((W.drewN m).alloc (.cells cs t)) g t cs := by subst hg; exact Blk.new (W.drewN m) t cs
set_option maxRecDepth 100000 in
set_option maxHeartbeats 1000000 in
theorem validShares_any (A : Option Addr) (n c : Nat) (l : List (Int × List UInt8)) (w : World) (h : SS w A n c l) :
    Calls Try.prog 45 #[.slice A n c] w (ChkB (shB l) w) := by
  have hn := h.len_le
  have HL := Lib.hid h.1
  have H := Lib.hid h
  clear h
  go_enter Try.func45, Try.ntmps45
  go_wp2
  go_loopw [3, 8] (fun v i wr => ∃ k : Nat, k ≤ n ∧ i = .int .i64 (k : Int) ∧ Hid (∀ j, j < k → dOk l j = true) ∧ Hid (wr.ownsRow w.heap.size 3 1 v k ((xsL (l.take k)).map (Value.int .i64))) ∧ Hid (Below w.heap.size w wr)) (fun _ i _ => n - (intOf i).toNat)
  case atStart => exact ⟨0, by omega, rfl, Lib.hid (fun j hj => absurd hj (by omega)), Lib.hid (World.ownsRow_nil _ _ _ _), Lib.hid (Below.refl _ _)⟩
  case round =>
    obtain ⟨k, hk, rfl, hall, hown, hb⟩ := hrel
    by_cases hlt : k < n
    · obtain ⟨g, o, A1, n1, c1, rfl, hc1, hc2, hr1⟩ := H.out.at_ hb.out hlt
      obtain ⟨g0, o0, A0, n0, c0, e0, hc3, hc4, hr0⟩ := H.out.at_ hb.out (show 0 < n by omega)
      cases Option.some.inj e0
      rw [Nat.zero_mul, Nat.add_zero] at hc4
      have HR1 : Hid ((gS l k).2.length = n1) := Lib.hid hr1.1
      have HR0 : Hid ((gS l 0).2.length = n0) := Lib.hid hr0.1
      have hbA : Below wr.heap.size wr (wr.alloc (.cells #[.int .i64 (gS l k).1, .slice A1 n1 c1] 33)) := (Below.refl _ _).alloc (Nat.le_refl _) _
      have hc4' := cell_kept hbA hc4
      have HBA := Lib.hid (below_then hb.out hbA)
      have HOA := Lib.hid (Kp.own (S := fun _ => False) (Kp.of_below hbA) hown.out (fun _ _ => id))
      clear hbA hc3 hr1 hr0 hc4
      by_cases e1 : n1 = n0
      · have HE := Lib.hid e1
        have q1 : (n1 != n0) = false := by simpa using e1
        have q2 : ((n1 : Int) != (n0 : Int)) = false := by simp; omega
        clear e1
        by_cases e2 : 1024 < n1
        · have q3 : decide ((1024 : Int) < (n1 : Int)) = true := by simp; omega
          have HF : Hid (shB l = false) := Lib.hid (shB_false (i := k) (by rw [HL.out]; exact hlt) (by unfold dOk; rw [HR1.out]; simp; omega))
          go_wp2
          go_quiet (fail)
          go_wp2
          go_ret
          exact ⟨ret_bool HF.out.symm, below_drewN HBA.out _⟩
        · have q3 : decide ((1024 : Int) < (n1 : Int)) = false := by simp; omega
          have HA : Hid (∀ j, j < k + 1 → dOk l j = true) := Lib.hid (fun j hj => by
            by_cases e : j = k
            · subst e; unfold dOk; rw [HR1.out, HR0.out]; have := HE.out; simp; omega
            · exact hall.out j (by omega))
          go_wp2
          go_quiet (fail)
          have HBB := Lib.hid (bdA (wr.alloc (.cells #[.int .i64 (gS l k).1, .slice A1 n1 c1] 33)) nq (.cells #[.int .i64 (gS l k).1] 3))
          have HOW := Lib.hid (Kp.own (S := fun _ => False) (Kp.of_below HBB.out) HOA.out (fun _ _ => id))
          have HBW := Lib.hid (HBA.out.trans (HBB.out.mono HBA.out.size))
          have HBK := Lib.hid (bdB (wr.alloc (.cells #[.int .i64 (gS l k).1, .slice A1 n1 c1] 33)) nq #[.int .i64 (gS l k).1] 3 (World.size_alloc _ _))
          clear hc1 hc2 hc4' q1 q2 q3
          go_wp2_with (first
            | (at_builtin; refine wpList_app1 _ rfl (.tmp 27) (.tmp 30) 24 3 (.int .i64 0) 8 Try.underlying24 infoInt rfl rfl w.heap.size u3 k ((xsL (l.take k)).map (Value.int .i64)) rfl HOW.out (wr.heap.size + 1) 1 3 (.int .i64 (gS l k).1) rfl HBK.out rfl (by omega) (by omega) HBW.out.size ?_; intro v4 w6 hp4))
          have HR : Hid (w6.ownsRow w.heap.size 3 1 v4 (k + 1) ((xsL (l.take (k + 1))).map (Value.int .i64)) ∧ Below w.heap.size w w6) := by
            refine Lib.hid ⟨?_, HBW.out.grown hp4.2.1 HBW.out.size (fun b hb' => own_base HOW.out b hb')⟩
            rw [xs_take l k (by rw [HL.out]; exact hlt)]
            exact hp4.1
          clear hp4
          go_roundw
          case rel => exact ⟨k + 1, by omega, by go_num, HA, Lib.hid HR.out.1, Lib.hid HR.out.2⟩
          case measure => simp [intOf]; omega
      · have HE := Lib.hid e1
        have q1 : (n1 != n0) = true := by simpa using e1
        have q2 : ((n1 : Int) != (n0 : Int)) = true := by simp; omega
        have HF : Hid (shB l = false) := Lib.hid (shB_false (i := k) (by rw [HL.out]; exact hlt) (by unfold dOk; rw [HR1.out, HR0.out]; simp; omega))
        clear e1
        go_wp2
        go_quiet (fail)
        go_wp2
        go_ret
        exact ⟨ret_bool HF.out.symm, below_drewN HBA.out _⟩
    · obtain rfl : k = n := by omega
      have HT : Hid (shB l = xsB (xsL l)) := Lib.hid (shB_all (fun i hi => hall.out i (by rw [HL.out] at hi; exact hi)))
      have ho := hown.out
      rw [List.take_of_length_le (by rw [HL.out]; exact Nat.le_refl _)] at ho
      obtain ⟨A2, c2, rfl, hi2⟩ := IS.of_own ho (by unfold lim; omega)
      have HI := Lib.hid hi2
      clear ho hi2
      go_wp2_with fail
      refine (validXs_any _ _ _ _ _ HI.out).mono ?_
      rintro e w2 ⟨rfl, hb2⟩
      have HB2 := Lib.hid (below_then hb.out hb2)
      clear hb2
      rw [← HT.out]
      go_wp2_with fail
      go_ret
      exact ⟨rfl, HB2.out⟩

/-- At most 15 lists of so many bytes. -/
def ltB (m : List (List UInt8)) (size : Int) : Bool := (List.range m.length).all (fun i => decide (((gR m i).length : Int) = size)) && decide (m.length < 16)
set_option maxRecDepth 100000 in
set_option maxHeartbeats 1000000 in
theorem validLists_any (A : Option Addr) (n c : Nat) (m : List (List UInt8)) (size : Int) (w : World) (h : MS w A n c m) :
    Calls Try.prog 40 #[.slice A n c, .int .i64 size] w fun e w' => e = .returned (.bool (ltB m size)) ∧ w = w' := by
  have hn := h.len_le
  have HL := Lib.hid h.1
  have H := Lib.hid h
  clear h
  go_enter Try.func40, Try.ntmps40
  go_wp2
  go_loop [9] (fun i => ∃ k : Nat, k ≤ n ∧ i = .int .i64 (k : Int) ∧ Hid (∀ j, j < k → ((gR m j).length : Int) = size)) (fun i => n - (intOf i).toNat)
  case atStart => exact ⟨0, by omega, rfl, Lib.hid (fun j hj => absurd hj (by omega))⟩
  case round =>
    obtain ⟨k, hk, rfl, hall⟩ := hrel
    by_cases hlt : k < n
    · obtain ⟨g, o, A1, n1, c1, rfl, hc1, hr1⟩ := H.out.at_ (Below.refl _ _) hlt
      have HR1 : Hid ((gR m k).length = n1) := Lib.hid hr1.1
      clear hr1
      by_cases e : (n1 : Int) = size
      · have q : ((n1 : Int) != size) = false := by simpa using e
        have HA : Hid (∀ j, j < k + 1 → ((gR m j).length : Int) = size) := Lib.hid (fun j hj => by
          by_cases e' : j = k
          · subst e'; rw [HR1.out]; exact e
          · exact hall.out j (by omega))
        have HE := Lib.hid e
        clear e
        go_wp2
        go_round
        case rel => exact ⟨k + 1, by omega, by go_num, HA⟩
        case measure => simp [intOf]; omega
      · have q : ((n1 : Int) != size) = true := by simpa using e
        have HF : Hid (ltB m size = false) := Lib.hid (by
          unfold ltB
          have : (List.range m.length).all (fun i => decide (((gR m i).length : Int) = size)) = false := by
            rw [List.all_eq_false]; exact ⟨k, List.mem_range.2 (by rw [HL.out]; exact hlt), by rw [HR1.out]; simpa using e⟩
          rw [this]; rfl)
        have HE := Lib.hid e
        clear e
        go_wp2
        go_ret
        exact ⟨ret_bool HF.out.symm, rfl⟩
    · have HF : Hid (ltB m size = decide (n < 16)) := Lib.hid (by
        unfold ltB
        have : (List.range m.length).all (fun i => decide (((gR m i).length : Int) = size)) = true := by
          rw [List.all_eq_true]; intro i hi; rw [List.mem_range, HL.out] at hi; simpa using hall.out i (by omega)
        rw [this, HL.out]; rfl)
      have q : decide ((n : Int) < 16) = decide (n < 16) := by simp; omega
      by_cases h16 : n < 16
      · have q2 : decide ((n : Int) < 16) = true := by simp; omega
        have HF' : Hid (ltB m size = true) := Lib.hid (by rw [HF.out]; simpa using h16)
        clear q
        go_wp2
        go_ret
        exact ⟨ret_bool (by rw [HF'.out]), rfl⟩
      · have q2 : decide ((n : Int) < 16) = false := by simp; omega
        have HF' : Hid (ltB m size = false) := Lib.hid (by rw [HF.out]; simpa using h16)
        clear q
        go_wp2
        go_ret
        exact ⟨ret_bool (by rw [HF'.out]), rfl⟩
end Go.Proofs.Ytakedococfklgaa
