/- Contracts of the references kinkeepref10 Lists, Distinct. -/
import Derived.Test.YtakedococfklgaaB2
namespace Go.Proofs.Ytakedococfklgaa
open Go.RowKit Gf

set_option maxRecDepth 100000 in
set_option maxHeartbeats 1000000 in
theorem rlists_any (A : Option Addr) (n c : Nat) (m : List (List UInt8)) (size : Int) (w : World) (h : MS w A n c m) :
    Calls Try.prog 14 #[.slice A n c, .int .i64 size] w fun e w' => e = .returned (.bool (ltB m size)) ∧ w = w' := by
  have hn := h.len_le
  have HL := Lib.hid h.1
  have H := Lib.hid h
  clear h
  go_enter Try.func14, Try.ntmps14
  go_wp2
  go_loop [9] (fun i => ∃ k : Nat, k ≤ n ∧ i = .int .i64 (k : Int) ∧ Hid (∀ j, j < k → ((gR m j).length : Int) = size)) (fun i => n - (intOf i).toNat)
  case atStart => exact ⟨0, by omega, rfl, Lib.hid (fun j hj => absurd hj (by omega))⟩
  case round =>
    obtain ⟨k, hk, rfl, hall⟩ := hrel
    by_cases hlt : k < n
    · obtain ⟨g, o, A1, n1, c1, rfl, hc1, hr1⟩ := H.out.at_ (Below.refl _ _) hlt
      have HR1 : Hid ((gR m k).length = n1) := Lib.hid hr1.1
      clear hr1
      by_cases e : (n1 : Int) = size
      · have q : ((n1 : Int) != size) = false := by simpa using e
        have HA : Hid (∀ j, j < k + 1 → ((gR m j).length : Int) = size) := Lib.hid (fun j hj => by
          by_cases e' : j = k
          · subst e'; rw [HR1.out]; exact e
          · exact hall.out j (by omega))
        have HE := Lib.hid e
        clear e
        go_wp2
        go_round
        case rel => exact ⟨k + 1, by omega, by go_num, HA⟩
        case measure => simp [intOf]; omega
      · have q : ((n1 : Int) != size) = true := by simpa using e
        have HF : Hid (ltB m size = false) := Lib.hid (by
          unfold ltB
          have : (List.range m.length).all (fun i => decide (((gR m i).length : Int) = size)) = false := by
            rw [List.all_eq_false]; exact ⟨k, List.mem_range.2 (by rw [HL.out]; exact hlt), by rw [HR1.out]; simpa using e⟩
          rw [this]; rfl)
        have HE := Lib.hid e
        clear e
        go_wp2
        go_ret
        exact ⟨ret_bool HF.out.symm, rfl⟩
    · have HF : Hid (ltB m size = decide (n < 16)) := Lib.hid (by
        unfold ltB
        have : (List.range m.length).all (fun i => decide (((gR m i).length : Int) = size)) = true := by
          rw [List.all_eq_true]; intro i hi; rw [List.mem_range, HL.out] at hi; simpa using hall.out i (by omega)
        rw [this, HL.out]; rfl)
      by_cases h16 : n < 16
      · have q2 : decide ((n : Int) ≤ 15) = true := by simp; omega
        have HF' : Hid (ltB m size = true) := Lib.hid (by rw [HF.out]; simpa using h16)
        go_wp2
        go_ret
        exact ⟨ret_bool HF'.out.symm, rfl⟩
      · have q2 : decide ((n : Int) ≤ 15) = false := by simp; omega
        have HF' : Hid (ltB m size = false) := Lib.hid (by rw [HF.out]; simpa using h16)
        go_wp2
        go_ret
        exact ⟨ret_bool HF'.out.symm, rfl⟩

/-- All numbers from 1 to 255, none twice. -/
def dsB (z : List Int) : Bool := (List.range z.length).all (xOk z)
theorem xsB_eq (z : List Int) : xsB z = (decide (z.length ≤ 64) && dsB z) := rfl
theorem dsB_true {z : List Int} (h : ∀ i, i < z.length → xOk z i = true) : dsB z = true := by
  unfold dsB; rw [List.all_eq_true]; exact fun i hi => h i (List.mem_range.1 hi)
theorem dsB_false {z : List Int} {i : Nat} (hi : i < z.length) (h : xOk z i = false) : dsB z = false := by
  unfold dsB; rw [List.all_eq_false]; exact ⟨i, List.mem_range.2 hi, by simp [h]⟩

set_option maxRecDepth 100000 in
set_option maxHeartbeats 1000000 in
theorem rdist_any (A : Option Addr) (n c : Nat) (z : List Int) (w : World) (h : IS w A n c z) :
    Calls Try.prog 15 #[.slice A n c] w fun e w' => e = .returned (.bool (dsB z)) ∧ w = w' := by
  have hn := h.len_le
  have HL := Lib.hid h.1
  have H := Lib.hid h
  clear h
  go_enter Try.func15, Try.ntmps15
  go_wp2
  go_loop [8] (fun i => ∃ k : Nat, k ≤ n ∧ i = .int .i64 (k : Int) ∧ Hid (∀ j, j < k → xOk z j = true)) (fun i => n - (intOf i).toNat)
  case atStart => exact ⟨0, by omega, rfl, Lib.hid (fun j hj => absurd hj (by omega))⟩
  case round =>
    obtain ⟨k, hk, rfl, hall⟩ := hrel
    by_cases hlt : k < n
    · obtain ⟨g, o, rfl, hc⟩ := H.out.at_ (Below.refl _ _) hlt
      obtain ⟨x, hx⟩ : ∃ x, x = gI z k := ⟨_, rfl⟩
      rw [← hx] at hc
      have HX := Lib.hid hx
      clear hx
      by_cases h1 : x < 1
      · have q : decide (x < 1) = true := by simpa using h1
        have HF : Hid (dsB z = false) := Lib.hid (dsB_false (i := k) (by rw [HL.out]; exact hlt) (by unfold xOk; rw [← HX.out]; simp [vX]; omega))
        go_wp2
        go_ret
        exact ⟨ret_bool HF.out.symm, rfl⟩
      have q : decide (x < 1) = false := by simpa using h1
      by_cases h2 : 255 < x
      · have q' : decide (255 < x) = true := by simpa using h2
        have HF : Hid (dsB z = false) := Lib.hid (dsB_false (i := k) (by rw [HL.out]; exact hlt) (by unfold xOk; rw [← HX.out]; simp [vX]; omega))
        go_wp2
        go_ret
        exact ⟨ret_bool HF.out.symm, rfl⟩
      have q' : decide (255 < x) = false := by simpa using h2
      have HV : Hid (vX (gI z k) = true) := Lib.hid (vX_iff.2 (by rw [← HX.out]; omega))
      go_wp2
      go_loop [5] (fun i => ∃ j : Nat, j ≤ k ∧ i = .int .i64 (j : Int) ∧ Hid (∀ i, i < j → gI z i ≠ x)) (fun i => k - (intOf i).toNat)
      case atStart => exact ⟨0, by omega, rfl, Lib.hid (fun i hi => absurd hi (by omega))⟩
      case round =>
        obtain ⟨j, hj, rfl, hne⟩ := hrel
        by_cases hjk : j < k
        · obtain ⟨g', o', hA, hc'⟩ := H.out.at_ (Below.refl _ _) (k := j) (by omega)
          injection hA with hA
          injection hA with e1 e2
          subst e1 e2
          obtain ⟨y, hy⟩ : ∃ y, y = gI z j := ⟨_, rfl⟩
          rw [← hy] at hc'
          have HY := Lib.hid hy
          clear hy
          by_cases he : y = x
          · have q3 : (y == x) = true := by simpa using he
            have HF : Hid (dsB z = false) := Lib.hid (dsB_false (i := k) (by rw [HL.out]; exact hlt) (by
              unfold xOk
              have : (List.range k).any (fun j => gI z j == gI z k) = true := by rw [List.any_eq_true]; exact ⟨j, List.mem_range.2 hjk, by rw [← HY.out, ← HX.out]; exact q3⟩
              rw [this]; simp))
            clear he
            go_wp2
            go_ret
            exact ⟨ret_bool HF.out.symm, rfl⟩
          · have q3 : (y == x) = false := by simpa using he
            have HN : Hid (∀ i, i < j + 1 → gI z i ≠ x) := Lib.hid (fun i hi => by
              by_cases e' : i = j
              · subst e'; rw [← HY.out]; exact he
              · exact hne.out i (by omega))
            clear he
            go_wp2
            go_round
            case rel => exact ⟨j + 1, by omega, by go_num, HN⟩
            case measure => simp [intOf]; omega
        · obtain rfl : j = k := by omega
          have HA : Hid (∀ i, i < j + 1 → xOk z i = true) := Lib.hid (fun i hi => by
            by_cases e' : i = j
            · subst e'
              unfold xOk
              have : (List.range i).any (fun j => gI z j == gI z i) = false := by
                rw [List.any_eq_false]; intro i' hi'
                have := hne.out i' (List.mem_range.1 hi')
                rw [HX.out] at this
                simpa using this
              rw [HV.out, this]; rfl
            · exact hall.out i (by omega))
          go_wp2
          go_round
          case rel => exact ⟨j + 1, by omega, by go_num, HA⟩
          case measure => simp [intOf]; omega
    · have HF : Hid (dsB z = true) := Lib.hid (dsB_true fun i hi => hall.out i (by rw [HL.out] at hi; omega))
      go_wp2
      go_ret
      exact ⟨ret_bool HF.out.symm, rfl⟩
end Go.Proofs.Ytakedococfklgaa
