/- Contracts of the references kinkeepref04: Same, Ints. -/
import Derived.Test.YtoeeklkebcgmaaaRf2
import Derived.Test.YtoeeklkebcgmaaaStr
namespace Go.Proofs.Ytoeeklkebcgmaaa
open Go.RowKit Gf

def sameB (a b : List (List UInt8)) : Bool := decide (a = b)
theorem same_true {a b : List (List UInt8)} (hl : a.length = b.length) (h : ∀ j, j < a.length → gR a j = gR b j) : sameB a b = true := by
  refine decide_eq_true (List.ext_getElem hl fun i h1 h2 => ?_)
  have := h i h1
  rwa [gR_eq h1, gR_eq h2] at this
theorem same_false {a b : List (List UInt8)} {j : Nat} (h : gR a j ≠ gR b j) : sameB a b = false := decide_eq_false fun e => h (by rw [e])

set_option maxRecDepth 100000 in
set_option maxHeartbeats 1000000 in
theorem same_any (A A' : Option Addr) (n c n' c' : Nat) (a b : List (List UInt8)) (w : World) (h : MS w A n c a) (h' : MS w A' n' c' b) :
    Calls Try.prog 18 #[.slice A n c, .slice A' n' c'] w fun e w' => e = .returned (.bool (sameB a b)) ∧ Below w.heap.size w w' := by
  have HLa := Lib.hid h.1
  have HLb := Lib.hid h'.1
  have HA := Lib.hid h
  have HB := Lib.hid h'
  have hn := h.len_le
  clear h h'
  by_cases hnn : n = n'
  · subst hnn
    have hq : ((n : Int) != (n : Int)) = false := by simp
    go_enter Try.func18, Try.ntmps18
    go_wp2_with fail
    go_loopw [5] (fun i wr => ∃ k : Nat, k ≤ n ∧ i = .int .i64 (k : Int) ∧ Hid (∀ j, j < k → gR a j = gR b j) ∧ Hid (Below w.heap.size w wr)) (fun i _ => n - (intOf i).toNat)
    case atStart => exact ⟨0, by omega, rfl, Lib.hid (fun j hj => absurd hj (by omega)), Lib.hid (Below.refl _ _)⟩
    case round =>
      obtain ⟨k, hk, rfl, hE, hb⟩ := hrel
      by_cases hlt : k < n
      · obtain ⟨g1, o1, A1, n1, c1, rfl, hc1, hr1⟩ := HA.out.at_ hb.out hlt
        obtain ⟨g2, o2, A2, n2, c2, rfl, hc2, hr2⟩ := HB.out.at_ hb.out hlt
        have cv1 := conv_str hr1.drew
        have cv2 := conv_str hr2.drew
        clear hr1 hr2
        by_cases he : gR a k = gR b k
        · have hbb : ((strB (gR a k)).toList == (strB (gR b k)).toList) = true := by rw [strB_eq, decide_eq_true he]
          have HE' : Hid (∀ j, j < k + 1 → gR a j = gR b j) := Lib.hid (fun j hj => by
            by_cases e : j = k
            · rw [e]; exact he
            · exact hE.out j (by omega))
          have HB' : Hid (Below w.heap.size w wr.drew) := Lib.hid hb.out.drew
          clear he hE hb
          go_wp2_with fail
          refine Text.wp_region_text (fun _ => True) [(0, 4), (1, 4), (2, 4), (5, 4), (6, 4), (7, 4), (3, 1), (4, 1), (8, 1), (9, 1), (10, 4)] (by kernel_rfl) (by kernel_rfl) (fun _ _ _ _ _ h => h) (trivial) ?_
          iterate 6 (refine Text.purek rfl rfl (fun K hK => ⟨_, fun w' => by go_simp <;> rfl, ?_⟩); go_simp; refine hK _ ?_; clear hK K)
          iterate 4 (refine Text.readk rfl rfl (fun K hK => ⟨_, by go_simp <;> rfl, ?_⟩); go_simp; refine hK _ ?_; clear hK K)
          (refine Text.purek rfl rfl (fun K hK => ⟨_, fun w' => by go_simp <;> rfl, ?_⟩); go_simp; refine hK _ ?_; clear hK K)
          refine Text.done ?_
          go_wp2_with fail
          go_roundw
          case rel => exact ⟨k + 1, by omega, by go_num, HE', HB'⟩
          case measure => simp [intOf]; omega
        · have hbb : ((strB (gR a k)).toList == (strB (gR b k)).toList) = false := by rw [strB_eq, decide_eq_false he]
          have HS := Lib.hid (same_false he)
          have HB' : Hid (Below w.heap.size w wr.drew) := Lib.hid hb.out.drew
          clear he hE hb
          go_wp2_with fail
          refine Text.wp_region_text (fun _ => True) [(0, 4), (1, 4), (2, 4), (5, 4), (6, 4), (7, 4), (3, 1), (4, 1), (8, 1), (9, 1), (10, 4)] (by kernel_rfl) (by kernel_rfl) (fun _ _ _ _ _ h => h) (trivial) ?_
          iterate 6 (refine Text.purek rfl rfl (fun K hK => ⟨_, fun w' => by go_simp <;> rfl, ?_⟩); go_simp; refine hK _ ?_; clear hK K)
          iterate 4 (refine Text.readk rfl rfl (fun K hK => ⟨_, by go_simp <;> rfl, ?_⟩); go_simp; refine hK _ ?_; clear hK K)
          (refine Text.purek rfl rfl (fun K hK => ⟨_, fun w' => by go_simp <;> rfl, ?_⟩); go_simp; refine hK _ ?_; clear hK K)
          refine Text.done ?_
          go_wp2_with fail
          go_ret
          exact ⟨ret_bool HS.out.symm, HB'.out⟩
      · obtain rfl : k = n := by omega
        have HS : Hid (sameB a b = true) := Lib.hid (same_true (by rw [HLa.out, HLb.out]) (fun j hj => hE.out j (by rw [← HLa.out]; exact hj)))
        go_wp2_with fail
        go_ret
        exact ⟨ret_bool HS.out.symm, hb.out⟩
  · have hq : ((n : Int) != (n' : Int)) = true := by simp; omega
    have HS : Hid (sameB a b = false) := Lib.hid (decide_eq_false fun e => hnn (by rw [← HLa.out, ← HLb.out, e]))
    clear hnn
    go_enter Try.func18, Try.ntmps18
    go_wp2_with fail
    go_ret
    exact ⟨ret_bool HS.out.symm, Below.refl _ _⟩

def intsB (a b : List Int) : Bool := decide (a = b)
theorem intsB_true {a b : List Int} (hl : a.length = b.length) (h : ∀ j, j < a.length → gI a j = gI b j) : intsB a b = true := by
  refine decide_eq_true (List.ext_getElem hl fun i h1 h2 => ?_)
  have := h i h1
  rwa [gI_eq h1, gI_eq h2] at this
theorem intsB_false {a b : List Int} {j : Nat} (h : gI a j ≠ gI b j) : intsB a b = false := decide_eq_false fun e => h (by rw [e])

set_option maxRecDepth 100000 in
set_option maxHeartbeats 1000000 in
theorem ints_any (A A' : Option Addr) (n c n' c' : Nat) (a b : List Int) (w : World) (h : IS w A n c a) (h' : IS w A' n' c' b) :
    Calls Try.prog 23 #[.slice A n c, .slice A' n' c'] w fun e w' => e = .returned (.bool (intsB a b)) ∧ Below w.heap.size w w' := by
  have HLa := Lib.hid h.1
  have HLb := Lib.hid h'.1
  have HA := Lib.hid h
  have HB := Lib.hid h'
  have hn := h.len_le
  clear h h'
  by_cases hnn : n = n'
  · subst hnn
    have hq : ((n : Int) != (n : Int)) = false := by simp
    go_enter Try.func23, Try.ntmps23
    go_wp2_with fail
    go_loopw [5] (fun i wr => ∃ k : Nat, k ≤ n ∧ i = .int .i64 (k : Int) ∧ Hid (∀ j, j < k → gI a j = gI b j) ∧ Hid (Below w.heap.size w wr)) (fun i _ => n - (intOf i).toNat)
    case atStart => exact ⟨0, by omega, rfl, Lib.hid (fun j hj => absurd hj (by omega)), Lib.hid (Below.refl _ _)⟩
    case round =>
      obtain ⟨k, hk, rfl, hE, hb⟩ := hrel
      by_cases hlt : k < n
      · obtain ⟨g1, o1, rfl, hc1⟩ := HA.out.at_ hb.out hlt
        obtain ⟨g2, o2, rfl, hc2⟩ := HB.out.at_ hb.out hlt
        by_cases he : gI a k = gI b k
        · have hbb : (gI a k != gI b k) = false := by simp [he]
          have HE' : Hid (∀ j, j < k + 1 → gI a j = gI b j) := Lib.hid (fun j hj => by
            by_cases e : j = k
            · rw [e]; exact he
            · exact hE.out j (by omega))
          have HB' : Hid (Below w.heap.size w wr.drew) := Lib.hid hb.out.drew
          clear he hE hb
          go_wp2_with fail
          refine Text.wp_region_text (fun _ => True) [(0, 4), (1, 4), (2, 4), (4, 4), (5, 4), (6, 4), (3, 1), (7, 1), (8, 4)] (by kernel_rfl) (by kernel_rfl) (fun _ _ _ _ _ h => h) (trivial) ?_
          iterate 6 (refine Text.purek rfl rfl (fun K hK => ⟨_, fun w' => by go_simp <;> rfl, ?_⟩); go_simp; refine hK _ ?_; clear hK K)
          iterate 2 (refine Text.readk rfl rfl (fun K hK => ⟨_, by go_simp <;> rfl, ?_⟩); go_simp; refine hK _ ?_; clear hK K)
          (refine Text.purek rfl rfl (fun K hK => ⟨_, fun w' => by go_simp <;> rfl, ?_⟩); go_simp; refine hK _ ?_; clear hK K)
          refine Text.done ?_
          go_wp2_with fail
          go_roundw
          case rel => exact ⟨k + 1, by omega, by go_num, HE', HB'⟩
          case measure => simp [intOf]; omega
        · have hbb : (gI a k != gI b k) = true := by simp [he]
          have HS := Lib.hid (intsB_false he)
          have HB' : Hid (Below w.heap.size w wr.drew) := Lib.hid hb.out.drew
          clear he hE hb
          go_wp2_with fail
          refine Text.wp_region_text (fun _ => True) [(0, 4), (1, 4), (2, 4), (4, 4), (5, 4), (6, 4), (3, 1), (7, 1), (8, 4)] (by kernel_rfl) (by kernel_rfl) (fun _ _ _ _ _ h => h) (trivial) ?_
          iterate 6 (refine Text.purek rfl rfl (fun K hK => ⟨_, fun w' => by go_simp <;> rfl, ?_⟩); go_simp; refine hK _ ?_; clear hK K)
          iterate 2 (refine Text.readk rfl rfl (fun K hK => ⟨_, by go_simp <;> rfl, ?_⟩); go_simp; refine hK _ ?_; clear hK K)
          (refine Text.purek rfl rfl (fun K hK => ⟨_, fun w' => by go_simp <;> rfl, ?_⟩); go_simp; refine hK _ ?_; clear hK K)
          refine Text.done ?_
          go_wp2_with fail
          go_ret
          exact ⟨ret_bool HS.out.symm, HB'.out⟩
      · obtain rfl : k = n := by omega
        have HS : Hid (intsB a b = true) := Lib.hid (intsB_true (by rw [HLa.out, HLb.out]) (fun j hj => hE.out j (by rw [← HLa.out]; exact hj)))
        go_wp2_with fail
        go_ret
        exact ⟨ret_bool HS.out.symm, hb.out⟩
  · have hq : ((n : Int) != (n' : Int)) = true := by simp; omega
    have HS : Hid (intsB a b = false) := Lib.hid (decide_eq_false fun e => hnn (by rw [← HLa.out, ← HLb.out, e]))
    clear hnn
    go_enter Try.func23, Try.ntmps23
    go_wp2_with fail
    go_ret
    exact ⟨ret_bool HS.out.symm, Below.refl _ _⟩
end Go.Proofs.Ytoeeklkebcgmaaa
