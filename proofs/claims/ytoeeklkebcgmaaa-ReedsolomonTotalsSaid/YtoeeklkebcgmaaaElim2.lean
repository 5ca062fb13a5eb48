/- Contracts of package matrix: the search for a pivot, reduce. -/
import Derived.Test.YtoeeklkebcgmaaaElim
import Derived.Test.YtoeeklkebcgmaaaApp
namespace Go.Proofs.Ytoeeklkebcgmaaa
open Go.RowKit Gf

attribute [local go_sem] Gf.xor_bits Gf.and_bits Gf.or_bits Gf.ne_zero_iff Gf.eq_zero_iff Gf.eq_one_iff Gf.beq_bytes Gf.bne_bytes Gf.bv_toNat

/-- The first row from top on that is not 0 in column col. -/
def pvF (m : List (List UInt8)) (top col : Nat) : Option Nat := (List.range m.length).find? (fun i => decide (top ≤ i) && (gB (gR m i) col != 0))
def pvI : Option Nat → Int
  | some k => (k : Int)
  | none => -1
theorem pvF_some {m : List (List UInt8)} {top col k : Nat} (h1 : top ≤ k) (h2 : k < m.length) (h3 : gB (gR m k) col ≠ 0) (h4 : ∀ j, top ≤ j → j < k → gB (gR m j) col = 0) : pvF m top col = some k := by
  unfold pvF
  rw [List.find?_range_eq_some]
  refine ⟨by simp [h1, h3], List.mem_range.2 h2, fun j hj => ?_⟩
  by_cases e : top ≤ j
  · simp [h4 j e hj]
  · simp [e]
theorem pvF_none {m : List (List UInt8)} {top col : Nat} (h4 : ∀ j, top ≤ j → j < m.length → gB (gR m j) col = 0) : pvF m top col = none := by
  unfold pvF
  rw [List.find?_eq_none]
  intro j hj
  have hj' := List.mem_range.1 hj
  by_cases e : top ≤ j
  · simp [h4 j e hj']
  · simp [e]
theorem pvF_spec {m : List (List UInt8)} {top col k : Nat} (h : pvF m top col = some k) : top ≤ k ∧ k < m.length ∧ gB (gR m k) col ≠ 0 := by
  unfold pvF at h
  rw [List.find?_range_eq_some] at h
  obtain ⟨h1, h2, _⟩ := h
  simp at h1
  exact ⟨h1.1, List.mem_range.1 h2, h1.2⟩

set_option maxHeartbeats 1000000 in
theorem find_any (gt gx gc ge gr n cap : Nat) (pv : Value) (pr : UInt8) (cs : Array Value) (m : List (List UInt8)) (F : List Nat) (L top col : Nat) (w : World) (h : Elim w ge gr n cap pv pr cs m F) (hL : Rect m L) (hn : n ≤ 140737488355328)
    (ht : top ≤ n) (hc : col < L) (ct : w.cell? ⟨gt, 0, none⟩ = some (.int .i64 (top : Int))) (cx : w.cell? ⟨gx, 0, none⟩ = some (.pointer (some ⟨ge, 0, none⟩))) (cc : w.cell? ⟨gc, 0, none⟩ = some (.int .i64 (col : Int))) :
    Calls Try.prog 93 #[.pointer (some ⟨gt, 0, none⟩), .pointer (some ⟨gx, 0, none⟩), .pointer (some ⟨gc, 0, none⟩)] w fun e w' => e = .returned (.int .i64 (pvI (pvF m top col))) ∧ ∃ q, w' = w.drewN q := by
  have ce := h.rowsCell
  have HE := Lib.hid h
  clear h
  go_enter Try.func93, Try.ntmps93
  go_wp2
  go_loopw [4] (fun i wr => ∃ k q : Nat, top ≤ k ∧ k ≤ n ∧ i = .int .i64 (k : Int) ∧ wr = w.drewN q ∧ Hid (∀ j, top ≤ j → j < k → gB (gR m j) col = 0)) (fun i _ => n - (intOf i).toNat)
  case atStart => exact ⟨top, 0, Nat.le_refl _, ht, rfl, rfl, Lib.hid (fun j h1 h2 => absurd h1 (by omega))⟩
  case round =>
    obtain ⟨k, q, hk1, hk, rfl, rfl, hz⟩ := hrel
    by_cases hlt : k < n
    · obtain ⟨A1, c1, hc1, hr1⟩ := HE.out.row hL hlt
      obtain ⟨g1, o1, rfl, hb1⟩ := hr1.at_ (Below.refl _ _) hc
      clear hr1
      by_cases hnz : gB (gR m k) col = 0
      · have hd : (gB (gR m k) col != 0) = false := by simp [hnz]
        have HR : Hid (∀ j, top ≤ j → j < k + 1 → gB (gR m j) col = 0) := Lib.hid (fun j h1 h2 => by
          by_cases e : j = k
          · rw [e]; exact hnz
          · exact hz.out j h1 (by omega))
        clear hnz
        go_wp2
        refine Text.wp_region_text (fun _ => True) [(4, 4), (0, 1), (1, 4), (2, 4), (3, 1), (5, 4), (6, 1), (7, 1), (8, 4), (9, 1), (10, 4)] (by kernel_rfl) (by kernel_rfl) (fun _ _ _ _ _ h => h) (trivial) ?_
        (refine Text.purek rfl rfl (fun K hK => ⟨_, fun w' => by go_simp <;> rfl, ?_⟩); go_simp; refine hK _ ?_; clear hK K)
        (refine Text.readk rfl rfl (fun K hK => ⟨_, by go_simp <;> rfl, ?_⟩); go_simp; refine hK _ ?_; clear hK K)
        iterate 2 (refine Text.purek rfl rfl (fun K hK => ⟨_, fun w' => by go_simp <;> rfl, ?_⟩); go_simp; refine hK _ ?_; clear hK K)
        (refine Text.readk rfl rfl (fun K hK => ⟨_, by go_simp <;> rfl, ?_⟩); go_simp; refine hK _ ?_; clear hK K)
        (refine Text.purek rfl rfl (fun K hK => ⟨_, fun w' => by go_simp <;> rfl, ?_⟩); go_simp; refine hK _ ?_; clear hK K)
        iterate 2 (refine Text.readk rfl rfl (fun K hK => ⟨_, by go_simp <;> rfl, ?_⟩); go_simp; refine hK _ ?_; clear hK K)
        (refine Text.purek rfl rfl (fun K hK => ⟨_, fun w' => by go_simp <;> rfl, ?_⟩); go_simp; refine hK _ ?_; clear hK K)
        (refine Text.readk rfl rfl (fun K hK => ⟨_, by go_simp <;> rfl, ?_⟩); go_simp; refine hK _ ?_; clear hK K)
        (refine Text.purek rfl rfl (fun K hK => ⟨_, fun w' => by go_simp <;> rfl, ?_⟩); go_simp; refine hK _ ?_; clear hK K)
        refine Text.done ?_
        go_wp2
        go_roundw
        case rel => exact ⟨k + 1, q + 1, by omega, by omega, by go_num, rfl, HR⟩
        case measure => simp [intOf]; omega
      · have hd : (gB (gR m k) col != 0) = true := by simp [hnz]
        have HR : Hid (pvF m top col = some k) := Lib.hid (pvF_some hk1 (by rw [HE.out.2.2.1]; exact hlt) hnz hz.out)
        clear hnz
        go_wp2
        refine Text.wp_region_text (fun _ => True) [(4, 4), (0, 1), (1, 4), (2, 4), (3, 1), (5, 4), (6, 1), (7, 1), (8, 4), (9, 1), (10, 4)] (by kernel_rfl) (by kernel_rfl) (fun _ _ _ _ _ h => h) (trivial) ?_
        (refine Text.purek rfl rfl (fun K hK => ⟨_, fun w' => by go_simp <;> rfl, ?_⟩); go_simp; refine hK _ ?_; clear hK K)
        (refine Text.readk rfl rfl (fun K hK => ⟨_, by go_simp <;> rfl, ?_⟩); go_simp; refine hK _ ?_; clear hK K)
        iterate 2 (refine Text.purek rfl rfl (fun K hK => ⟨_, fun w' => by go_simp <;> rfl, ?_⟩); go_simp; refine hK _ ?_; clear hK K)
        (refine Text.readk rfl rfl (fun K hK => ⟨_, by go_simp <;> rfl, ?_⟩); go_simp; refine hK _ ?_; clear hK K)
        (refine Text.purek rfl rfl (fun K hK => ⟨_, fun w' => by go_simp <;> rfl, ?_⟩); go_simp; refine hK _ ?_; clear hK K)
        iterate 2 (refine Text.readk rfl rfl (fun K hK => ⟨_, by go_simp <;> rfl, ?_⟩); go_simp; refine hK _ ?_; clear hK K)
        (refine Text.purek rfl rfl (fun K hK => ⟨_, fun w' => by go_simp <;> rfl, ?_⟩); go_simp; refine hK _ ?_; clear hK K)
        (refine Text.readk rfl rfl (fun K hK => ⟨_, by go_simp <;> rfl, ?_⟩); go_simp; refine hK _ ?_; clear hK K)
        (refine Text.purek rfl rfl (fun K hK => ⟨_, fun w' => by go_simp <;> rfl, ?_⟩); go_simp; refine hK _ ?_; clear hK K)
        refine Text.done ?_
        go_wp2
        go_ret
        exact ⟨by rw [HR.out]; rfl, q + 1, rfl⟩
    · have HR : Hid (pvF m top col = none) := Lib.hid (pvF_none (fun j h1 h2 => hz.out j h1 (by rw [HE.out.2.2.1] at h2; omega)))
      go_wp2
      go_ret
      exact ⟨by rw [HR.out]; rfl, q, rfl⟩
end Go.Proofs.Ytoeeklkebcgmaaa
