/- Contracts of package matrix: Apply and Mul on matrices that fit. -/
import Derived.Test.YtoeeklkebcgmaaaMat2
namespace Go.Proofs.Ytoeeklkebcgmaaa
open Go.RowKit Gf

attribute [local go_sem] Gf.xor_bits Gf.and_bits Gf.or_bits Gf.ne_zero_iff Gf.eq_zero_iff Gf.eq_one_iff Gf.beq_bytes Gf.bne_bytes Gf.bv_toNat

theorem ncols_eq {m : List (List UInt8)} {L : Nat} (h : Rect m L) (h0 : 0 < m.length) : (gR m 0).length = L := h 0 h0

set_option maxHeartbeats 1000000 in
theorem apply_any (A A' : Option Addr) (n n' c c' : Nat) (m blocks : List (List UInt8)) (L : Nat) (w : World) (h : MS w A n c m) (h' : MS w A' n' c' blocks)
    (hm : Rect m n') (hbk : Rect blocks L) (hL : L ≤ 140737488355328) (hn : 0 < n) (hn64 : n ≤ 64) (hn' : 0 < n') (hn64' : n' ≤ 64) :
    Calls Try.prog 38 #[.slice A n c, .slice A' n' c'] w (Rets0 (NewM 22 (cmat m blocks L n 0)) w) := by
  have HLm := Lib.hid h.1
  have HLb := Lib.hid h'.1
  have HC := Lib.hid (ncols_eq hm (by rw [h.1]; exact hn))
  have HC' := Lib.hid (ncols_eq hbk (by rw [h'.1]; exact hn'))
  go_enter Try.func38, Try.ntmps38
  go_wp2_with (first
    | (go_at_call 53; refine (valid_any A n c m n' _ h hm hn64 hn64').mono ?_; rintro e w' ⟨rfl, rfl⟩)
    | (go_at_call 54; refine (columns_any A n c m _ h).mono ?_; rintro e w' ⟨rfl, rfl⟩; rw [HC.out]))
  go_loop [20] (fun i => ∃ k : Nat, k ≤ n' ∧ i = .int .i64 (k : Int)) (fun i => n' - (intOf i).toNat)
  case atStart => exact ⟨0, by omega, rfl⟩
  case round =>
    obtain ⟨k, hk, rfl⟩ := hrel
    by_cases hlt : k < n'
    · obtain ⟨g, o, A1, n1, c1, rfl, hc, hr1⟩ := h'.at_ (Below.refl _ _) hlt
      obtain ⟨g', o', A2, n2, c2, e2, hc2, hr2⟩ := h'.at_ (Below.refl _ _) hn'
      injection e2 with e2
      injection e2 with e3 e4
      subst e3 e4
      rw [Nat.add_zero] at hc2
      have hne : n1 = n2 := by
        rw [← hr1.1, ← hr2.1, hbk k (by rw [HLb.out]; exact hlt), hbk 0 (by rw [HLb.out]; omega)]
      subst hne
      clear hr1 hr2 h h'
      go_wp2
      go_round
      case rel => exact ⟨k + 1, by omega, by go_num⟩
      case measure => simp [intOf]; omega
    · go_wp2_with (first
        | (go_at_call 54; refine (columns_any A' n' c' blocks _ h').mono ?_; rintro e w' ⟨rfl, rfl⟩; rw [HC'.out])
        | (go_at_call 55; refine (combine_any A A' n n' c c' m blocks L _ h h' hm hbk hL).mono ?_; rintro e w' ⟨v, rfl, hv⟩))
      go_ret2
      exact ⟨_, rfl, hv⟩

set_option maxHeartbeats 1000000 in
theorem mmul_any (A A' : Option Addr) (n n' c c' : Nat) (m b : List (List UInt8)) (L : Nat) (w : World) (h : MS w A n c m) (h' : MS w A' n' c' b)
    (hm : Rect m n') (hbk : Rect b L) (hL : L ≤ 64) (hn : 0 < n) (hn64 : n ≤ 64) (hn' : 0 < n') (hn64' : n' ≤ 64) :
    Calls Try.prog 58 #[.slice A n c, .slice A' n' c'] w (Rets0 (NewM 22 (cmat m b L n 0)) w) := by
  have HC := Lib.hid (ncols_eq hm (by rw [h.1]; exact hn))
  have HC' := Lib.hid (ncols_eq hbk (by rw [h'.1]; exact hn'))
  go_enter Try.func58, Try.ntmps58
  go_wp2_with fail
  refine (valid_any A n c m n' _ h hm hn64 hn64').mono ?_
  rintro e w' ⟨rfl, rfl⟩
  go_wp2_with fail
  refine (valid_any A' n' c' b L _ h' hbk hn64' hL).mono ?_
  rintro e w' ⟨rfl, rfl⟩
  go_wp2_with fail
  refine (columns_any A n c m _ h).mono ?_
  rintro e w' ⟨rfl, rfl⟩
  rw [HC.out]
  go_wp2_with fail
  refine (columns_any A' n' c' b _ h').mono ?_
  rintro e w' ⟨rfl, rfl⟩
  rw [HC'.out]
  go_wp2_with fail
  refine (combine_any A A' n n' c c' m b L _ h h' hm hbk (by omega)).mono ?_
  rintro e w' ⟨v, rfl, hv⟩
  go_wp2
  go_ret2
  exact ⟨_, rfl, hv⟩
end Go.Proofs.Ytoeeklkebcgmaaa
