/- Contract of ref44.Spots where its arguments are not valid. -/
import Derived.Test.YtgjgofjabdjclaaDoorRsom
namespace Go.Proofs.YtgjgofjabdjclaaDoor
open Go Go.RowKit Gf Sha

set_option maxHeartbeats 2000000 in
theorem rspots_no (nonce : List UInt8) (b c : Int) (w : World) (hv : spotB nonce.length b c = false) :
    Calls Tryd.prog 22 #[.string (strB nonce), .int .i64 b, .int .i64 c] w fun e w' => e = .returned (.tuple #[.slice none 0 0, .int .i64 1]) ∧ w = w' := by
  by_cases h1 : nonce.length = 32
  · have t1 : (((strB nonce).size : Int) != 32) = false := by rw [strB_size, h1]; rfl
    by_cases h2 : b < 1
    · have d2 : decide (b < 1) = true := decide_eq_true h2
      clear hv h1 h2
      go_enter Tryd.func22, Tryd.ntmps22
      go_wp2_with fail
      go_ret2
      exact ⟨rfl, rfl⟩
    · have d2 : decide (b < 1) = false := decide_eq_false h2
      by_cases h3 : 1048576 < b
      · have d3 : decide (1048576 < b) = true := decide_eq_true h3
        clear hv h1 h2 h3
        go_enter Tryd.func22, Tryd.ntmps22
        go_wp2_with fail
        go_ret2
        exact ⟨rfl, rfl⟩
      · have d3 : decide (1048576 < b) = false := decide_eq_false h3
        by_cases h4 : c < 0
        · have d4 : decide (c < 0) = true := decide_eq_true h4
          clear hv h1 h2 h3 h4
          go_enter Tryd.func22, Tryd.ntmps22
          go_wp2_with fail
          go_ret2
          exact ⟨rfl, rfl⟩
        · have d4 : decide (c < 0) = false := decide_eq_false h4
          by_cases h5 : 64 < c
          · have d5 : decide (64 < c) = true := decide_eq_true h5
            clear hv h1 h2 h3 h4 h5
            go_enter Tryd.func22, Tryd.ntmps22
            go_wp2_with fail
            go_ret2
            exact ⟨rfl, rfl⟩
          · have d5 : decide (64 < c) = false := decide_eq_false h5
            have h6 : b < c := by
              by_cases h : b < c
              · exact h
              · exfalso
                rw [spotB, decide_eq_true h1, decide_eq_true (show 1 ≤ b by omega), decide_eq_true (show b ≤ 1048576 by omega), decide_eq_true (show 0 ≤ c by omega), decide_eq_true (show c ≤ 64 by omega), decide_eq_true (show c ≤ b by omega)] at hv
                cases hv
            have d6 : decide (b < c) = true := decide_eq_true h6
            clear hv h1 h2 h3 h4 h5 h6
            go_enter Tryd.func22, Tryd.ntmps22
            go_wp2_with fail
            go_ret2
            exact ⟨rfl, rfl⟩
  · have t1 : (((strB nonce).size : Int) != 32) = true := by rw [strB_size]; simp only [bne_iff_ne, ne_eq]; omega
    clear hv h1
    go_enter Tryd.func22, Tryd.ntmps22
    go_wp2_with fail
    go_ret2
    exact ⟨rfl, rfl⟩
end Go.Proofs.YtgjgofjabdjclaaDoor
