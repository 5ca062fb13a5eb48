/- The reference's DecodeReply. -/
import Derived.Test.YtfonbliomokffaaGreatTqm
import Derived.Test.YtfonbliomokffaaGreatTmm
namespace Go.Proofs.YtfonbliomokffaaGreat
open Go Go.RowKit Gf Sha

set_option maxRecDepth 100000 in
set_option maxHeartbeats 2000000 in
theorem rdecr_any (A : Option Addr) (n c : Nat) (b : List UInt8) (w : World) (h : BS w A n c b) :
    Calls Tryz.prog 36 #[.slice A n c] w fun e w' => e = .returned (.tuple #[.int .i64 ((drefS b).1 : Int), .int .i64 ((drefS b).2.1 : Int), .bool (drefS b).2.2]) ∧ Below w.heap.size w w' := by
  have HT1 := Lib.hid (take_any A n c b 11 (by decide) w h)
  obtain ⟨D, r1, k1, e1⟩ : ∃ D r k, takeS b 11 = (D, r, k) := ⟨_, _, _, rfl⟩
  obtain ⟨S, r2, k2, e2⟩ : ∃ D r k, takeS r1 1099511627776 = (D, r, k) := ⟨_, _, _, rfl⟩
  have HT2 := Lib.hid (fun A n c w (h : BS w A n c r1) => take_any A n c r1 1099511627776 (by decide) w h)
  have H := Lib.hid h
  rw [e1] at HT1
  rw [e2] at HT2
  clear h
  cases k1 with
  | false =>
    have HE : Hid (drefS b = (0, 0, false)) := Lib.hid (by unfold drefS; rw [e1]; rfl)
    clear e1 e2
    go_enter Tryz.func36, Tryz.ntmps36
    go_wp2_with (first
      | (go_at_call 71; (with_reducible show Calls _ _ #[_, .int .i64 11] _ _); refine HT1.out.mono ?_; rintro e w1 ⟨A1, n1, c1, rfl, x1, x2⟩; have HS1 := Lib.hid (x1 w H.out); have HB1 := Lib.hid x2; clear x1 x2)
      | fail)
    go_ret3
    rw [HE.out]
    exact ⟨rfl, HB1.out⟩
  | true =>
    have HE : Hid (drefS b = (D, S, k2 && (decide (1 ≤ S) && r2.isEmpty))) := Lib.hid (by unfold drefS; rw [e1]; simp only [if_true]; rw [e2])
    clear e1 e2
    cases k2 with
    | false =>
      go_enter Tryz.func36, Tryz.ntmps36
      go_wp2_with (first
        | (go_at_call 71; (with_reducible show Calls _ _ #[_, .int .i64 11] _ _); refine HT1.out.mono ?_; rintro e w1 ⟨A1, n1, c1, rfl, x1, x2⟩; have HS1 := Lib.hid (x1 w H.out); have HB1 := Lib.hid x2; clear x1 x2)
        | (go_at_call 71; (with_reducible show Calls _ _ _ w1 _); refine (HT2.out A1 n1 c1 w1 (HS1.out.kept HB1.out)).mono ?_; rintro e w2 ⟨A2, n2, c2, rfl, x1, x2⟩; have HB2 := Lib.hid (below_then HB1.out x2); clear x1 x2)
        | fail)
      go_ret3
      rw [HE.out]
      exact ⟨rfl, HB2.out⟩
    | true =>
      by_cases h1 : 1 ≤ S
      · by_cases h2 : r2 = []
        · have HF : Hid (drefS b = (D, S, true)) := Lib.hid (by rw [HE.out, decide_eq_true h1, h2]; rfl)
          have HL : Hid (r2.length = 0) := Lib.hid (by rw [h2]; rfl)
          clear h2
          go_enter Tryz.func36, Tryz.ntmps36
          go_wp2_with (first
            | (go_at_call 71; (with_reducible show Calls _ _ #[_, .int .i64 11] _ _); refine HT1.out.mono ?_; rintro e w1 ⟨A1, n1, c1, rfl, x1, x2⟩; have HS1 := Lib.hid (x1 w H.out); have HB1 := Lib.hid x2; clear x1 x2)
            | (go_at_call 71; (with_reducible show Calls _ _ _ w1 _); refine (HT2.out A1 n1 c1 w1 (HS1.out.kept HB1.out)).mono ?_; rintro e w2 ⟨A2, n2, c2, rfl, x1, x2⟩; have hn0 : n2 = 0 := (x1 w1 (HS1.out.kept HB1.out)).1.symm.trans HL.out; have HB2 := Lib.hid (below_then HB1.out x2); clear x1 x2; subst hn0)
            | fail)
          go_ret3
          rw [HF.out]
          exact ⟨rfl, HB2.out⟩
        · have HF : Hid (drefS b = (D, S, false)) := Lib.hid (by
            rw [HE.out]
            cases r2 with
            | nil => exact absurd rfl h2
            | cons a t => simp)
          have HL : Hid (0 < r2.length) := Lib.hid (List.length_pos_iff.2 h2)
          clear h2
          go_enter Tryz.func36, Tryz.ntmps36
          go_wp2_with (first
            | (go_at_call 71; (with_reducible show Calls _ _ #[_, .int .i64 11] _ _); refine HT1.out.mono ?_; rintro e w1 ⟨A1, n1, c1, rfl, x1, x2⟩; have HS1 := Lib.hid (x1 w H.out); have HB1 := Lib.hid x2; clear x1 x2)
            | (go_at_call 71; (with_reducible show Calls _ _ _ w1 _); refine (HT2.out A1 n1 c1 w1 (HS1.out.kept HB1.out)).mono ?_; rintro e w2 ⟨A2, n2, c2, rfl, x1, x2⟩; have f0 : ((n2 : Int) == 0) = false := (by rw [beq_eq_false_iff_ne]; have := (x1 w1 (HS1.out.kept HB1.out)).1; have := HL.out; omega); have HB2 := Lib.hid (below_then HB1.out x2); clear x1 x2)
            | fail)
          go_ret3
          rw [HF.out]
          exact ⟨rfl, HB2.out⟩
      · have HF : Hid (drefS b = (D, S, false)) := Lib.hid (by rw [HE.out, decide_eq_false h1]; rfl)
        have f1 : decide ((1 : Int) ≤ (S : Int)) = false := decide_eq_false (by omega)
        go_enter Tryz.func36, Tryz.ntmps36
        go_wp2_with (first
          | (go_at_call 71; (with_reducible show Calls _ _ #[_, .int .i64 11] _ _); refine HT1.out.mono ?_; rintro e w1 ⟨A1, n1, c1, rfl, x1, x2⟩; have HS1 := Lib.hid (x1 w H.out); have HB1 := Lib.hid x2; clear x1 x2)
          | (go_at_call 71; (with_reducible show Calls _ _ _ w1 _); refine (HT2.out A1 n1 c1 w1 (HS1.out.kept HB1.out)).mono ?_; rintro e w2 ⟨A2, n2, c2, rfl, x1, x2⟩; have HB2 := Lib.hid (below_then HB1.out x2); clear x1 x2)
          | fail)
        go_ret3
        rw [HF.out]
        exact ⟨rfl, HB2.out⟩
end Go.Proofs.YtfonbliomokffaaGreat
