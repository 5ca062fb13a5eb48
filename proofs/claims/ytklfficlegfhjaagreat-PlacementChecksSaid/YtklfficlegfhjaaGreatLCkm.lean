/- PlacementChecks: the walk. -/
import Derived.Test.YtklfficlegfhjaaGreatKlm
import Derived.Test.YtklfficlegfhjaaGreatLfm
namespace Go.Proofs.YtklfficlegfhjaaGreat
open Go Go.RowKit Go.Shelf Gf Sha

set_option maxRecDepth 100000 in
set_option maxHeartbeats 4000000 in
theorem checks_walk (A : Option Addr) (n c : Nat) (ws : List Wt) (B : Option Addr) (m d : Nat) (hs : List Hd) (P : Option Addr) (p q : Nat) (ps : List Pl) (w : World) (h : LS rWt 4 40 w A n c ws) (hh : LS rHd 3 24 w B m d hs) (hp : LS rPl 3 32 w P p q ps) :
    Calls Tryz.prog 3 #[.slice A n c, .slice B m d, .slice P p q] w fun e w' => e = .returned (.bool true) ∧ Below w.heap.size w w' := by
  have H := Lib.hid h
  have HH := Lib.hid hh
  have HP := Lib.hid hp
  clear h hh hp
  cases f1 : fewB n m p with
  | false =>
    go_enter Tryz.func3, Tryz.ntmps3
    go_wp2_with (first
      | (go_at_call 9; refine (few_any A n c B m d P p q w).mono ?_; rintro e w1 ⟨rfl, hw⟩; rw [hw, f1]; clear hw w1)
      | (go_at_call 10; refine (awake_any w).mono ?_; rintro e w1 ⟨rfl, b1⟩; have HB1 := Lib.hid b1; clear b1))
    go_ret
    exact ⟨rfl, HB1.out⟩
  | true =>
    have HPM : Hid (p ≤ 100000) := Lib.hid (by unfold fewB at f1; simp at f1; omega)
    obtain ⟨E, hE⟩ : ∃ E, E = checkE ws hs ps := ⟨_, rfl⟩
    have HE := Lib.hid hE
    have f6 : (E == E) = true := beq_self_eq_true _
    clear hE
    go_enter Tryz.func3, Tryz.ntmps3
    go_wp2_with (first
      | (go_at_call 9; refine (few_any A n c B m d P p q w).mono ?_; rintro e w1 ⟨rfl, hw⟩; rw [hw, f1]; clear hw w1)
      | (go_at_call 10; refine (awake_any w).mono ?_; rintro e w1 ⟨rfl, b1⟩; have HB1 := Lib.hid b1; clear b1)
      | (go_at_call 11; refine (check_any A n c ws B m d hs P p q ps w1 (H.out.kept stay_wt HB1.out) (HH.out.kept stay_hd HB1.out) (HP.out.kept stay_pl HB1.out) HPM.out).mono ?_; rintro e w2 ⟨rfl, r2⟩; rw [← HE.out]; have HB2 := Lib.hid (below_then HB1.out r2); clear r2)
      | (go_at_call 13; refine (of_rwt A n c ws w2 (H.out.kept stay_wt HB2.out)).mono ?_; rintro e w3 ⟨A3, c3, rfl, r1, r2⟩; have HW3 := Lib.hid r1; have HB3 := Lib.hid (below_then HB2.out r2); clear r1 r2)
      | (go_at_call 14; refine (of_rhd B m d hs w3 (HH.out.kept stay_hd HB3.out)).mono ?_; rintro e w4 ⟨A4, c4, rfl, r1, r2⟩; have HH4 := Lib.hid r1; have HW4 := Lib.hid (HW3.out.kept stay_wt r2); have HB4 := Lib.hid (below_then HB3.out r2); clear r1 r2)
      | (go_at_call 15; refine (of_rpl P p q ps w4 (HP.out.kept stay_pl HB4.out)).mono ?_; rintro e w5 ⟨A5, c5, rfl, r1, r2⟩; have HP5 := Lib.hid r1; have HW5 := Lib.hid (HW4.out.kept stay_wt r2); have HH5 := Lib.hid (HH4.out.kept stay_hd r2); have HB5 := Lib.hid (below_then HB4.out r2); clear r1 r2)
      | (go_at_call 12; refine (rcheck_any A3 n c3 ws A4 m c4 hs A5 p c5 ps w5 HW5.out HH5.out HP5.out HPM.out).mono ?_; rintro e w6 ⟨rfl, r2⟩; rw [← HE.out]; have HB6 := Lib.hid (below_then HB5.out r2); clear r2))
    go_ret
    exact ⟨rfl, HB6.out⟩
end Go.Proofs.YtklfficlegfhjaaGreat
