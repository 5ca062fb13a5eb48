/- The reference's Possible. -/
import Derived.Test.YtklfficlegfhjaaGreatMom
import Derived.Test.YtklfficlegfhjaaGreatMhm
namespace Go.Proofs.YtklfficlegfhjaaGreat
open Go Go.RowKit Gf Sha

theorem bldSeP (A : Option Addr) (n c : Nat) (B : Option Addr) (m d xe bu : Nat) (w : World) : (Instr.build 106 #[(0, .slice A n c), (1, .slice B m d), (2, .int .i64 (xe : Int)), (3, .bool true), (4, .int .i64 (bu : Int))]).run Tryz.prog w = .ok (.agg (seC A n c B m d (xe : Int) true bu 0 false none 0 0).toArray) w := by kernel_rfl
set_option maxRecDepth 100000 in
set_option maxHeartbeats 4000000 in
theorem rpossible_any (A : Option Addr) (n c : Nat) (ws : List Wt) (B : Option Addr) (m d : Nat) (hs : List Hd) (bu xe : Nat) (w : World) (h : LS rWt 4 40 w A n c ws) (hh : LS rHd 3 24 w B m d hs) (hw : wantsB ws = true) (hm12 : m ≤ 12) (hbu : (bu : Int) ≤ 1048576) (hxe : xe ≤ 16) :
  Calls Tryz.prog 27 #[.slice A n c, .slice B m d, .int .i64 (xe : Int), .int .i64 (bu : Int)] w fun e w' => e = .returned (.tuple #[.bool (possR ws hs (xe : Int) bu).1, .int .i64 (possR ws hs (xe : Int) bu).2]) ∧ Below w.heap.size w w' := by
 have HA := Lib.hid h
 have HB := Lib.hid hh
 have hn8 : n ≤ 8 := by rw [← h.1]; exact wants_8 hw
 have HWO := Lib.hid (fun (i : Nat) (x : Wt) (hi : ws[i]? = some x) => LS.wt_ok h hi)
 have hgA := LS.farN h (fun _ _ h => len_wt _ _ h) (by decide)
 have hgB := LS.farN hh (fun _ _ h => len_hd _ _ h) (by decide)
 have LK := Lib.hid (fun (w1 : World) (hA : LS rWt 4 40 w1 A n c ws) (hB : LS rHd 3 24 w1 B m d hs) (hS : SSt w.heap.size A n c B m d (xe : Int) true bu w1 w1 ⟨0, false, []⟩) => rlookP_any hgA hgB hw HWO.out hm12 hbu hxe ws 0 none 0 0 [] ⟨0, false, []⟩ w1 rfl (by rw [Nat.zero_add]; exact h.1) (by rw [h.1]; omega) (Nat.zero_le _) (fun z _ => by rw [without_nil, upI_length]) hA hB LS.nil (fun h => absurd h (by decide)) hS)
 obtain ⟨SF, hSF⟩ : ∃ z, z = rlook ws hs (some (xe : Int)) true bu ws [] ⟨0, false, []⟩ := ⟨_, rfl⟩
 have HSF := Lib.hid hSF
 have HAR : Hid (possR ws hs (xe : Int) bu = if bu < SF.n then (false, 11) else (SF.fnd, 0)) := Lib.hid (by rw [hSF]; rfl)
 clear h hh hw hgA hgB hSF
 obtain ⟨sn, sf, sb⟩ := SF
 cases c1 : decide (sn > bu) with
 | true =>
  have hc1 := of_decide_eq_true c1
  have c2 : decide (bu < sn) = true := c1
  have c3 : decide ((sn : Int) > (bu : Int)) = true := decide_eq_true (by omega)
  have c4 : decide ((bu : Int) < (sn : Int)) = true := c3
  have HR : Hid (possR ws hs (xe : Int) bu = (false, 11)) := Lib.hid (by rw [HAR.out, if_pos hc1])
  clear hc1
  go_enter Tryz.func27, Tryz.ntmps27
  go_wp2_with (first
   | ((with_reducible show OpW 15); refine wpList_build _ rfl 106 _ rfl #[(0, .slice A n c), (1, .slice B m d), (2, .int .i64 (xe : Int)), (3, .bool true), (4, .int .i64 (bu : Int))] (by rw [List.map_toArray]; rfl) (.agg (seC A n c B m d (xe : Int) true bu 0 false none 0 0).toArray) (bldSeP _ _ _ _ _ _ _ _ _) ?_)
   | ((with_reducible show OpW 16); refine wpList_box _ rfl 106 (.tmp 15) rfl (seC A n c B m d (xe : Int) true bu 0 false none 0 0) rfl ?_; intro w1 a1 a2 a3; have HV1 := Lib.hid a1; have HX1 := Lib.hid a2; clear a1 a2 a3)
   | (go_at_call 54; refine (LK.out w1 (HA.out.kept stay_wt HX1.out) (HB.out.kept stay_hd HX1.out) ⟨none, 0, 0, HV1.out, LS.nil, fun h => absurd h (by decide), by decide, by show 0 ≤ bu + 1; omega, Kp.refl _ _⟩).mono ?_; rintro e w2 ⟨⟨v2, rfl⟩, r1⟩; rw [← HSF.out] at r1; have HB2 : Hid (Below w.heap.size w w2) := Lib.hid (low_kp HX1.out r1.kp (fun i hi e => by omega)); obtain ⟨F, f, e, hB2, _⟩ := r1; have p5 := hB2.get (j := 5) rfl; have p6 := hB2.get (j := 6) rfl; clear hB2))
  go_ret2
  exact ⟨by rw [HR.out]; rfl, HB2.out⟩
 | false =>
  have hc1 := of_decide_eq_false c1
  have c2 : decide (bu < sn) = false := c1
  have c3 : decide ((sn : Int) > (bu : Int)) = false := decide_eq_false (by omega)
  have c4 : decide ((bu : Int) < (sn : Int)) = false := c3
  have HR : Hid (possR ws hs (xe : Int) bu = (sf, 0)) := Lib.hid (by rw [HAR.out, if_neg hc1])
  clear hc1
  go_enter Tryz.func27, Tryz.ntmps27
  go_wp2_with (first
   | ((with_reducible show OpW 15); refine wpList_build _ rfl 106 _ rfl #[(0, .slice A n c), (1, .slice B m d), (2, .int .i64 (xe : Int)), (3, .bool true), (4, .int .i64 (bu : Int))] (by rw [List.map_toArray]; rfl) (.agg (seC A n c B m d (xe : Int) true bu 0 false none 0 0).toArray) (bldSeP _ _ _ _ _ _ _ _ _) ?_)
   | ((with_reducible show OpW 16); refine wpList_box _ rfl 106 (.tmp 15) rfl (seC A n c B m d (xe : Int) true bu 0 false none 0 0) rfl ?_; intro w1 a1 a2 a3; have HV1 := Lib.hid a1; have HX1 := Lib.hid a2; clear a1 a2 a3)
   | (go_at_call 54; refine (LK.out w1 (HA.out.kept stay_wt HX1.out) (HB.out.kept stay_hd HX1.out) ⟨none, 0, 0, HV1.out, LS.nil, fun h => absurd h (by decide), by decide, by show 0 ≤ bu + 1; omega, Kp.refl _ _⟩).mono ?_; rintro e w2 ⟨⟨v2, rfl⟩, r1⟩; rw [← HSF.out] at r1; have HB2 : Hid (Below w.heap.size w w2) := Lib.hid (low_kp HX1.out r1.kp (fun i hi e => by omega)); obtain ⟨F, f, e, hB2, _⟩ := r1; have p5 := hB2.get (j := 5) rfl; have p6 := hB2.get (j := 6) rfl; clear hB2))
  go_ret2
  exact ⟨by rw [HR.out]; rfl, HB2.out⟩
end Go.Proofs.YtklfficlegfhjaaGreat
