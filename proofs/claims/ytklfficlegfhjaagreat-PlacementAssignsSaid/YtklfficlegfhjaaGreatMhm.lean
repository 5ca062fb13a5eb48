/- The reference's Assign. -/
import Derived.Test.YtklfficlegfhjaaGreatMnm
namespace Go.Proofs.YtklfficlegfhjaaGreat
open Go Go.RowKit Gf Sha

theorem bldSeA (A : Option Addr) (n c : Nat) (B : Option Addr) (m d bu : Nat) (w : World) : (Instr.build 106 #[(0, .slice A n c), (1, .slice B m d), (2, .int .i64 (-1)), (4, .int .i64 (bu : Int))]).run Tryz.prog w = .ok (.agg (seC A n c B m d (-1) false bu 0 false none 0 0).toArray) w := by kernel_rfl
theorem LS.farN {α : Type} {R : Rdg α} {s b n c : Nat} {w : World} {A : Option Addr} {L : List α} (h : LS R s b w A n c L) (hlen : ∀ cs x, R w cs x → cs.length = s) (hs : 0 < s) : 0 < n → ∀ a, A = some a → a.block ≠ w.heap.size := fun h0 a ha e => by
 have h9 := (LS.apart (g := 0) (te := 0) h h0 hlen hs a ha).1
 omega
set_option maxRecDepth 100000 in
set_option maxHeartbeats 4000000 in
theorem rassign_any (A : Option Addr) (n c : Nat) (ws : List Wt) (B : Option Addr) (m d : Nat) (hs : List Hd) (P : Option Addr) (p q : Nat) (ps : List Pl) (bu : Nat) (w : World) (h : LS rWt 4 40 w A n c ws) (hh : LS rHd 3 24 w B m d hs) (hp : LS rPl 3 32 w P p q ps) (hw : wantsB ws = true) (hm12 : m ≤ 12) (hp40 : p ≤ 100) (hbu : (bu : Int) ≤ 1048576) :
  Calls Tryz.prog 29 #[.slice A n c, .slice B m d, .slice P p q, .int .i64 (bu : Int)] w fun e w' => ∃ A' n' c', e = .returned (.tuple #[.slice A' n' c', .int .i64 (assignR ws hs ps bu).2]) ∧ LS rPl 3 32 w' A' n' c' (assignR ws hs ps bu).1 ∧ Below w.heap.size w w' := by
 have HA := Lib.hid h
 have HB := Lib.hid hh
 have HP := Lib.hid hp
 have HW := Lib.hid hw
 have hn8 : n ≤ 8 := by rw [← h.1]; exact wants_8 hw
 have HWO := Lib.hid (fun (i : Nat) (x : Wt) (hi : ws[i]? = some x) => LS.wt_ok h hi)
 have hgA := LS.farN h (fun _ _ h => len_wt _ _ h) (by decide)
 have hgB := LS.farN hh (fun _ _ h => len_hd _ _ h) (by decide)
 have hgP := LS.farN hp (fun _ _ h => len_pl _ _ h) (by decide)
 have LK := Lib.hid (fun (w1 : World) (hA : LS rWt 4 40 w1 A n c ws) (hB : LS rHd 3 24 w1 B m d hs) (hP : LS rPl 3 32 w1 P p q ps) (hS : SSt w.heap.size A n c B m d (-1) false bu w1 w1 ⟨0, false, []⟩) => rlookA_any hgA hgB hw HWO.out hm12 hbu ws 0 P p q ps ⟨0, false, []⟩ w1 rfl (by rw [Nat.zero_add]; exact h.1) (by rw [h.1]; omega) (Nat.zero_le _) hA hB hP hgP hS)
 obtain ⟨SF, hSF⟩ : ∃ z, z = rlook ws hs none false bu ws ps ⟨0, false, []⟩ := ⟨_, rfl⟩
 have HSF := Lib.hid hSF
 have HAR : Hid (assignR ws hs ps bu = if bu < SF.n then ([], 11) else (sortedL ws SF.best, 0)) := Lib.hid (by rw [hSF]; rfl)
 clear h hh hp hw hgA hgB hgP hSF
 obtain ⟨sn, sf, sb⟩ := SF
 cases c1 : decide (sn > bu) with
 | true =>
  have hc1 := of_decide_eq_true c1
  have c2 : decide (bu < sn) = true := c1
  have c3 : decide ((sn : Int) > (bu : Int)) = true := decide_eq_true (by omega)
  have c4 : decide ((bu : Int) < (sn : Int)) = true := c3
  have HR : Hid (assignR ws hs ps bu = ([], 11)) := Lib.hid (by rw [HAR.out, if_pos hc1])
  clear hc1
  go_enter Tryz.func29, Tryz.ntmps29
  go_wp2_with (first
   | ((with_reducible show OpW 14); refine wpList_build _ rfl 106 _ rfl #[(0, .slice A n c), (1, .slice B m d), (2, .int .i64 (-1)), (4, .int .i64 (bu : Int))] (by rw [List.map_toArray]; rfl) (.agg (seC A n c B m d (-1) false bu 0 false none 0 0).toArray) (bldSeA _ _ _ _ _ _ _ _) ?_)
   | ((with_reducible show OpW 15); refine wpList_box _ rfl 106 (.tmp 14) rfl (seC A n c B m d (-1) false bu 0 false none 0 0) rfl ?_; intro w1 a1 a2 a3; have HV1 := Lib.hid a1; have HX1 := Lib.hid a2; clear a1 a2 a3)
   | (go_at_call 54; refine (LK.out w1 (HA.out.kept stay_wt HX1.out) (HB.out.kept stay_hd HX1.out) (HP.out.kept stay_pl HX1.out) ⟨none, 0, 0, HV1.out, LS.nil, fun h => absurd h (by decide), by decide, by show 0 ≤ bu + 1; omega, Kp.refl _ _⟩).mono ?_; rintro e w2 ⟨⟨v2, rfl⟩, r1⟩; rw [← HSF.out] at r1; have HS2 := Lib.hid r1; have HB2 : Hid (Below w.heap.size w w2) := Lib.hid (low_kp HX1.out r1.kp (fun i hi e => by omega)); obtain ⟨F, f, e, hB2, hL2, _, hf2, hn2, _⟩ := r1; have p5 := hB2.get (j := 5) rfl; have p7 := hB2.get (j := 7) rfl; have HL2 := Lib.hid hL2; have HF2 := Lib.hid hf2; clear hB2 hL2 hf2 hn2)
   | (go_at_call 22; refine (rsorted_any A n c ws F f e sb w2 (HA.out.kept stay_wt HB2.out) HL2.out HW.out HF2.out).mono ?_; rintro e9 w3 ⟨A3, c3, rfl, r1, r2⟩; have HR3 := Lib.hid r1; have HB3 := Lib.hid (below_then HB2.out r2); clear r1 r2))
  go_ret2
  exact ⟨none, 0, 0, by rw [HR.out]; rfl, by rw [HR.out]; exact LS.nil, HB2.out⟩
 | false =>
  have hc1 := of_decide_eq_false c1
  have c2 : decide (bu < sn) = false := c1
  have c3 : decide ((sn : Int) > (bu : Int)) = false := decide_eq_false (by omega)
  have c4 : decide ((bu : Int) < (sn : Int)) = false := c3
  have HR : Hid (assignR ws hs ps bu = (sortedL ws sb, 0)) := Lib.hid (by rw [HAR.out, if_neg hc1])
  clear hc1
  go_enter Tryz.func29, Tryz.ntmps29
  go_wp2_with (first
   | ((with_reducible show OpW 14); refine wpList_build _ rfl 106 _ rfl #[(0, .slice A n c), (1, .slice B m d), (2, .int .i64 (-1)), (4, .int .i64 (bu : Int))] (by rw [List.map_toArray]; rfl) (.agg (seC A n c B m d (-1) false bu 0 false none 0 0).toArray) (bldSeA _ _ _ _ _ _ _ _) ?_)
   | ((with_reducible show OpW 15); refine wpList_box _ rfl 106 (.tmp 14) rfl (seC A n c B m d (-1) false bu 0 false none 0 0) rfl ?_; intro w1 a1 a2 a3; have HV1 := Lib.hid a1; have HX1 := Lib.hid a2; clear a1 a2 a3)
   | (go_at_call 54; refine (LK.out w1 (HA.out.kept stay_wt HX1.out) (HB.out.kept stay_hd HX1.out) (HP.out.kept stay_pl HX1.out) ⟨none, 0, 0, HV1.out, LS.nil, fun h => absurd h (by decide), by decide, by show 0 ≤ bu + 1; omega, Kp.refl _ _⟩).mono ?_; rintro e w2 ⟨⟨v2, rfl⟩, r1⟩; rw [← HSF.out] at r1; have HS2 := Lib.hid r1; have HB2 : Hid (Below w.heap.size w w2) := Lib.hid (low_kp HX1.out r1.kp (fun i hi e => by omega)); obtain ⟨F, f, e, hB2, hL2, _, hf2, hn2, _⟩ := r1; have p5 := hB2.get (j := 5) rfl; have p7 := hB2.get (j := 7) rfl; have HL2 := Lib.hid hL2; have HF2 := Lib.hid hf2; clear hB2 hL2 hf2 hn2)
   | (go_at_call 22; refine (rsorted_any A n c ws F f e sb w2 (HA.out.kept stay_wt HB2.out) HL2.out HW.out HF2.out).mono ?_; rintro e9 w3 ⟨A3, c3, rfl, r1, r2⟩; have HR3 := Lib.hid r1; have HB3 := Lib.hid (below_then HB2.out r2); clear r1 r2))
  go_ret2
  exact ⟨A3, _, c3, by rw [HR.out]; rfl, by rw [HR.out]; exact HR3.out, HB3.out⟩
end Go.Proofs.YtklfficlegfhjaaGreat
