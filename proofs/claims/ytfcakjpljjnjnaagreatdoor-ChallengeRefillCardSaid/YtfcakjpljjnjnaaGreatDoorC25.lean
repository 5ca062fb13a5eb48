/- Several texts in one: Co9, Cp, Cs, Ct, Cu, Cv, Cw, Cx, Sa, Sb, Sc, Sd. -/
import Derived.Test.YtfcakjpljjnjnaaGreatDoorC24
import Derived.Test.YtfcakjpljjnjnaaGreatDoorC3
import Derived.Test.YtfcakjpljjnjnaaGreatDoorC11
/- ref30.Valid: a valid stripe. -/
namespace Go.Proofs.YtfcakjpljjnjnaaGreatDoor
open Go Go.RowKit Gf Sha

/-- A valid stripe. -/
def spB (s : Sp) : Bool := decide (s.id.length = 32) && (decide (0 ≤ s.v) && (decide (s.v ≤ 11) && (cdB s.d s.t && (decide (1 ≤ s.refs.length) && (decide ((s.refs.length : Int) ≤ s.d) && (okB rfB rfN s.refs && s.refs.all fun r => decide (clsR r = s.b)))))))
theorem okB_at {α β : Type} [BEq β] {p : α → Bool} {f : α → β} {l : List α} (h : okB p f l = true) {k : Nat} {x : α} (hk : l[k]? = some x) : p x = true := by
 have h1 := List.all_eq_true.1 h k (List.mem_range.2 (List.getElem?_eq_some_iff.1 hk).1)
 simp only [okAt, hk, Bool.and_eq_true] at h1
 exact h1.1

set_option maxRecDepth 100000 in
set_option maxHeartbeats 4000000 in
theorem rvalid_any (cs : List Value) (s : Sp) (w : World) (h : rSp w cs s) :
  Calls Tryz.prog 27 #[.agg cs.toArray] w fun e w' => e = .returned (.bool (spB s)) ∧ Below w.heap.size w w' := by
 obtain ⟨A, n, c, rfl, hl, _⟩ := h
 have hn := hl.len_le
 have H := Lib.hid hl
 have HL := Lib.hid hl.1
 clear hl
 by_cases h1 : s.id.length = 32
 rotate_left
 ·
  have e1 : (((strB s.id).size : Int) != 32) = true := by rw [strB_size, bne_iff_ne]; omega
  have HR : Hid (spB s = false) := Lib.hid (by rw [spB, decide_eq_false h1]; rfl)
  clear h1
  go_enter Tryz.func27, Tryz.ntmps27
  go_wp2_with (first
   | ((with_reducible show OpW 1); refine wpList_box _ rfl 26 (.tmp 0) rfl (spC s A n c) rfl ?_; intro w1 a1 a2 a3; have HB1 := Lib.hid a2; have HP1 := Lib.hid a1; have q0 := a1.get (j := 0) rfl; have q1 := a1.get (j := 1) rfl; have q3 := a1.get (j := 3) rfl; have q4 := a1.get (j := 4) rfl; have q5 := a1.get (j := 5) rfl; clear a1 a2 a3)
   | (go_at_call 47; refine (rcode_any _ _ _).mono ?_; rintro e w2 ⟨rfl, hw⟩; rw [hw]; clear hw w2; rw [e4]))
  go_ret
  exact ⟨ret_bool HR.out.symm, HB1.out⟩
 have e1 : (((strB s.id).size : Int) != 32) = false := by rw [strB_size, h1]; rfl
 by_cases h2 : 0 ≤ s.v
 rotate_left
 ·
  have e2 : decide (s.v < 0) = true := decide_eq_true (by omega)
  have HR : Hid (spB s = false) := Lib.hid (by rw [spB, decide_eq_true h1, decide_eq_false h2]; rfl)
  clear h1 h2
  go_enter Tryz.func27, Tryz.ntmps27
  go_wp2_with (first
   | ((with_reducible show OpW 1); refine wpList_box _ rfl 26 (.tmp 0) rfl (spC s A n c) rfl ?_; intro w1 a1 a2 a3; have HB1 := Lib.hid a2; have HP1 := Lib.hid a1; have q0 := a1.get (j := 0) rfl; have q1 := a1.get (j := 1) rfl; have q3 := a1.get (j := 3) rfl; have q4 := a1.get (j := 4) rfl; have q5 := a1.get (j := 5) rfl; clear a1 a2 a3)
   | (go_at_call 47; refine (rcode_any _ _ _).mono ?_; rintro e w2 ⟨rfl, hw⟩; rw [hw]; clear hw w2; rw [e4]))
  go_ret
  exact ⟨ret_bool HR.out.symm, HB1.out⟩
 have e2 : decide (s.v < 0) = false := decide_eq_false (by omega)
 by_cases h3 : s.v ≤ 11
 rotate_left
 ·
  have e3 : decide (11 < s.v) = true := decide_eq_true (by omega)
  have HR : Hid (spB s = false) := Lib.hid (by rw [spB, decide_eq_true h1, decide_eq_true h2, decide_eq_false h3]; rfl)
  clear h1 h2 h3
  go_enter Tryz.func27, Tryz.ntmps27
  go_wp2_with (first
   | ((with_reducible show OpW 1); refine wpList_box _ rfl 26 (.tmp 0) rfl (spC s A n c) rfl ?_; intro w1 a1 a2 a3; have HB1 := Lib.hid a2; have HP1 := Lib.hid a1; have q0 := a1.get (j := 0) rfl; have q1 := a1.get (j := 1) rfl; have q3 := a1.get (j := 3) rfl; have q4 := a1.get (j := 4) rfl; have q5 := a1.get (j := 5) rfl; clear a1 a2 a3)
   | (go_at_call 47; refine (rcode_any _ _ _).mono ?_; rintro e w2 ⟨rfl, hw⟩; rw [hw]; clear hw w2; rw [e4]))
  go_ret
  exact ⟨ret_bool HR.out.symm, HB1.out⟩
 have e3 : decide (11 < s.v) = false := decide_eq_false (by omega)
 have HS : Hid (spB s = (cdB s.d s.t && (decide (1 ≤ s.refs.length) && (decide ((s.refs.length : Int) ≤ s.d) && (okB rfB rfN s.refs && s.refs.all fun r => decide (clsR r = s.b)))))) := Lib.hid (by rw [spB, decide_eq_true h1, decide_eq_true h2, decide_eq_true h3]; rfl)
 clear h1 h2 h3
 cases e4 : cdB s.d s.t with
 | false =>
  have HR : Hid (spB s = false) := Lib.hid (by rw [HS.out, e4]; rfl)
  go_enter Tryz.func27, Tryz.ntmps27
  go_wp2_with (first
   | ((with_reducible show OpW 1); refine wpList_box _ rfl 26 (.tmp 0) rfl (spC s A n c) rfl ?_; intro w1 a1 a2 a3; have HB1 := Lib.hid a2; have HP1 := Lib.hid a1; have q0 := a1.get (j := 0) rfl; have q1 := a1.get (j := 1) rfl; have q3 := a1.get (j := 3) rfl; have q4 := a1.get (j := 4) rfl; have q5 := a1.get (j := 5) rfl; clear a1 a2 a3)
   | (go_at_call 47; refine (rcode_any _ _ _).mono ?_; rintro e w2 ⟨rfl, hw⟩; rw [hw]; clear hw w2; rw [e4]))
  go_ret
  exact ⟨ret_bool HR.out.symm, HB1.out⟩
 | true =>
  by_cases h5 : 1 ≤ n
  rotate_left
  ·
   have e5 : decide (n < 1) = true := decide_eq_true (by omega)
   have e5' : decide ((n : Int) < 1) = true := decide_eq_true (by omega)
   have HR : Hid (spB s = false) := Lib.hid (by rw [HS.out, e4, HL.out, decide_eq_false h5]; rfl)
   clear h5
   go_enter Tryz.func27, Tryz.ntmps27
   go_wp2_with (first
    | ((with_reducible show OpW 1); refine wpList_box _ rfl 26 (.tmp 0) rfl (spC s A n c) rfl ?_; intro w1 a1 a2 a3; have HB1 := Lib.hid a2; have HP1 := Lib.hid a1; have q0 := a1.get (j := 0) rfl; have q1 := a1.get (j := 1) rfl; have q3 := a1.get (j := 3) rfl; have q4 := a1.get (j := 4) rfl; have q5 := a1.get (j := 5) rfl; clear a1 a2 a3)
    | (go_at_call 47; refine (rcode_any _ _ _).mono ?_; rintro e w2 ⟨rfl, hw⟩; rw [hw]; clear hw w2; rw [e4]))
   go_ret
   exact ⟨ret_bool HR.out.symm, HB1.out⟩
  have e5 : decide (n < 1) = false := decide_eq_false (by omega)
  have e5' : decide ((n : Int) < 1) = false := decide_eq_false (by omega)
  by_cases h6 : (n : Int) ≤ s.d
  rotate_left
  ·
   have e6 : decide (s.d < (n : Int)) = true := decide_eq_true (by omega)
   have HR : Hid (spB s = false) := Lib.hid (by rw [HS.out, e4, HL.out, decide_eq_true h5, decide_eq_false h6]; rfl)
   clear h5 h6
   go_enter Tryz.func27, Tryz.ntmps27
   go_wp2_with (first
    | ((with_reducible show OpW 1); refine wpList_box _ rfl 26 (.tmp 0) rfl (spC s A n c) rfl ?_; intro w1 a1 a2 a3; have HB1 := Lib.hid a2; have HP1 := Lib.hid a1; have q0 := a1.get (j := 0) rfl; have q1 := a1.get (j := 1) rfl; have q3 := a1.get (j := 3) rfl; have q4 := a1.get (j := 4) rfl; have q5 := a1.get (j := 5) rfl; clear a1 a2 a3)
    | (go_at_call 47; refine (rcode_any _ _ _).mono ?_; rintro e w2 ⟨rfl, hw⟩; rw [hw]; clear hw w2; rw [e4]))
   go_ret
   exact ⟨ret_bool HR.out.symm, HB1.out⟩
  have e6 : decide (s.d < (n : Int)) = false := decide_eq_false (by omega)
  have HT : Hid (spB s = (okB rfB rfN s.refs && s.refs.all fun r => decide (clsR r = s.b))) := Lib.hid (by rw [HS.out, e4, HL.out, decide_eq_true h5, decide_eq_true h6]; rfl)
  clear h5 h6
  cases e7 : okB rfB rfN s.refs with
  | false =>
   have HR : Hid (spB s = false) := Lib.hid (by rw [HT.out, e7]; rfl)
   go_enter Tryz.func27, Tryz.ntmps27
   go_wp2_with (first
    | ((with_reducible show OpW 1); refine wpList_box _ rfl 26 (.tmp 0) rfl (spC s A n c) rfl ?_; intro w1 a1 a2 a3; have HB1 := Lib.hid a2; have HP1 := Lib.hid a1; have q0 := a1.get (j := 0) rfl; have q1 := a1.get (j := 1) rfl; have q3 := a1.get (j := 3) rfl; have q4 := a1.get (j := 4) rfl; have q5 := a1.get (j := 5) rfl; clear a1 a2 a3)
    | (go_at_call 47; refine (rcode_any _ _ _).mono ?_; rintro e w2 ⟨rfl, hw⟩; rw [hw]; clear hw w2; rw [e4]) | (go_at_call 48; refine (rrefs_any A n c s.refs _ (H.out.kept stay_rf HB1.out)).mono ?_; rintro e w3 ⟨rfl, b3⟩; rw [e7]; have HB3 := Lib.hid (below_then HB1.out b3); clear b3))
   go_ret
   exact ⟨ret_bool HR.out.symm, HB3.out⟩
  | true =>
   go_enter Tryz.func27, Tryz.ntmps27
   go_wp2_with (first
    | ((with_reducible show OpW 1); refine wpList_box _ rfl 26 (.tmp 0) rfl (spC s A n c) rfl ?_; intro w1 a1 a2 a3; have HB1 := Lib.hid a2; have HP1 := Lib.hid a1; have q0 := a1.get (j := 0) rfl; have q1 := a1.get (j := 1) rfl; have q3 := a1.get (j := 3) rfl; have q4 := a1.get (j := 4) rfl; have q5 := a1.get (j := 5) rfl; clear a1 a2 a3)
    | (go_at_call 47; refine (rcode_any _ _ _).mono ?_; rintro e w2 ⟨rfl, hw⟩; rw [hw]; clear hw w2; rw [e4]) | (go_at_call 48; refine (rrefs_any A n c s.refs _ (H.out.kept stay_rf HB1.out)).mono ?_; rintro e w3 ⟨rfl, b3⟩; rw [e7]; have HB3 := Lib.hid (below_then HB1.out b3); have HP3 := Lib.hid (HP1.out.kept b3); have p5 := HP3.out.get (j := 5) rfl; clear b3))
   clear p5
   go_loopw [50] (fun iv wr => ∃ k : Nat, k ≤ n ∧ iv = .int .i64 (k : Int) ∧ Hid ((s.refs.take k).all (fun r => decide (clsR r = s.b)) = true) ∧ Hid (Below w3.heap.size w3 wr)) (fun iv _ => n - (intOf iv).toNat)
   case atStart => exact ⟨0, by omega, rfl, Lib.hid rfl, Lib.hid (Below.refl _ _)⟩
   case round =>
    obtain ⟨k, hk, rfl, hall, hb⟩ := hrel
    obtain ⟨wx, hwx⟩ : ∃ x, x = wr := ⟨_, rfl⟩
    rw [← hwx] at hb ⊢
    clear hwx
    have HBx := Lib.hid (below_thenB HB3.out HB3.out.size hb.out)
    by_cases hlt : k < n
    ·
     obtain ⟨r, g, o, cs, hs, rfl, hat, rfl, _⟩ := H.out.at_ stay_rf (Below.refl _ _) hlt
     have HX := Lib.hid hs
     have HA := Lib.hid (hat.kept HBx.out)
     have HRB := Lib.hid (okB_at e7 hs)
     clear hs hat
     by_cases h8 : clsR r = s.b
     ·
      have e8 : (clsR r != s.b) = false := by rw [bne_eq_false_iff_eq]; exact h8
      have HR : Hid ((s.refs.take (k + 1)).all (fun r => decide (clsR r = s.b)) = true) := Lib.hid (all_step HX.out hall.out (decide_eq_true h8))
      clear h8
      go_wp2_with (first
       | ((with_reducible show OpW 53); refine wpList_loadv _ rfl 44 (.tmp 52) rfl 3 (by kernel_rfl) g (o + k * 3) (rfL r) (by go_simp) HA.out rfl ?_)
       | ((with_reducible show OpW 4); refine wpList_alloc _ rfl 44 rfl rfZ rfZero ?_; intro w3 a1 a2 a3; have HV3 := Lib.hid a1; have HX3 := Lib.hid a2; clear a1 a2 a3)
       | ((with_reducible show OpN); refine wpList_storev _ rfl 44 (.tmp 4) (.tmp 53) rfl 3 (by kernel_rfl) wx.heap.size 0 _ rfZ (rfL r) rfl rfl HV3.out rfl (one_rf r) (by decide) ?_; intro w4 a1 a2 a3; have HV4 : Hid (BL w4 wx.heap.size 44 (rfL r)) := Lib.hid a1; have HX4 : Hid (Below wx.heap.size wx w4) := Lib.hid (((Kp.of_below (S := fun _ => False) HX3.out).after a2 (fun i hi e => by omega)).below (Nat.le_refl _) (fun _ h => h.elim)); clear a1 a2 a3)
       | fail)
      have HC4 : Hid (∀ w', Below w4.heap.size w4 w' → w'.cell? ⟨w.heap.size, 2, none⟩ = some (.int .i64 s.b) ∧ Below w4.heap.size w4 w') := Lib.hid (fun w' hb' => ⟨((HP3.out.kept (below_thenB hb.out hb.out.size HX4.out)).kept hb').get (j := 2) rfl, hb'⟩)
      refine Text.wp_region_text (fun w' => w'.cell? ⟨w.heap.size, 2, none⟩ = some (.int .i64 s.b) ∧ Below w4.heap.size w4 w') [(2, 4), (0, 0), (3, 0), (1, 2), (4, 4)] (by kernel_rfl) (by kernel_rfl) (fun _ _ _ _ _ h => h) (HC4.out _ (Below.refl _ _).drew) ?_
      (refine Text.purek rfl rfl (fun K hK => ⟨_, fun w' => by go_simp <;> rfl, ?_⟩); go_simp; refine hK _ ?_; clear hK K)
      refine Text.heldk rfl rfl (fun K hK => ?_)
      refine ⟨_, fun w' hw' => exec_loadv 44 (.tmp 4) rfl 3 (by kernel_rfl) wx.heap.size 0 (rfL r) rfl (BL.all (HV4.out.kept hw'.2)) rfl, ?_⟩
      go_simp
      refine hK _ ?_
      clear hK K
      (refine Text.heldk rfl rfl (fun K hK => ⟨_, fun w' hw' => by go_simp <;> rfl, ?_⟩); go_simp; refine hK _ ?_; clear hK K)
      refine Text.eff rfl rfl (fun K hK => ?_)
      go_simp
      refine (rcls_any r _ HRB.out).mono ?_
      rintro e w5 ⟨rfl, b5⟩
      have HX5 : Hid (Below w4.heap.size w4 w5) := Lib.hid (below_ofDrew b5)
      refine hK _ _ (HC4.out _ HX5.out) ?_
      clear hK K b5
      (refine Text.purek rfl rfl (fun K hK => ⟨_, fun w' => by go_simp <;> rfl, ?_⟩); go_simp; refine hK _ ?_; clear hK K)
      refine Text.done ?_
      go_wp2_with fail
      go_roundw
      case rel => exact ⟨k + 1, by omega, by go_num, HR, Lib.hid (below_thenB hb.out hb.out.size (below_thenB HX4.out HX4.out.size HX5.out))⟩
      case measure => simp [intOf]; omega
     ·
      have e8 : (clsR r != s.b) = true := by rw [bne_iff_ne]; exact h8
      have HR : Hid (spB s = false) := Lib.hid (by rw [HT.out, e7, all_miss HX.out (decide_eq_false h8)]; rfl)
      clear h8
      go_wp2_with (first
       | ((with_reducible show OpW 53); refine wpList_loadv _ rfl 44 (.tmp 52) rfl 3 (by kernel_rfl) g (o + k * 3) (rfL r) (by go_simp) HA.out rfl ?_)
       | ((with_reducible show OpW 4); refine wpList_alloc _ rfl 44 rfl rfZ rfZero ?_; intro w3 a1 a2 a3; have HV3 := Lib.hid a1; have HX3 := Lib.hid a2; clear a1 a2 a3)
       | ((with_reducible show OpN); refine wpList_storev _ rfl 44 (.tmp 4) (.tmp 53) rfl 3 (by kernel_rfl) wx.heap.size 0 _ rfZ (rfL r) rfl rfl HV3.out rfl (one_rf r) (by decide) ?_; intro w4 a1 a2 a3; have HV4 : Hid (BL w4 wx.heap.size 44 (rfL r)) := Lib.hid a1; have HX4 : Hid (Below wx.heap.size wx w4) := Lib.hid (((Kp.of_below (S := fun _ => False) HX3.out).after a2 (fun i hi e => by omega)).below (Nat.le_refl _) (fun _ h => h.elim)); clear a1 a2 a3)
       | fail)
      have HC4 : Hid (∀ w', Below w4.heap.size w4 w' → w'.cell? ⟨w.heap.size, 2, none⟩ = some (.int .i64 s.b) ∧ Below w4.heap.size w4 w') := Lib.hid (fun w' hb' => ⟨((HP3.out.kept (below_thenB hb.out hb.out.size HX4.out)).kept hb').get (j := 2) rfl, hb'⟩)
      refine Text.wp_region_text (fun w' => w'.cell? ⟨w.heap.size, 2, none⟩ = some (.int .i64 s.b) ∧ Below w4.heap.size w4 w') [(2, 4), (0, 0), (3, 0), (1, 2), (4, 4)] (by kernel_rfl) (by kernel_rfl) (fun _ _ _ _ _ h => h) (HC4.out _ (Below.refl _ _).drew) ?_
      (refine Text.purek rfl rfl (fun K hK => ⟨_, fun w' => by go_simp <;> rfl, ?_⟩); go_simp; refine hK _ ?_; clear hK K)
      refine Text.heldk rfl rfl (fun K hK => ?_)
      refine ⟨_, fun w' hw' => exec_loadv 44 (.tmp 4) rfl 3 (by kernel_rfl) wx.heap.size 0 (rfL r) rfl (BL.all (HV4.out.kept hw'.2)) rfl, ?_⟩
      go_simp
      refine hK _ ?_
      clear hK K
      (refine Text.heldk rfl rfl (fun K hK => ⟨_, fun w' hw' => by go_simp <;> rfl, ?_⟩); go_simp; refine hK _ ?_; clear hK K)
      refine Text.eff rfl rfl (fun K hK => ?_)
      go_simp
      refine (rcls_any r _ HRB.out).mono ?_
      rintro e w5 ⟨rfl, b5⟩
      have HX5 : Hid (Below w4.heap.size w4 w5) := Lib.hid (below_ofDrew b5)
      refine hK _ _ (HC4.out _ HX5.out) ?_
      clear hK K b5
      (refine Text.purek rfl rfl (fun K hK => ⟨_, fun w' => by go_simp <;> rfl, ?_⟩); go_simp; refine hK _ ?_; clear hK K)
      refine Text.done ?_
      go_wp2_with fail
      go_ret
      exact ⟨ret_bool HR.out.symm, below_thenB HBx.out HBx.out.size (below_thenB HX4.out HX4.out.size HX5.out)⟩
    ·
     obtain rfl : k = n := by omega
     have HR : Hid (spB s = true) := Lib.hid (by have := hall.out; rw [take_end HL.out] at this; rw [HT.out, e7, this]; rfl)
     go_wp2_with fail
     go_ret
     exact ⟨ret_bool HR.out.symm, HBx.out⟩
end Go.Proofs.YtfcakjpljjnjnaaGreatDoor
/- The reference's Stripes. -/
namespace Go.Proofs.YtfcakjpljjnjnaaGreatDoor
open Go Go.RowKit Gf Sha
end Go.Proofs.YtfcakjpljjnjnaaGreatDoor
/- The reference's Valid. -/
namespace Go.Proofs.YtfcakjpljjnjnaaGreatDoor
open Go Go.RowKit Gf Sha

end Go.Proofs.YtfcakjpljjnjnaaGreatDoor
/- The reference's without. -/
namespace Go.Proofs.YtfcakjpljjnjnaaGreatDoor
open Go Go.RowKit Gf Sha

end Go.Proofs.YtfcakjpljjnjnaaGreatDoor
/- The reference's strings: two lists are equal. -/
namespace Go.Proofs.YtfcakjpljjnjnaaGreatDoor
open Go Go.RowKit Gf Sha

end Go.Proofs.YtfcakjpljjnjnaaGreatDoor
/- ref30.SameRefs: two lists of refs are equal. -/
namespace Go.Proofs.YtfcakjpljjnjnaaGreatDoor
open Go Go.RowKit Gf Sha

end Go.Proofs.YtfcakjpljjnjnaaGreatDoor
/- The reference's SameStep. -/
namespace Go.Proofs.YtfcakjpljjnjnaaGreatDoor
open Go Go.RowKit Gf Sha

end Go.Proofs.YtfcakjpljjnjnaaGreatDoor
/- ref30.Same: stripes compared. -/
namespace Go.Proofs.YtfcakjpljjnjnaaGreatDoor
open Go Go.RowKit Gf Sha

end Go.Proofs.YtfcakjpljjnjnaaGreatDoor
/- The collector's own situation in memory: a block with the situation and eight maps; live, covered. -/
namespace Go.Proofs.YtfcakjpljjnjnaaGreatDoor
open Go Go.RowKit Go.WideMaps Gf Sha

/-- What the maps say. -/
structure St9 where
 pl : List UInt8 → Option Nat
 need : List UInt8 → Bool
 cond : List UInt8 → Bool
 drop : List UInt8 → Bool
 carr : List UInt8 → Bool
 held : Pc → Bool
 nam : List UInt8 → Int
 ref : Rf → Int
def pcV (p : Pc) : Value := .agg (pcL p).toArray
def rfV (r : Rf) : Value := .agg (rfL r).toArray
/-- The maps lie in blocks m0 .. m7. -/
structure Maps8 (w : World) (m0 m1 m2 m3 m4 m5 m6 m7 : Nat) (st : St9) : Prop where
 pl : MF Tryz.prog 9 usC w m0 (fun id => (st.pl id).map fun i => .int .i64 (i : Int))
 need : MG Tryz.prog 9 usC (.bool false) w m1 (fun x => .bool (st.need x))
 cond : MG Tryz.prog 9 usC (.bool false) w m2 (fun x => .bool (st.cond x))
 drop : MG Tryz.prog 9 usC (.bool false) w m3 (fun x => .bool (st.drop x))
 carr : MG Tryz.prog 9 usC (.bool false) w m4 (fun x => .bool (st.carr x))
 held : MG Tryz.prog 31 pcV (.bool false) w m5 (fun x => .bool (st.held x))
 nam : MG Tryz.prog 9 usC (.int .i64 0) w m6 (fun x => .int .i64 (st.nam x))
 ref : MG Tryz.prog 44 rfV (.int .i64 0) w m7 (fun x => .int .i64 (st.ref x))
 apart : [m0, m1, m2, m3, m4, m5, m6, m7].Nodup
theorem keyS (x : List UInt8) (hx : x.length ≤ 9223372036854775807) : ∃ lx, keyOf Tryz.prog 9 (usC x) = some lx := by
 have hm : (strB x).size ≤ maxLen := by rw [strB_size]; exact hx
 unfold keyOf
 rw [Tryz.underlying9]
 simp [mapKey, usC, Tryz.underlying9, hm]
theorem reach_key {x : List UInt8} (h : x.length ≤ reachBytes) : x.length ≤ 9223372036854775807 := by unfold reachBytes at h; omega
section
variable {w w' : World} {b : Nat} {m0 m1 m2 m3 m4 m5 m6 m7 : Nat} {a0 a1 a2 a3 a4 a5 : Option Addr} {n0 c0 n1 c1 n2 c2 n3 c3 n4 c4 n5 c5 : Nat} {p : Int} {st : St9}
theorem Maps8.kept (h : Maps8 w m0 m1 m2 m3 m4 m5 m6 m7 st) (hb : Below w.heap.size w w') : Maps8 w' m0 m1 m2 m3 m4 m5 m6 m7 st :=
 ⟨h.pl.kept hb, h.need.kept hb, h.cond.kept hb, h.drop.kept hb, h.carr.kept hb, h.held.kept hb, h.nam.kept hb, h.ref.kept hb, h.apart⟩
end
section
variable {κ : Type} {P : Program} (w : World) {ops : Array Oper} {rest : List Oper} {o : Oper} {a : Act} {Q : Exit → Act → World → Prop} {enc : κ → Value}
theorem wpList_lookGgv (hw : Region.wanted o (yielded ops a.tmps) = true) (m x : Operand) (t k e : TypeId) (hop : o.op = .lookup t m x false) (K : Go.Maps.Keyed P k) (ht : P.underlying t = some (.map k e)) (z : Value) (hz : (P.info? e).map (·.zero) = some (some z))
  (b : Nat) (g : κ → Value) (hm : a.eval m = .map (some b)) (hb : MG P k enc z w b g) (xv : κ) (hx : a.eval x = enc xv) (hk : ∃ lx, keyOf P k (enc xv) = some lx) (v : Value) (hv : g xv = v)
  (h : wpList P ops Q rest (a.put o.dst v) w) : wpList P ops Q (o :: rest) a w :=
 wpList_lookGg w hw m x t k e hop K ht z hz b g hm hb xv hx hk (by rw [hv]; exact h)
end
theorem mapSB : Tryz.prog.underlying 93 = some (.map 9 4) := Tryz.underlying93
theorem intZero : (Tryz.prog.info? 3).map (·.zero) = some (some (.int .i64 0)) := by kernel_rfl
end Go.Proofs.YtfcakjpljjnjnaaGreatDoor
/- Only maps of the old have turned; the situation's count. -/
namespace Go.Proofs.YtfcakjpljjnjnaaGreatDoor
open Go Go.RowKit Gf Sha

/-- Of what is old only maps may have turned. -/
def Mp (w w' : World) : Prop := ∃ S : Nat → Prop, Kp S w w' ∧ ∀ i, i < w.heap.size → S i → ∃ es clock, w.heap[i]? = some (.map es clock)
section
variable {w w1 w2 : World}
theorem Mp.of_below (h : Below w.heap.size w w1) : Mp w w1 := ⟨fun _ => False, Kp.of_below h, fun _ _ h => h.elim⟩
theorem Mp.refl (w : World) : Mp w w := Mp.of_below (Below.refl _ _)
theorem Mp.size (h : Mp w w1) : w.heap.size ≤ w1.heap.size := let ⟨_, h1, _⟩ := h; h1.size
theorem Mp.trans (h : Mp w w1) (k : Mp w1 w2) : Mp w w2 := by
 obtain ⟨S, h1, h2⟩ := h
 obtain ⟨T, k1, k2⟩ := k
 refine ⟨fun i => S i ∨ T i, (h1.mono (fun _ _ h => .inl h)).trans (Kp.mono (S := T) k1 (fun _ _ h => .inr h)), fun i hi hs => ?_⟩
 by_cases hS : S i
 ·
  exact h2 i hi hS
 ·
  rcases hs with h | h
  ·
   exact h2 i hi h
  ·
   obtain ⟨es, ck, e⟩ := k2 i (Nat.lt_of_lt_of_le hi h1.size) h
   exact ⟨es, ck, by rw [← h1.block i hi hS]; exact e⟩
theorem Mp.then (h : Mp w w1) (k : Below w1.heap.size w1 w2) : Mp w w2 := h.trans (Mp.of_below k)
theorem Mp.drew (h : Mp w w1) : Mp w w1.drew := h.then (Below.refl _ _).drew
theorem Mp.bl {g : Nat} {t : TypeId} {l : List Value} (h : Mp w w1) (hb : BL w g t l) : BL w1 g t l := by
 obtain ⟨S, h1, h2⟩ := h
 have hg : g < w.heap.size := (Array.getElem?_eq_some_iff.1 (show w.heap[g]? = _ from hb)).1
 refine Eq.trans (h1.block g hg (fun hs => ?_)) hb
 obtain ⟨es, ck, e⟩ := h2 g hg hs
 have := e.symm.trans hb
 cases this
theorem Mp.cell {p : Addr} {v : Value} (h : Mp w w1) (hc : w.cell? p = some v) : w1.cell? p = some v := by
 obtain ⟨S, h1, h2⟩ := h
 refine h1.cell hc (fun hs => ?_)
 have hp : p.block < w.heap.size := by
  cases hh : w.heap[p.block]? with
  | none => simp [World.cell?, hh] at hc
  | some o => exact (Array.getElem?_eq_some_iff.1 hh).1
 obtain ⟨es, ck, e⟩ := h2 _ hp hs
 simp [World.cell?, e] at hc
theorem Mp.at {g o : Nat} {cs : List Value} (h : Mp w w1) (hc : At w g o cs) : At w1 g o cs := fun j v hj => h.cell (hc j v hj)
end
section
variable {α : Type} {R : Rdg α} {s b n c : Nat} {w w' : World} {A : Option Addr} {L : List α}
end
/-- How many refs of a list have a name; how often a ref stands in it. -/
def cntN (l : List Rf) (n : List UInt8) : Int := ((l.filter fun r => r.1 == n).length : Int)
def cntR (l : List Rf) (q : Rf) : Int := ((l.filter fun r => r == q).length : Int)
/-- The counts with a list of refs added d times. -/
def St9.add (st : St9) (l : List Rf) (d : Int) : St9 := { st with nam := fun n => st.nam n + d * cntN l n, ref := fun r => st.ref r + d * cntR l r }
section
variable {w w' : World} {m0 m1 m2 m3 m4 m5 m6 m7 : Nat} {st : St9}
end

end Go.Proofs.YtfcakjpljjnjnaaGreatDoor
/- The situation's use: is a stripe unneeded, is it sparse. -/
namespace Go.Proofs.YtfcakjpljjnjnaaGreatDoor
open Go Go.RowKit Gf Sha

end Go.Proofs.YtfcakjpljjnjnaaGreatDoor
/- setOf: a list of strings as a set. -/
namespace Go.Proofs.YtfcakjpljjnjnaaGreatDoor
open Go Go.RowKit Gf Sha

end Go.Proofs.YtfcakjpljjnjnaaGreatDoor
