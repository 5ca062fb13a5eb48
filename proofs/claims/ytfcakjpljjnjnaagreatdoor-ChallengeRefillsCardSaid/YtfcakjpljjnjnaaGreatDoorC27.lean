/- Several texts in one: Sh, Mt9, Bb. -/
import Derived.Test.YtfcakjpljjnjnaaGreatDoorC26
import Derived.Test.YtfcakjpljjnjnaaGreatDoorC23
/- stripe.Check. -/
namespace Go.Proofs.YtfcakjpljjnjnaaGreatDoor
open Go Go.RowKit Gf Sha

def chkE (b : Bool) : Int := if b then 0 else 1
theorem ret_chk {b : Bool} {z : Int} (h : chkE b = z) : Ending.returned (.int .i64 z) = .returned (.int .i64 (chkE b)) := by rw [h]
set_option maxRecDepth 100000 in
set_option maxHeartbeats 4000000 in
theorem spCheck_any (cs : List Value) (s : Sp) (w : World) (h : rSp w cs s) :
  Calls Tryz.prog 45 #[.agg cs.toArray] w fun e w' => e = .returned (.int .i64 (chkE (spB s))) ∧ Below w.heap.size w w' := by
 obtain ⟨A, n, c, rfl, hl, _⟩ := h
 have hn := hl.len_le
 have H := Lib.hid hl
 have HL := Lib.hid hl.1
 clear hl
 by_cases h1 : s.id.length = 32
 rotate_left
 ·
  have e1 : (((strB s.id).size : Int) != 32) = true := by rw [strB_size, bne_iff_ne]; omega
  have HR : Hid (spB s = false) := Lib.hid (by rw [spB, decide_eq_false h1]; rfl)
  clear h1
  go_enter Tryz.func45, Tryz.ntmps45
  go_wp2_with (first
   | ((with_reducible show OpW 1); refine wpList_box _ rfl 26 (.tmp 0) rfl (spC s A n c) rfl ?_; intro w1 a1 a2 a3; have HB1 := Lib.hid a2; have HP1 := Lib.hid a1; have q0 := a1.get (j := 0) rfl; have q1 := a1.get (j := 1) rfl; have q3 := a1.get (j := 3) rfl; have q4 := a1.get (j := 4) rfl; have q5 := a1.get (j := 5) rfl; clear a1 a2 a3)
   | (go_at_call 30; refine (code_any _ _ _).mono ?_; rintro e w2 ⟨rfl, hw⟩; rw [hw]; clear hw w2; rw [e4]))
  go_ret
  exact ⟨ret_chk (by rw [HR.out]; rfl), HB1.out⟩
 have e1 : (((strB s.id).size : Int) != 32) = false := by rw [strB_size, h1]; rfl
 by_cases h2 : 0 ≤ s.v
 rotate_left
 ·
  have e2 : decide (s.v < 0) = true := decide_eq_true (by omega)
  have HR : Hid (spB s = false) := Lib.hid (by rw [spB, decide_eq_true h1, decide_eq_false h2]; rfl)
  clear h1 h2
  go_enter Tryz.func45, Tryz.ntmps45
  go_wp2_with (first
   | ((with_reducible show OpW 1); refine wpList_box _ rfl 26 (.tmp 0) rfl (spC s A n c) rfl ?_; intro w1 a1 a2 a3; have HB1 := Lib.hid a2; have HP1 := Lib.hid a1; have q0 := a1.get (j := 0) rfl; have q1 := a1.get (j := 1) rfl; have q3 := a1.get (j := 3) rfl; have q4 := a1.get (j := 4) rfl; have q5 := a1.get (j := 5) rfl; clear a1 a2 a3)
   | (go_at_call 30; refine (code_any _ _ _).mono ?_; rintro e w2 ⟨rfl, hw⟩; rw [hw]; clear hw w2; rw [e4]))
  go_ret
  exact ⟨ret_chk (by rw [HR.out]; rfl), HB1.out⟩
 have e2 : decide (s.v < 0) = false := decide_eq_false (by omega)
 by_cases h3 : s.v ≤ 11
 rotate_left
 ·
  have e3 : decide (11 < s.v) = true := decide_eq_true (by omega)
  have HR : Hid (spB s = false) := Lib.hid (by rw [spB, decide_eq_true h1, decide_eq_true h2, decide_eq_false h3]; rfl)
  clear h1 h2 h3
  go_enter Tryz.func45, Tryz.ntmps45
  go_wp2_with (first
   | ((with_reducible show OpW 1); refine wpList_box _ rfl 26 (.tmp 0) rfl (spC s A n c) rfl ?_; intro w1 a1 a2 a3; have HB1 := Lib.hid a2; have HP1 := Lib.hid a1; have q0 := a1.get (j := 0) rfl; have q1 := a1.get (j := 1) rfl; have q3 := a1.get (j := 3) rfl; have q4 := a1.get (j := 4) rfl; have q5 := a1.get (j := 5) rfl; clear a1 a2 a3)
   | (go_at_call 30; refine (code_any _ _ _).mono ?_; rintro e w2 ⟨rfl, hw⟩; rw [hw]; clear hw w2; rw [e4]))
  go_ret
  exact ⟨ret_chk (by rw [HR.out]; rfl), HB1.out⟩
 have e3 : decide (11 < s.v) = false := decide_eq_false (by omega)
 have HS : Hid (spB s = (cdB s.d s.t && (decide (1 ≤ s.refs.length) && (decide ((s.refs.length : Int) ≤ s.d) && (okB rfB rfN s.refs && s.refs.all fun r => decide (clsR r = s.b)))))) := Lib.hid (by rw [spB, decide_eq_true h1, decide_eq_true h2, decide_eq_true h3]; rfl)
 clear h1 h2 h3
 cases e4 : cdB s.d s.t with
 | false =>
  have HR : Hid (spB s = false) := Lib.hid (by rw [HS.out, e4]; rfl)
  go_enter Tryz.func45, Tryz.ntmps45
  go_wp2_with (first
   | ((with_reducible show OpW 1); refine wpList_box _ rfl 26 (.tmp 0) rfl (spC s A n c) rfl ?_; intro w1 a1 a2 a3; have HB1 := Lib.hid a2; have HP1 := Lib.hid a1; have q0 := a1.get (j := 0) rfl; have q1 := a1.get (j := 1) rfl; have q3 := a1.get (j := 3) rfl; have q4 := a1.get (j := 4) rfl; have q5 := a1.get (j := 5) rfl; clear a1 a2 a3)
   | (go_at_call 30; refine (code_any _ _ _).mono ?_; rintro e w2 ⟨rfl, hw⟩; rw [hw]; clear hw w2; rw [e4]))
  go_ret
  exact ⟨ret_chk (by rw [HR.out]; rfl), HB1.out⟩
 | true =>
  by_cases h5 : 1 ≤ n
  rotate_left
  ·
   have e5 : decide (n < 1) = true := decide_eq_true (by omega)
   have e5' : decide ((n : Int) < 1) = true := decide_eq_true (by omega)
   have HR : Hid (spB s = false) := Lib.hid (by rw [HS.out, e4, HL.out, decide_eq_false h5]; rfl)
   clear h5
   go_enter Tryz.func45, Tryz.ntmps45
   go_wp2_with (first
    | ((with_reducible show OpW 1); refine wpList_box _ rfl 26 (.tmp 0) rfl (spC s A n c) rfl ?_; intro w1 a1 a2 a3; have HB1 := Lib.hid a2; have HP1 := Lib.hid a1; have q0 := a1.get (j := 0) rfl; have q1 := a1.get (j := 1) rfl; have q3 := a1.get (j := 3) rfl; have q4 := a1.get (j := 4) rfl; have q5 := a1.get (j := 5) rfl; clear a1 a2 a3)
    | (go_at_call 30; refine (code_any _ _ _).mono ?_; rintro e w2 ⟨rfl, hw⟩; rw [hw]; clear hw w2; rw [e4]))
   go_ret
   exact ⟨ret_chk (by rw [HR.out]; rfl), HB1.out⟩
  have e5 : decide (n < 1) = false := decide_eq_false (by omega)
  have e5' : decide ((n : Int) < 1) = false := decide_eq_false (by omega)
  by_cases h6 : (n : Int) ≤ s.d
  rotate_left
  ·
   have e6 : decide (s.d < (n : Int)) = true := decide_eq_true (by omega)
   have HR : Hid (spB s = false) := Lib.hid (by rw [HS.out, e4, HL.out, decide_eq_true h5, decide_eq_false h6]; rfl)
   clear h5 h6
   go_enter Tryz.func45, Tryz.ntmps45
   go_wp2_with (first
    | ((with_reducible show OpW 1); refine wpList_box _ rfl 26 (.tmp 0) rfl (spC s A n c) rfl ?_; intro w1 a1 a2 a3; have HB1 := Lib.hid a2; have HP1 := Lib.hid a1; have q0 := a1.get (j := 0) rfl; have q1 := a1.get (j := 1) rfl; have q3 := a1.get (j := 3) rfl; have q4 := a1.get (j := 4) rfl; have q5 := a1.get (j := 5) rfl; clear a1 a2 a3)
    | (go_at_call 30; refine (code_any _ _ _).mono ?_; rintro e w2 ⟨rfl, hw⟩; rw [hw]; clear hw w2; rw [e4]))
   go_ret
   exact ⟨ret_chk (by rw [HR.out]; rfl), HB1.out⟩
  have e6 : decide (s.d < (n : Int)) = false := decide_eq_false (by omega)
  have HT : Hid (spB s = (okB rfB rfN s.refs && s.refs.all fun r => decide (clsR r = s.b))) := Lib.hid (by rw [HS.out, e4, HL.out, decide_eq_true h5, decide_eq_true h6]; rfl)
  clear h5 h6
  cases e7 : okB rfB rfN s.refs with
  | false =>
   have HR : Hid (spB s = false) := Lib.hid (by rw [HT.out, e7]; rfl)
   go_enter Tryz.func45, Tryz.ntmps45
   go_wp2_with (first
    | ((with_reducible show OpW 1); refine wpList_box _ rfl 26 (.tmp 0) rfl (spC s A n c) rfl ?_; intro w1 a1 a2 a3; have HB1 := Lib.hid a2; have HP1 := Lib.hid a1; have q0 := a1.get (j := 0) rfl; have q1 := a1.get (j := 1) rfl; have q3 := a1.get (j := 3) rfl; have q4 := a1.get (j := 4) rfl; have q5 := a1.get (j := 5) rfl; clear a1 a2 a3)
    | (go_at_call 30; refine (code_any _ _ _).mono ?_; rintro e w2 ⟨rfl, hw⟩; rw [hw]; clear hw w2; rw [e4]) | (go_at_call 31; refine (validRefs_any A n c s.refs _ (H.out.kept stay_rf HB1.out)).mono ?_; rintro e w3 ⟨rfl, b3⟩; rw [e7]; have HB3 := Lib.hid (below_then HB1.out b3); clear b3))
   go_ret
   exact ⟨ret_chk (by rw [HR.out]; rfl), HB3.out⟩
  | true =>
   go_enter Tryz.func45, Tryz.ntmps45
   go_wp2_with (first
    | ((with_reducible show OpW 1); refine wpList_box _ rfl 26 (.tmp 0) rfl (spC s A n c) rfl ?_; intro w1 a1 a2 a3; have HB1 := Lib.hid a2; have HP1 := Lib.hid a1; have q0 := a1.get (j := 0) rfl; have q1 := a1.get (j := 1) rfl; have q3 := a1.get (j := 3) rfl; have q4 := a1.get (j := 4) rfl; have q5 := a1.get (j := 5) rfl; clear a1 a2 a3)
    | (go_at_call 30; refine (code_any _ _ _).mono ?_; rintro e w2 ⟨rfl, hw⟩; rw [hw]; clear hw w2; rw [e4]) | (go_at_call 31; refine (validRefs_any A n c s.refs _ (H.out.kept stay_rf HB1.out)).mono ?_; rintro e w3 ⟨rfl, b3⟩; rw [e7]; have HB3 := Lib.hid (below_then HB1.out b3); have HP3 := Lib.hid (HP1.out.kept b3); have p5 := HP3.out.get (j := 5) rfl; clear b3))
   clear p5
   go_loopw [48] (fun iv wr => ∃ k : Nat, k ≤ n ∧ iv = .int .i64 (k : Int) ∧ Hid ((s.refs.take k).all (fun r => decide (clsR r = s.b)) = true) ∧ Hid (Below w3.heap.size w3 wr)) (fun iv _ => n - (intOf iv).toNat)
   case atStart => exact ⟨0, by omega, rfl, Lib.hid rfl, Lib.hid (Below.refl _ _)⟩
   case round =>
    obtain ⟨k, hk, rfl, hall, hb⟩ := hrel
    obtain ⟨wx, hwx⟩ : ∃ x, x = wr := ⟨_, rfl⟩
    rw [← hwx] at hb ⊢
    clear hwx
    have HBx := Lib.hid (below_thenB HB3.out HB3.out.size hb.out)
    by_cases hlt : k < n
    ·
     obtain ⟨r, g, o, cs, hs, rfl, hat, rfl, _⟩ := H.out.at_ stay_rf (Below.refl _ _) hlt
     have HX := Lib.hid hs
     have HA := Lib.hid (hat.kept HBx.out)
     have HRB := Lib.hid (okB_at e7 hs)
     clear hs hat
     by_cases h8 : clsR r = s.b
     ·
      have e8 : decide (clsR r = s.b) = true := decide_eq_true h8
      have HR : Hid ((s.refs.take (k + 1)).all (fun r => decide (clsR r = s.b)) = true) := Lib.hid (all_step HX.out hall.out (decide_eq_true h8))
      clear h8
      go_wp2_with (first
       | ((with_reducible show OpW 51); refine wpList_loadv _ rfl 44 (.tmp 50) rfl 3 (by kernel_rfl) g (o + k * 3) (rfL r) (by go_simp) HA.out rfl ?_)
       | ((with_reducible show OpW 4); refine wpList_alloc _ rfl 44 rfl rfZ rfZero ?_; intro w3 a1 a2 a3; have HV3 := Lib.hid a1; have HX3 := Lib.hid a2; clear a1 a2 a3)
       | ((with_reducible show OpN); refine wpList_storev _ rfl 44 (.tmp 4) (.tmp 51) rfl 3 (by kernel_rfl) wx.heap.size 0 _ rfZ (rfL r) rfl rfl HV3.out rfl (one_rf r) (by decide) ?_; intro w4 a1 a2 a3; have HV4 : Hid (BL w4 wx.heap.size 44 (rfL r)) := Lib.hid a1; have HX4 : Hid (Below wx.heap.size wx w4) := Lib.hid (((Kp.of_below (S := fun _ => False) HX3.out).after a2 (fun i hi e => by omega)).below (Nat.le_refl _) (fun _ h => h.elim)); clear a1 a2 a3; have r2 := (HP3.out.kept (below_thenB hb.out hb.out.size HX4.out)).get (j := 2) rfl)
       | ((with_reducible show OpW 52); refine wpList_loadv _ rfl 44 (.tmp 4) rfl 3 (by kernel_rfl) wx.heap.size 0 (rfL r) rfl (BL.all HV4.out) rfl ?_)
       | (go_at_call 33; refine (hasClass_any r s.b _ HRB.out).mono ?_; rintro e w5 ⟨rfl, b5⟩; rw [e8]; have HX5 := Lib.hid (below_thenB HX4.out HX4.out.size b5); clear b5))
      go_roundw
      case rel => exact ⟨k + 1, by omega, by go_num, HR, Lib.hid (below_thenB hb.out hb.out.size HX5.out)⟩
      case measure => simp [intOf]; omega
     ·
      have e8 : decide (clsR r = s.b) = false := decide_eq_false h8
      have HR : Hid (spB s = false) := Lib.hid (by rw [HT.out, e7, all_miss HX.out (decide_eq_false h8)]; rfl)
      clear h8
      go_wp2_with (first
       | ((with_reducible show OpW 51); refine wpList_loadv _ rfl 44 (.tmp 50) rfl 3 (by kernel_rfl) g (o + k * 3) (rfL r) (by go_simp) HA.out rfl ?_)
       | ((with_reducible show OpW 4); refine wpList_alloc _ rfl 44 rfl rfZ rfZero ?_; intro w3 a1 a2 a3; have HV3 := Lib.hid a1; have HX3 := Lib.hid a2; clear a1 a2 a3)
       | ((with_reducible show OpN); refine wpList_storev _ rfl 44 (.tmp 4) (.tmp 51) rfl 3 (by kernel_rfl) wx.heap.size 0 _ rfZ (rfL r) rfl rfl HV3.out rfl (one_rf r) (by decide) ?_; intro w4 a1 a2 a3; have HV4 : Hid (BL w4 wx.heap.size 44 (rfL r)) := Lib.hid a1; have HX4 : Hid (Below wx.heap.size wx w4) := Lib.hid (((Kp.of_below (S := fun _ => False) HX3.out).after a2 (fun i hi e => by omega)).below (Nat.le_refl _) (fun _ h => h.elim)); clear a1 a2 a3; have r2 := (HP3.out.kept (below_thenB hb.out hb.out.size HX4.out)).get (j := 2) rfl)
       | ((with_reducible show OpW 52); refine wpList_loadv _ rfl 44 (.tmp 4) rfl 3 (by kernel_rfl) wx.heap.size 0 (rfL r) rfl (BL.all HV4.out) rfl ?_)
       | (go_at_call 33; refine (hasClass_any r s.b _ HRB.out).mono ?_; rintro e w5 ⟨rfl, b5⟩; rw [e8]; have HX5 := Lib.hid (below_thenB HX4.out HX4.out.size b5); clear b5))
      go_ret
      exact ⟨ret_chk (by rw [HR.out]; rfl), below_thenB HBx.out HBx.out.size HX5.out⟩
    ·
     obtain rfl : k = n := by omega
     have HR : Hid (spB s = true) := Lib.hid (by have := hall.out; rw [take_end HL.out] at this; rw [HT.out, e7, this]; rfl)
     go_wp2_with fail
     go_ret
     exact ⟨ret_chk (by rw [HR.out]; rfl), HBx.out⟩
end Go.Proofs.YtfcakjpljjnjnaaGreatDoor
/- merkle.Root and Of; the proofs of data are accepted. -/
namespace Go.Proofs.YtfcakjpljjnjnaaGreatDoor
open Go Go.RowKit Gf Sha

set_option maxRecDepth 100000 in
set_option maxHeartbeats 4000000 in
theorem mroot_any : ∀ (q n : Nat) (A : Option Addr) (c : Nat) (L : List (List UInt8)) (w : World), n ≤ q → TS w A n c L → Tabs w → 1 ≤ n → n ≤ 250 → Lv L →
  Calls Tryz.prog 61 #[.slice A n c] w fun e w' => e = .returned (.string (strB (rt L))) ∧ Below w.heap.size w w' := by
 intro q
 induction q with
 | zero => intro n A c L w hq _ _ h1; omega
 | succ q ih =>
  intro n A c L w hq h hT h1 hn hv
  have HT := Lib.hid hT
  have H := Lib.hid h
  have IH := Lib.hid ih
  have hcn : n ≤ c := h.2.1
  have HLN := Lib.hid h.1
  by_cases hn1 : n = 1
  ·
   subst hn1
   obtain ⟨g, o, rfl, q0⟩ := h.2.2.2 0 (by omega)
   have HR := Lib.hid (rt_one h.1)
   replace q0 : w.cell? ⟨g, o + 0, none⟩ = some (.string (strB (gR L 0))) := q0
   rw [Nat.add_zero, ← HR.out] at q0
   obtain ⟨R, hR⟩ : ∃ R, R = rt L := ⟨_, rfl⟩
   rw [← hR] at q0 ⊢
   clear h ih hR
   go_enter Tryz.func61, Tryz.ntmps61
   go_wp2_with fail
   go_ret
   exact ⟨rfl, Below.refl _ _⟩
  ·
   obtain ⟨s1, s2, s3, _, _⟩ := spl_parts (n := n) (by omega) (by omega)
   obtain ⟨g, o, rfl⟩ := h.form (by omega)
   have e0 : ((n : Int) == 0) = false := by rw [beq_eq_false_iff_ne]; omega
   have e1 : ((n : Int) == 1) = false := by rw [beq_eq_false_iff_ne]; omega
   have hRT := rt_two (L := L) (by rw [h.1]; omega) (by rw [h.1]; omega)
   rw [h.1] at hRT
   obtain ⟨k, hk⟩ : ∃ k, k = spl n := ⟨_, rfl⟩
   rw [← hk] at s1 s2 s3 hRT
   have HKS := Lib.hid hk.symm
   have HP1 := Lib.hid (h.pre (k := k) (by omega))
   have HP2 := Lib.hid (h.suf (k := k) (by omega))
   obtain ⟨R1, hR1⟩ : ∃ R, R = rt (L.take k) := ⟨_, rfl⟩
   obtain ⟨R2, hR2⟩ : ∃ R, R = rt (L.drop k) := ⟨_, rfl⟩
   have HL1 : Hid (R1.length ≤ 1048576) := Lib.hid (by
    rw [hR1, rt_length (hv.take k) (by rw [List.length_take, h.1]; omega) (by rw [List.length_take, h.1]; omega)]; decide)
   have HL2 : Hid (R2.length ≤ 1048576) := Lib.hid (by
    rw [hR2, rt_length (hv.drop k) (by rw [List.length_drop, h.1]; omega) (by rw [List.length_drop, h.1]; omega)]; decide)
   rw [← hR1, ← hR2] at hRT
   rw [hRT]
   have HR1 := Lib.hid hR1.symm
   have HR2 := Lib.hid hR2.symm
   have hkn : k ≤ n := by omega
   have hkc : k ≤ c := by omega
   have hck : ¬ c = k := by omega
   have hck2 : (k : Int) ≤ (n : Int) := by omega
   have hck3 : (k : Int) ≤ (c : Int) := by omega
   clear h ih hk hR1 hR2 hRT
   go_enter Tryz.func61, Tryz.ntmps61
   go_wp2_with (go_at_call 97; refine (split_any n _ (by omega) (by omega)).mono ?_; rintro e w1 ⟨rfl, hw⟩; rw [hw]; clear hw w1; rw [HKS.out])
   refine Text.wp_region_text (fun _ => True) [(0, 4), (1, 4), (2, 4), (4, 4), (5, 4), (6, 4), (3, 2), (7, 2), (8, 2), (9, 4)] (by kernel_rfl) (by kernel_rfl) (fun _ _ _ _ _ h => h) (trivial) ?_
   iterate 6 (refine Text.purek rfl rfl (fun K hK => ⟨_, fun w' => by go_simp <;> rfl, ?_⟩); go_simp; refine hK _ ?_; clear hK K)
   refine Text.eff rfl rfl (fun K hK => ?_)
   go_simp
   refine (IH.out k _ c _ _ (by omega) HP1.out.drew HT.out.drew s1 (by omega) (hv.take k)).mono ?_
   rintro e w2 ⟨rfl, b1⟩
   rw [HR1.out]
   have HB2 : Hid (Below w.heap.size w w2) := Lib.hid (below_ofDrew b1)
   refine hK _ _ trivial ?_
   clear hK K b1
   refine Text.eff rfl rfl (fun K hK => ?_)
   go_simp
   refine (IH.out (n - k) _ (c - k) _ w2 (by omega) (HP2.out.kept HB2.out) (HT.out.kept HB2.out) (by omega) (by omega) (hv.drop k)).mono ?_
   rintro e w3 ⟨rfl, b1⟩
   rw [HR2.out]
   have HB3 := Lib.hid (below_then HB2.out b1)
   refine hK _ _ trivial ?_
   clear hK K b1
   refine Text.eff rfl rfl (fun K hK => ?_)
   go_simp
   refine (node_any R1 R2 w3 (HT.out.kept HB3.out) HL1.out HL2.out).mono ?_
   rintro e w4 ⟨rfl, b1⟩
   have HB4 := Lib.hid (below_then HB3.out b1)
   refine hK _ _ trivial ?_
   clear hK K b1
   (refine Text.purek rfl rfl (fun K hK => ⟨_, fun w' => by go_simp <;> rfl, ?_⟩); go_simp; refine hK _ ?_; clear hK K)
   refine Text.done ?_
   go_wp2_with fail
   go_ret
   exact ⟨rfl, HB4.out⟩


set_option maxRecDepth 100000 in
set_option maxHeartbeats 1000000 in
theorem mof_any (A : Option Addr) (n c size : Nat) (x : List UInt8) (w : World) (h : BS w A n c x) (hT : Tabs w) (h1 : 1 ≤ n) (hn : n ≤ 1000000) (hs : 1 ≤ size) (hs2 : size < 9223372036854775808) (hq : nb n size ≤ 250) :
  Calls Tryz.prog 60 #[.slice A n c, .int .i64 (size : Int)] w fun e w' => e = .returned (.tuple #[.string (strB (rt (lvsK x size (nb n size)))), .int .i64 0]) ∧ Below w.heap.size w w' := by
 have H := Lib.hid h
 have HT := Lib.hid hT
 have HN := Lib.hid (And.intro h1 hn)
 have hq1 : 1 ≤ nb n size := Nat.le_add_left 1 _
 obtain ⟨q, hqd⟩ : ∃ q, q = nb n size := ⟨_, rfl⟩
 rw [← hqd] at hq hq1 ⊢
 have HQ := Lib.hid hqd.symm
 have HQL : Hid (q * 16 ≤ lim) := Lib.hid (by unfold lim; omega)
 clear h hT hqd h1 hn
 go_enter Tryz.func60, Tryz.ntmps60
 go_wp2_with (first
  | (go_at_call 95; refine (blocks_any A n c size x w H.out HT.out HN.out.1 HN.out.2 hs hs2).mono ?_; rintro e w1 ⟨v1, rfl, o1, b1⟩; rw [HQ.out] at o1; obtain ⟨A1, c1, rfl, _⟩ := o1.1.form; have HO1 := Lib.hid o1; have HB1 := Lib.hid b1; clear o1 b1)
  | (go_at_call 61; refine (mroot_any q q A1 c1 (lvsK x size q) w1 (Nat.le_refl _) (TS.of_rw HO1.out.1 HQL.out) (HT.out.kept HB1.out) hq1 hq (lvsK_lv _ _ _)).mono ?_; rintro e w2 ⟨rfl, b2⟩; have HB2 := Lib.hid (below_then HB1.out b2); clear b2))
 go_ret2
 exact ⟨rfl, HB2.out⟩

end Go.Proofs.YtfcakjpljjnjnaaGreatDoor
/- Pieces in memory; ContainsFunc of strings and bytes; stripe.Verify, fits. -/
namespace Go.Proofs.YtfcakjpljjnjnaaGreatDoor
open Go Go.RowKit Gf Sha

/-- A piece. -/
structure Pe where
 id : List UInt8
 ix : Int
 da : List UInt8
 sm : List (List UInt8)
abbrev peC (p : Pe) (A : Option Addr) (n c : Nat) (B : Option Addr) (m d : Nat) : List Value := [.string (strB p.id), .int .i64 p.ix, .slice A n c, .slice B m d]
def rPe : Rdg Pe := fun w cs p => ∃ A n c B m d, cs = peC p A n c B m d ∧ BS w A n c p.da ∧ TS w B m d p.sm ∧ p.id.length ≤ reachBytes ∧ wfI p.ix
theorem stay_pe : Stay rPe := fun _ _ _ _ ⟨A, n, c, B, m, d, e, h1, h2, r⟩ hb => ⟨A, n, c, B, m, d, e, h1.kept hb, h2.kept hb, r⟩
theorem one_pe (p : Pe) (A : Option Addr) (n c : Nat) (B : Option Addr) (m d : Nat) : ∀ v ∈ peC p A n c B m d, v.oneCell' = true := fun v hv => by
 simp only [List.mem_cons, List.not_mem_nil, or_false] at hv
 rcases hv with rfl | rfl | rfl | rfl <;> rfl
def peZ : List Value := [.string (strB []), .int .i64 0, .slice none 0 0, .slice none 0 0]
theorem peZero : (Tryz.prog.info? 48).map (·.zero) = some (some (.agg peZ.toArray)) := by kernel_rfl
theorem infoPe : (Tryz.prog.info? 48).map (fun i => (i.zero, i.size, i.bytes)) = some (some (.agg peZ.toArray), 4, 72) := by kernel_rfl
/-- The sum of piece data. -/
def psum (x : List UInt8) : List UInt8 := rt (lvsK x 512 (nb x.length 512))
def smB (l : List (List UInt8)) : Bool := l.all (fun s => decide (s.length = 32))
def verP (p : Pe) : Bool := decide (p.id.length = 32) && (decide (1 ≤ p.sm.length) && (decide (p.sm.length ≤ 16) && (smB p.sm && (decide (0 ≤ p.ix) && (decide (p.ix < (p.sm.length : Int)) && (decide (1 ≤ p.da.length) && (decide (p.da.length ≤ 65536) && (decide (psum p.da = gR p.sm p.ix.toNat) && decide (rt p.sm = p.id)))))))))
def sfiB (s : Sp) (p : Pe) : Bool := decide (p.id = s.id) && (decide ((p.sm.length : Int) = s.t) && (decide ((p.da.length : Int) = s.b) && verP p))
/-- What IndexFunc returns. -/
def idxN (n : Nat) (f : Nat → Bool) (r : Int) : Prop := (r = -1 ∧ ∀ k, k < n → f k = false) ∨ ∃ k : Nat, r = (k : Int) ∧ k < n ∧ f k = true
theorem idxN_any {n : Nat} {f : Nat → Bool} {r : Int} (h : idxN n f r) : decide (r ≥ 0) = (List.range n).any f := by
 rcases h with ⟨rfl, h⟩ | ⟨k, rfl, hk, h⟩
 ·
  rw [List.any_eq_false.2 (fun k hk => by rw [h k (List.mem_range.1 hk)]; decide)]; rfl
 ·
  rw [List.any_eq_true.2 ⟨k, List.mem_range.2 hk, h⟩, decide_eq_true (by omega)]
theorem any_len (l : List (List UInt8)) : (List.range l.length).any (fun k => !decide ((gR l k).length = 32)) = !smB l := by
 have h : ∀ (l : List (List UInt8)), (List.range l.length).any (fun k => !decide ((gR l k).length = 32)) = l.any (fun s => !decide (s.length = 32)) := by
  intro l
  rw [Bool.eq_iff_iff, List.any_eq_true, List.any_eq_true]
  constructor
  ·
   rintro ⟨k, hk, h⟩
   have hk' := List.mem_range.1 hk
   exact ⟨l[k], List.getElem_mem hk', by rw [gR_eq hk'] at h; exact h⟩
  ·
   rintro ⟨s, hs, h⟩
   obtain ⟨k, hk, rfl⟩ := List.getElem_of_mem hs
   exact ⟨k, List.mem_range.2 hk, by rw [gR_eq hk]; exact h⟩
 rw [h, smB, List.not_all_eq_any_not]
section
set_option maxRecDepth 100000
set_option maxHeartbeats 4000000
theorem ver1_any (x : List UInt8) (w : World) : Calls Tryz.prog 143 #[.string (strB x)] w fun e w' => e = .returned (.bool (!decide (x.length = 32))) ∧ Below w.heap.size w w' := by
 cases h : decide (x.length = 32) with
 | true =>
  have h1 : (((strB x).size : Int) != 32) = false := by rw [strB_size, of_decide_eq_true h]; rfl
  go_enter Tryz.func143, Tryz.ntmps143
  go_wp2_with fail
  go_ret
  exact ⟨rfl, Below.refl _ _⟩
 | false =>
  have h1 : (((strB x).size : Int) != 32) = true := by rw [strB_size, bne_iff_ne]; have := of_decide_eq_false h; omega
  go_enter Tryz.func143, Tryz.ntmps143
  go_wp2_with fail
  go_ret
  exact ⟨rfl, Below.refl _ _⟩
theorem nz_any (x : UInt8) (w : World) : Calls Tryz.prog 76 #[B x] w fun e w' => e = .returned (.bool (!decide (x = 0))) ∧ Below w.heap.size w w' := by
 have hb : (bv x != 0) = !decide (x = 0) := by
  rw [bne, Bool.not_eq_eq_eq_not, Bool.not_not, Bool.eq_iff_iff, beq_iff_eq, decide_eq_true_eq]
  constructor
  ·
   intro h
   exact UInt8.toNat_inj.1 (by unfold bv at h; simpa using h)
  ·
   intro h; subst h; rfl
 obtain ⟨r, hr⟩ : ∃ r, r = !decide (x = 0) := ⟨_, rfl⟩
 rw [← hr] at hb ⊢
 clear hr
 show Calls Tryz.prog 76 #[.int .u8 (bv x)] w _
 go_enter Tryz.func76, Tryz.ntmps76
 go_wp2_with fail
 go_ret
 exact ⟨rfl, Below.refl _ _⟩
theorem idx_len (A : Option Addr) (n c : Nat) (L : List (List UInt8)) (w : World) (hL : TS w A n c L) :
  Calls Tryz.prog 155 #[.slice A n c, .func (.func 143) #[] #[]] w fun e w' => ∃ r, e = .returned (.int .i64 r) ∧ idxN n (fun k => !decide ((gR L k).length = 32)) r ∧ Below w.heap.size w w' := by
 have hn : n ≤ 140737488355328 := by have h9 := hL.2.2.1; unfold lim at h9; omega
 have H := Lib.hid hL
 clear hL
 go_enter Tryz.func155, Tryz.ntmps155
 go_wp2_with fail
 go_loopw [8] (fun iv wr => ∃ k : Nat, k ≤ n ∧ iv = .int .i64 (k : Int) ∧ Hid (∀ k', k' < k → (fun k => !decide ((gR L k).length = 32)) k' = false) ∧ Hid (Below w.heap.size w wr)) (fun iv _ => n - (intOf iv).toNat)
 case atStart => exact ⟨0, by omega, rfl, Lib.hid (fun x hx => absurd hx (by omega)), Lib.hid (Below.refl _ _)⟩
 case round =>
  obtain ⟨k, hk, rfl, hall, hb⟩ := hrel
  obtain ⟨wx, hwx⟩ : ∃ x, x = wr := ⟨_, rfl⟩
  rw [← hwx] at hb ⊢
  clear hwx
  by_cases hlt : k < n
  ·
   obtain ⟨g, o, ea, q0⟩ := (H.out.kept hb.out).2.2.2 k hlt
   subst ea
   cases h1 : !decide ((gR L k).length = 32) with
   | true =>
    go_wp2_with (first
     | (go_at_call 143; refine (ver1_any _ wx).mono ?_; rintro e w2 ⟨rfl, bl⟩; rw [h1]; have HX2 := Lib.hid bl; clear bl))
    go_ret
    exact ⟨(k : Int), rfl, .inr ⟨k, rfl, hlt, h1⟩, below_thenB hb.out hb.out.size HX2.out⟩
   | false =>
    have HALL : Hid (∀ k', k' < k + 1 → (fun k => !decide ((gR L k).length = 32)) k' = false) := Lib.hid (fun k' hk' => by
     rcases Nat.lt_succ_iff_lt_or_eq.1 hk' with h | rfl
     ·
      exact hall.out k' h
     ·
      exact h1)
    go_wp2_with (first
     | (go_at_call 143; refine (ver1_any _ wx).mono ?_; rintro e w2 ⟨rfl, bl⟩; rw [h1]; have HX2 := Lib.hid bl; clear bl))
    go_roundw
    case rel => exact ⟨k + 1, by omega, by go_num, HALL, Lib.hid (below_thenB hb.out hb.out.size HX2.out)⟩
    case measure => simp [intOf]; omega
  ·
   obtain rfl : k = n := by omega
   go_wp2_with fail
   go_ret
   exact ⟨-1, rfl, .inl ⟨rfl, hall.out⟩, hb.out⟩
theorem cont_len (A : Option Addr) (n c : Nat) (L : List (List UInt8)) (w : World) (hL : TS w A n c L) :
  Calls Tryz.prog 142 #[.slice A n c, .func (.func 143) #[] #[]] w fun e w' => e = .returned (.bool ((List.range n).any (fun k => !decide ((gR L k).length = 32)))) ∧ Below w.heap.size w w' := by
 have H := Lib.hid hL
 clear hL
 go_enter Tryz.func142, Tryz.ntmps142
 go_wp2_with (first
  | (go_at_call 155; refine (idx_len A n c L w H.out).mono ?_; rintro e w1 ⟨r, rfl, h1, h2⟩; have HI := Lib.hid (idxN_any h1); have HB := Lib.hid h2; clear h1 h2))
 go_ret
 exact ⟨by rw [← HI.out]; rfl, HB.out⟩
theorem idx_nz (A : Option Addr) (n c : Nat) (L : List UInt8) (w : World) (hL : BS w A n c L) :
  Calls Tryz.prog 119 #[.slice A n c, .func (.func 76) #[] #[]] w fun e w' => ∃ r, e = .returned (.int .i64 r) ∧ idxN n (fun k => !decide (gB L k = 0)) r ∧ Below w.heap.size w w' := by
 have hn : n ≤ 140737488355328 := by have h9 := hL.2.2.1; unfold lim at h9; omega
 have H := Lib.hid hL
 clear hL
 go_enter Tryz.func119, Tryz.ntmps119
 go_wp2_with fail
 go_loopw [8] (fun iv wr => ∃ k : Nat, k ≤ n ∧ iv = .int .i64 (k : Int) ∧ Hid (∀ k', k' < k → (fun k => !decide (gB L k = 0)) k' = false) ∧ Hid (Below w.heap.size w wr)) (fun iv _ => n - (intOf iv).toNat)
 case atStart => exact ⟨0, by omega, rfl, Lib.hid (fun x hx => absurd hx (by omega)), Lib.hid (Below.refl _ _)⟩
 case round =>
  obtain ⟨k, hk, rfl, hall, hb⟩ := hrel
  obtain ⟨wx, hwx⟩ : ∃ x, x = wr := ⟨_, rfl⟩
  rw [← hwx] at hb ⊢
  clear hwx
  by_cases hlt : k < n
  ·
   obtain ⟨g, o, ea, q0⟩ := (H.out.kept hb.out).2.2.2 k hlt
   subst ea
   cases h1 : !decide (gB L k = 0) with
   | true =>
    go_wp2_with (first
     | (go_at_call 76; refine (nz_any _ wx).mono ?_; rintro e w2 ⟨rfl, bl⟩; rw [h1]; have HX2 := Lib.hid bl; clear bl))
    go_ret
    exact ⟨(k : Int), rfl, .inr ⟨k, rfl, hlt, h1⟩, below_thenB hb.out hb.out.size HX2.out⟩
   | false =>
    have HALL : Hid (∀ k', k' < k + 1 → (fun k => !decide (gB L k = 0)) k' = false) := Lib.hid (fun k' hk' => by
     rcases Nat.lt_succ_iff_lt_or_eq.1 hk' with h | rfl
     ·
      exact hall.out k' h
     ·
      exact h1)
    go_wp2_with (first
     | (go_at_call 76; refine (nz_any _ wx).mono ?_; rintro e w2 ⟨rfl, bl⟩; rw [h1]; have HX2 := Lib.hid bl; clear bl))
    go_roundw
    case rel => exact ⟨k + 1, by omega, by go_num, HALL, Lib.hid (below_thenB hb.out hb.out.size HX2.out)⟩
    case measure => simp [intOf]; omega
  ·
   obtain rfl : k = n := by omega
   go_wp2_with fail
   go_ret
   exact ⟨-1, rfl, .inl ⟨rfl, hall.out⟩, hb.out⟩
theorem cont_nz (A : Option Addr) (n c : Nat) (L : List UInt8) (w : World) (hL : BS w A n c L) :
  Calls Tryz.prog 75 #[.slice A n c, .func (.func 76) #[] #[]] w fun e w' => e = .returned (.bool ((List.range n).any (fun k => !decide (gB L k = 0)))) ∧ Below w.heap.size w w' := by
 have H := Lib.hid hL
 clear hL
 go_enter Tryz.func75, Tryz.ntmps75
 go_wp2_with (first
  | (go_at_call 119; refine (idx_nz A n c L w H.out).mono ?_; rintro e w1 ⟨r, rfl, h1, h2⟩; have HI := Lib.hid (idxN_any h1); have HB := Lib.hid h2; clear h1 h2))
 go_ret
 exact ⟨by rw [← HI.out]; rfl, HB.out⟩
end
end Go.Proofs.YtfcakjpljjnjnaaGreatDoor
