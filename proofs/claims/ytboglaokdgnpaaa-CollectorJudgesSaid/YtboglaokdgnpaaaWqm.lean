/- The reference's Freed. -/
import Derived.Test.YtboglaokdgnpaaaA19
import Derived.Test.YtboglaokdgnpaaaA11
import Derived.Test.YtboglaokdgnpaaaWjm
import Derived.Test.YtboglaokdgnpaaaA23
namespace Go.Proofs.Ytboglaokdgnpaaa
open Go Go.RowKit Gf Sha

/-- The bytes that a step frees; the bytes that steps free. -/
def fdS (x : Si) (s : Stp) : Int := if s.kind = 3 then ((findS x s.pc.1).getD spE).b else 0
def fdL (x : Si) (l : List Stp) : Int := l.foldl (fun n s => n + fdS x s) 0
theorem fdL_step {x : Si} {l : List Stp} {k : Nat} {s : Stp} (h : l[k]? = some s) : fdL x (l.take (k + 1)) = fdL x (l.take k) + fdS x s := by
 unfold fdL; rw [take_next h, List.foldl_append]; rfl
theorem clsG_at (n : Nat) : ∀ f t, ∃ j, j ≤ t + f ∧ clsG f t n = clsAt j := by
 intro f
 induction f with
 | zero => intro t; exact ⟨t, by omega, rfl⟩
 | succ f ih =>
  intro t
  rw [clsG]
  split
  ·
   exact ⟨t, by omega, rfl⟩
  ·
   obtain ⟨j, h1, h2⟩ := ih (t + 1)
   exact ⟨j, by omega, h2⟩
theorem clsAt_top : ∀ j, j < 45 → clsAt j ≤ 200000 := by decide +kernel
theorem clsOf_le (n : Nat) : clsOf n ≤ 200000 := by
 obtain ⟨j, h1, h2⟩ := clsG_at n 44 0
 unfold clsOf
 rw [h2]
 exact clsAt_top j (by omega)
theorem spB_b {s : Sp} (h : spB s = true) : 0 ≤ s.b ∧ s.b ≤ 200000 := by
 simp only [spB, Bool.and_eq_true, decide_eq_true_eq, List.all_eq_true] at h
 obtain ⟨_, _, _, _, h5, _, _, h8⟩ := h
 obtain ⟨r, hr⟩ := List.exists_mem_of_length_pos (show 0 < s.refs.length by omega)
 have h9 := h8 r hr
 have h10 := clsOf_le (needN r.2.2.toNat)
 unfold clsR at h9
 omega
theorem find_b {x : Si} (hv : siB x = true) (id : List UInt8) : 0 ≤ ((findS x id).getD spE).b ∧ ((findS x id).getD spE).b ≤ 200000 := by
 cases h : findS x id with
 | none => simp [spE]
 | some s =>
  have h1 := List.mem_of_find?_eq_some h
  obtain ⟨j, hj⟩ := List.mem_iff_getElem?.1 h1
  exact spB_b (okB_at (siB_sp hv) hj)
theorem fdS_b {x : Si} (hv : siB x = true) (s : Stp) : 0 ≤ fdS x s ∧ fdS x s ≤ 200000 := by
 unfold fdS
 split
 ·
  exact find_b hv _
 ·
  omega
theorem fdL_b {x : Si} (hv : siB x = true) (l : List Stp) : ∀ k, 0 ≤ fdL x (l.take k) ∧ fdL x (l.take k) ≤ 200000 * k
 | 0 => by simp [fdL]
 | k + 1 => by
  have ih := fdL_b hv l k
  cases h : l[k]? with
  | none =>
   rw [List.take_add_one, h]
   simp only [Option.toList, List.append_nil]
   omega
  | some s =>
   have h1 := fdS_b hv s
   rw [fdL_step h]
   omega
set_option maxRecDepth 100000 in
set_option maxHeartbeats 4000000 in
theorem rfreed_any (cx : List Value) (x : Si) (w : World) (hx : rSi w cx x) (hv : siB x = true) (A : Option Addr) (n c : Nat) (l : List Stp) (hl : LS rStp 5 80 w A n c l) (hn1 : n ≤ 1000) :
  Calls Try.prog 29 #[.agg cx.toArray, .slice A n c] w fun e w' => e = .returned (.int .i64 (fdL x l)) ∧ Below w.heap.size w w' := by
 obtain ⟨a0, n0, c0, a1, n1, c1, a2, n2, c2, a3, n3, c3, a4, n4, c4, a5, n5, c5, rfl, hq⟩ := hx
 have hn := hl.len_le
 have HQ := Lib.hid hq
 have HL := Lib.hid hl
 have HN := Lib.hid hl.1
 have HN1 := Lib.hid hn1
 have HVL := Lib.hid hv
 clear hq hl hv hn1
 go_enter Try.func29, Try.ntmps29
 go_wp2_with (first
  | ((with_reducible show OpW 2); refine wpList_box _ rfl 26 (.tmp 0) rfl (siC a0 n0 c0 a1 n1 c1 a2 n2 c2 a3 n3 c3 a4 n4 c4 a5 n5 c5 x.pct) rfl ?_; intro w1 y1 y2 y3; have HB1 := Lib.hid y2; have HS1 := Lib.hid y1; clear y1 y2 y3))
 go_loopw [5, 12] (fun ov iv wr => ∃ (k : Nat) (v : Int), k ≤ n ∧ iv = .int .i64 (k : Int) ∧ ov = .int .i64 v ∧ Hid (v = fdL x (l.take k)) ∧ Hid (Below w1.heap.size w1 wr)) (fun _ iv _ => n - (intOf iv).toNat)
 case atStart => exact ⟨0, 0, by omega, rfl, rfl, Lib.hid rfl, Lib.hid (Below.refl _ _)⟩
 case round =>
  obtain ⟨k, v, hk, rfl, rfl, hv, hb⟩ := hrel
  obtain ⟨wx, hwx⟩ : ∃ x, x = wr := ⟨_, rfl⟩
  rw [← hwx] at hb ⊢
  clear hwx
  have HBx := Lib.hid (below_then HB1.out hb.out)
  by_cases hlt : k < n
  ·
   obtain ⟨t, g, o, cs, hs, ea, hat, hrt⟩ := HL.out.at_ stay_stp HBx.out hlt
   obtain ⟨B0, p0, d0, B1, p1, d1, rfl, _⟩ := hrt
   have HA := Lib.hid hat
   have HX := Lib.hid hs
   have HST := Lib.hid (fdL_step (x := x) HX.out)
   have hvb := fdL_b HVL.out l k
   rw [← hv.out] at hvb
   have hsb := fdS_b HVL.out t
   have hk1 := HN1.out
   subst ea
   clear hs hat
   cases hf : (findS x t.pc.1).isSome with
   | false =>
    have HF : Hid (fdS x t = 0) := Lib.hid (by
     unfold fdS
     have h2 : findS x t.pc.1 = none := by
      cases h9 : findS x t.pc.1 with
      | none => rfl
      | some s => rw [h9] at hf; cases hf
     rw [h2]
     split <;> rfl)
    clear hvb hsb hk1
    go_wp2_with (first
     | ((with_reducible show OpW 15); refine wpList_loadv _ rfl 42 (.tmp 14) rfl 5 (by kernel_rfl) g (o + k * 5) (stC2 t B0 p0 d0 B1 p1 d1) (by go_simp) HA.out rfl ?_)
     | ((with_reducible show OpW 7); refine wpList_alloc _ rfl 42 rfl stpZ stqZero ?_; intro w3 a1 a2 a3; have HV3 := Lib.hid a1; have HX3 := Lib.hid a2; clear a1 a2 a3)
     | ((with_reducible show OpN); refine wpList_storev _ rfl 42 (.tmp 7) (.tmp 15) rfl 5 (by kernel_rfl) wx.heap.size 0 _ stpZ (stC2 t B0 p0 d0 B1 p1 d1) rfl rfl HV3.out rfl (one_val _ rfl) (by decide) ?_; intro w4 a1 a2 a3; have HV4 : Hid (BL w4 wx.heap.size 42 (stC2 t B0 p0 d0 B1 p1 d1)) := Lib.hid a1; have HX4 : Hid (Below wx.heap.size wx w4) := Lib.hid (((Kp.of_below (S := fun _ => False) HX3.out).after a2 (fun i hi e => by omega)).below (Nat.le_refl _) (fun _ h => h.elim)); clear a1 a2 a3; have HS4 := Lib.hid ((HS1.out.kept hb.out).kept HX4.out); have r2 := HV4.out.get (j := 2) rfl)
     | ((with_reducible show OpW 17); refine wpList_loadv _ rfl 26 (.tmp 2) rfl 7 (by kernel_rfl) w.heap.size 0 _ rfl (BL.all HS4.out) rfl ?_)
     | (go_at_call 66; refine (find_any _ x t.pc.1 _ (show rSi w4 _ _ from ⟨a0, n0, c0, a1, n1, c1, a2, n2, c2, a3, n3, c3, a4, n4, c4, a5, n5, c5, rfl, HQ.out.kept (below_thenB HBx.out HBx.out.size HX4.out)⟩)).mono ?_; rintro e w5 ⟨fs, rfl, hfs, b5⟩; rw [hf]; obtain ⟨Af, mf, cf, rfl, _⟩ := hfs; have HX5 := Lib.hid (below_thenB HX4.out HX4.out.size b5); have HV5 := Lib.hid (HV4.out.kept b5); clear b5)
     | ((with_reducible show OpW 8); refine wpList_alloc _ rfl 61 rfl spZ spZero ?_; intro w6 y1 y2 y3; have HV6 := Lib.hid y1; have HX6 := Lib.hid (below_thenB HX5.out HX5.out.size y2); have HT6 := Lib.hid (HV5.out.kept y2); have HLT := Lib.hid HV5.out.lt; clear y1 y2 y3)
     | ((with_reducible show OpN); refine wpList_storev _ rfl 61 (.tmp 8) (.tmp 22) rfl 6 (by kernel_rfl) w5.heap.size 0 _ spZ (spC ((findS x t.pc.1).getD spE) Af mf cf) rfl rfl HV6.out rfl (one_sp _ Af mf cf) (by decide) ?_; intro w7 y1 y2 y3; have HX7 : Hid (Below wx.heap.size wx w7) := Lib.hid (((Kp.of_below (S := fun _ => False) HX6.out).after y2 (fun i hi e => by have := HX5.out.size; omega)).below (Nat.le_refl _) (fun _ h => h.elim)); have HF7 : Hid (BL w7 w5.heap.size 61 (spC ((findS x t.pc.1).getD spE) Af mf cf)) := Lib.hid y1; have HT7 := Lib.hid (y2.bl HT6.out (fun e => by have := HLT.out; omega)); have s0 := HT7.out.get (j := 0) rfl; have s2 := HF7.out.get (j := 2) rfl; clear y1 y2 y3))
    go_roundw
    case rel => exact ⟨k + 1, v, by omega, by go_num, rfl, Lib.hid (by rw [HST.out, HF.out, ← hv.out]; omega), Lib.hid (below_thenB hb.out hb.out.size HX7.out)⟩
    case measure => simp [intOf]; omega
   | true =>
    by_cases h3 : t.kind = 3
    ·
     have HF : Hid (fdS x t = ((findS x t.pc.1).getD spE).b) := Lib.hid (by rw [fdS, if_pos h3])
     have e3 : (t.kind == 3) = true := by simp [h3]
     rw [HF.out] at hsb
     clear h3
     go_wp2_with (first
      | ((with_reducible show OpW 15); refine wpList_loadv _ rfl 42 (.tmp 14) rfl 5 (by kernel_rfl) g (o + k * 5) (stC2 t B0 p0 d0 B1 p1 d1) (by go_simp) HA.out rfl ?_)
      | ((with_reducible show OpW 7); refine wpList_alloc _ rfl 42 rfl stpZ stqZero ?_; intro w3 a1 a2 a3; have HV3 := Lib.hid a1; have HX3 := Lib.hid a2; clear a1 a2 a3)
      | ((with_reducible show OpN); refine wpList_storev _ rfl 42 (.tmp 7) (.tmp 15) rfl 5 (by kernel_rfl) wx.heap.size 0 _ stpZ (stC2 t B0 p0 d0 B1 p1 d1) rfl rfl HV3.out rfl (one_val _ rfl) (by decide) ?_; intro w4 a1 a2 a3; have HV4 : Hid (BL w4 wx.heap.size 42 (stC2 t B0 p0 d0 B1 p1 d1)) := Lib.hid a1; have HX4 : Hid (Below wx.heap.size wx w4) := Lib.hid (((Kp.of_below (S := fun _ => False) HX3.out).after a2 (fun i hi e => by omega)).below (Nat.le_refl _) (fun _ h => h.elim)); clear a1 a2 a3; have HS4 := Lib.hid ((HS1.out.kept hb.out).kept HX4.out); have r2 := HV4.out.get (j := 2) rfl)
      | ((with_reducible show OpW 17); refine wpList_loadv _ rfl 26 (.tmp 2) rfl 7 (by kernel_rfl) w.heap.size 0 _ rfl (BL.all HS4.out) rfl ?_)
      | (go_at_call 66; refine (find_any _ x t.pc.1 _ (show rSi w4 _ _ from ⟨a0, n0, c0, a1, n1, c1, a2, n2, c2, a3, n3, c3, a4, n4, c4, a5, n5, c5, rfl, HQ.out.kept (below_thenB HBx.out HBx.out.size HX4.out)⟩)).mono ?_; rintro e w5 ⟨fs, rfl, hfs, b5⟩; rw [hf]; obtain ⟨Af, mf, cf, rfl, _⟩ := hfs; have HX5 := Lib.hid (below_thenB HX4.out HX4.out.size b5); have HV5 := Lib.hid (HV4.out.kept b5); clear b5)
      | ((with_reducible show OpW 8); refine wpList_alloc _ rfl 61 rfl spZ spZero ?_; intro w6 y1 y2 y3; have HV6 := Lib.hid y1; have HX6 := Lib.hid (below_thenB HX5.out HX5.out.size y2); have HT6 := Lib.hid (HV5.out.kept y2); have HLT := Lib.hid HV5.out.lt; clear y1 y2 y3)
      | ((with_reducible show OpN); refine wpList_storev _ rfl 61 (.tmp 8) (.tmp 22) rfl 6 (by kernel_rfl) w5.heap.size 0 _ spZ (spC ((findS x t.pc.1).getD spE) Af mf cf) rfl rfl HV6.out rfl (one_sp _ Af mf cf) (by decide) ?_; intro w7 y1 y2 y3; have HX7 : Hid (Below wx.heap.size wx w7) := Lib.hid (((Kp.of_below (S := fun _ => False) HX6.out).after y2 (fun i hi e => by have := HX5.out.size; omega)).below (Nat.le_refl _) (fun _ h => h.elim)); have HF7 : Hid (BL w7 w5.heap.size 61 (spC ((findS x t.pc.1).getD spE) Af mf cf)) := Lib.hid y1; have HT7 := Lib.hid (y2.bl HT6.out (fun e => by have := HLT.out; omega)); have s0 := HT7.out.get (j := 0) rfl; have s2 := HF7.out.get (j := 2) rfl; clear y1 y2 y3))
     go_roundw
     case rel => exact ⟨k + 1, v + ((findS x t.pc.1).getD spE).b, by omega, by go_num, by go_num, Lib.hid (by rw [HST.out, HF.out, ← hv.out]), Lib.hid (below_thenB hb.out hb.out.size HX7.out)⟩
     case measure => simp [intOf]; omega
    ·
     have HF : Hid (fdS x t = 0) := Lib.hid (by rw [fdS, if_neg h3])
     have e3 : (t.kind == 3) = false := by simp [h3]
     clear h3 hvb hsb hk1
     go_wp2_with (first
      | ((with_reducible show OpW 15); refine wpList_loadv _ rfl 42 (.tmp 14) rfl 5 (by kernel_rfl) g (o + k * 5) (stC2 t B0 p0 d0 B1 p1 d1) (by go_simp) HA.out rfl ?_)
      | ((with_reducible show OpW 7); refine wpList_alloc _ rfl 42 rfl stpZ stqZero ?_; intro w3 a1 a2 a3; have HV3 := Lib.hid a1; have HX3 := Lib.hid a2; clear a1 a2 a3)
      | ((with_reducible show OpN); refine wpList_storev _ rfl 42 (.tmp 7) (.tmp 15) rfl 5 (by kernel_rfl) wx.heap.size 0 _ stpZ (stC2 t B0 p0 d0 B1 p1 d1) rfl rfl HV3.out rfl (one_val _ rfl) (by decide) ?_; intro w4 a1 a2 a3; have HV4 : Hid (BL w4 wx.heap.size 42 (stC2 t B0 p0 d0 B1 p1 d1)) := Lib.hid a1; have HX4 : Hid (Below wx.heap.size wx w4) := Lib.hid (((Kp.of_below (S := fun _ => False) HX3.out).after a2 (fun i hi e => by omega)).below (Nat.le_refl _) (fun _ h => h.elim)); clear a1 a2 a3; have HS4 := Lib.hid ((HS1.out.kept hb.out).kept HX4.out); have r2 := HV4.out.get (j := 2) rfl)
      | ((with_reducible show OpW 17); refine wpList_loadv _ rfl 26 (.tmp 2) rfl 7 (by kernel_rfl) w.heap.size 0 _ rfl (BL.all HS4.out) rfl ?_)
      | (go_at_call 66; refine (find_any _ x t.pc.1 _ (show rSi w4 _ _ from ⟨a0, n0, c0, a1, n1, c1, a2, n2, c2, a3, n3, c3, a4, n4, c4, a5, n5, c5, rfl, HQ.out.kept (below_thenB HBx.out HBx.out.size HX4.out)⟩)).mono ?_; rintro e w5 ⟨fs, rfl, hfs, b5⟩; rw [hf]; obtain ⟨Af, mf, cf, rfl, _⟩ := hfs; have HX5 := Lib.hid (below_thenB HX4.out HX4.out.size b5); have HV5 := Lib.hid (HV4.out.kept b5); clear b5)
      | ((with_reducible show OpW 8); refine wpList_alloc _ rfl 61 rfl spZ spZero ?_; intro w6 y1 y2 y3; have HV6 := Lib.hid y1; have HX6 := Lib.hid (below_thenB HX5.out HX5.out.size y2); have HT6 := Lib.hid (HV5.out.kept y2); have HLT := Lib.hid HV5.out.lt; clear y1 y2 y3)
      | ((with_reducible show OpN); refine wpList_storev _ rfl 61 (.tmp 8) (.tmp 22) rfl 6 (by kernel_rfl) w5.heap.size 0 _ spZ (spC ((findS x t.pc.1).getD spE) Af mf cf) rfl rfl HV6.out rfl (one_sp _ Af mf cf) (by decide) ?_; intro w7 y1 y2 y3; have HX7 : Hid (Below wx.heap.size wx w7) := Lib.hid (((Kp.of_below (S := fun _ => False) HX6.out).after y2 (fun i hi e => by have := HX5.out.size; omega)).below (Nat.le_refl _) (fun _ h => h.elim)); have HF7 : Hid (BL w7 w5.heap.size 61 (spC ((findS x t.pc.1).getD spE) Af mf cf)) := Lib.hid y1; have HT7 := Lib.hid (y2.bl HT6.out (fun e => by have := HLT.out; omega)); have s0 := HT7.out.get (j := 0) rfl; have s2 := HF7.out.get (j := 2) rfl; clear y1 y2 y3))
     go_roundw
     case rel => exact ⟨k + 1, v, by omega, by go_num, rfl, Lib.hid (by rw [HST.out, HF.out, ← hv.out]; omega), Lib.hid (below_thenB hb.out hb.out.size HX7.out)⟩
     case measure => simp [intOf]; omega
  ·
   obtain rfl : k = n := by omega
   have HE : Hid (v = fdL x l) := Lib.hid (by have h9 := hv.out; rw [take_end HN.out] at h9; exact h9)
   go_wp2_with fail
   go_ret
   exact ⟨by rw [HE.out]; rfl, HBx.out⟩
end Go.Proofs.Ytboglaokdgnpaaa
