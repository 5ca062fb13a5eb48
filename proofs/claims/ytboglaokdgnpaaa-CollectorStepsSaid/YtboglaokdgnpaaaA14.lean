/- Several texts in one: Cp, Cs. -/
import Derived.Test.YtboglaokdgnpaaaA13
/- The reference's Stripes. -/
namespace Go.Proofs.Ytboglaokdgnpaaa
open Go Go.RowKit Gf Sha
abbrev spN (s : Sp) : List UInt8 := s.id
set_option maxRecDepth 100000 in
set_option maxHeartbeats 2000000 in
theorem stripes_any (A : Option Addr) (n c : Nat) (l : List Sp) (w : World) (hl : LS rSp 6 72 w A n c l) :
  Calls Try.prog 41 #[.slice A n c] w fun e w' => e = .returned (.bool (okB spB spN l)) ∧ Below w.heap.size w w' := by
 have hn := hl.len_le
 have H := Lib.hid hl
 have HL := Lib.hid hl.1
 clear hl
 go_enter Try.func41, Try.ntmps41
 go_wp2_with fail
 go_loopw [8] (fun iv wr => ∃ k : Nat, k ≤ n ∧ iv = .int .i64 (k : Int) ∧ Hid (∀ j, j < k → okAt spB spN l j = true) ∧ Hid (Below w.heap.size w wr)) (fun iv _ => n - (intOf iv).toNat)
 case atStart => exact ⟨0, by omega, rfl, Lib.hid (fun j hj => absurd hj (by omega)), Lib.hid (Below.refl _ _)⟩
 case round =>
  obtain ⟨k, hk, rfl, hall, hb⟩ := hrel
  obtain ⟨wx, hwx⟩ : ∃ x, x = wr := ⟨_, rfl⟩
  rw [← hwx] at hb ⊢
  clear hwx
  by_cases hlt : k < n
  ·
   obtain ⟨x, g, o, cs, hs, rfl, hat, hr⟩ := H.out.at_ stay_sp (Below.refl _ _) hlt
   have HR := Lib.hid hr
   obtain ⟨A1, m1, c1, rfl, _⟩ := hr
   have HX := Lib.hid hs
   have HA := Lib.hid (hat.kept hb.out)
   clear hs hat
   cases h1 : spB x with
   | false =>
    have HF : Hid (okB spB spN l = false) := Lib.hid (ok_bad HX.out h1)
    go_wp2_with (first
     | ((with_reducible show OpW 12); refine wpList_loadv _ rfl 61 (.tmp 11) rfl 6 (by kernel_rfl) g (o + k * 6) (spC x A1 m1 c1) (by go_simp) HA.out rfl ?_)
     | ((with_reducible show OpW 4); refine wpList_alloc _ rfl 61 rfl spZ spZero ?_; intro w3 a1 a2 a3; have HV3 := Lib.hid a1; have HX3 := Lib.hid a2; clear a1 a2 a3)
     | ((with_reducible show OpN); refine wpList_storev _ rfl 61 (.tmp 4) (.tmp 12) rfl 6 (by kernel_rfl) wx.heap.size 0 _ spZ (spC x A1 m1 c1) rfl rfl HV3.out rfl (one_sp x A1 m1 c1) (by decide) ?_; intro w4 a1 a2 a3; have HV4 : Hid (BL w4 wx.heap.size 61 (spC x A1 m1 c1)) := Lib.hid a1; have HX4 : Hid (Below wx.heap.size wx w4) := Lib.hid (((Kp.of_below (S := fun _ => False) HX3.out).after a2 (fun i hi e => by omega)).below (Nat.le_refl _) (fun _ h => h.elim)); clear a1 a2 a3)
     | ((with_reducible show OpW 13); refine wpList_loadv _ rfl 61 (.tmp 4) rfl 6 (by kernel_rfl) wx.heap.size 0 (spC x A1 m1 c1) rfl (BL.all HV4.out) rfl ?_)
     | (go_at_call 82; refine (rvalid_any _ x _ (stay_sp _ _ _ _ HR.out (below_thenB hb.out hb.out.size HX4.out))).mono ?_; rintro e w5 ⟨rfl, b5⟩; rw [h1]; have HX5 := Lib.hid (below_then HX4.out b5); clear b5))
    go_ret
    exact ⟨ret_bool HF.out.symm, below_thenB hb.out hb.out.size HX5.out⟩
   | true =>
    go_wp2_with (first
     | ((with_reducible show OpW 12); refine wpList_loadv _ rfl 61 (.tmp 11) rfl 6 (by kernel_rfl) g (o + k * 6) (spC x A1 m1 c1) (by go_simp) HA.out rfl ?_)
     | ((with_reducible show OpW 4); refine wpList_alloc _ rfl 61 rfl spZ spZero ?_; intro w3 a1 a2 a3; have HV3 := Lib.hid a1; have HX3 := Lib.hid a2; clear a1 a2 a3)
     | ((with_reducible show OpN); refine wpList_storev _ rfl 61 (.tmp 4) (.tmp 12) rfl 6 (by kernel_rfl) wx.heap.size 0 _ spZ (spC x A1 m1 c1) rfl rfl HV3.out rfl (one_sp x A1 m1 c1) (by decide) ?_; intro w4 a1 a2 a3; have HV4 : Hid (BL w4 wx.heap.size 61 (spC x A1 m1 c1)) := Lib.hid a1; have HX4 : Hid (Below wx.heap.size wx w4) := Lib.hid (((Kp.of_below (S := fun _ => False) HX3.out).after a2 (fun i hi e => by omega)).below (Nat.le_refl _) (fun _ h => h.elim)); clear a1 a2 a3)
     | ((with_reducible show OpW 13); refine wpList_loadv _ rfl 61 (.tmp 4) rfl 6 (by kernel_rfl) wx.heap.size 0 (spC x A1 m1 c1) rfl (BL.all HV4.out) rfl ?_)
     | (go_at_call 82; refine (rvalid_any _ x _ (stay_sp _ _ _ _ HR.out (below_thenB hb.out hb.out.size HX4.out))).mono ?_; rintro e w5 ⟨rfl, b5⟩; rw [h1]; have HX5 := Lib.hid (below_then HX4.out b5); have HV5 := Lib.hid (HV4.out.kept b5); clear b5))
    have HB5 := Lib.hid (below_thenB hb.out hb.out.size HX5.out)
    go_loopw [5] (fun iv wr => ∃ j : Nat, j ≤ k ∧ iv = .int .i64 (j : Int) ∧ Hid (((l.take j).any fun y => spN y == spN x) = false) ∧ Hid (Below w5.heap.size w5 wr)) (fun iv _ => k - (intOf iv).toNat)
    case atStart => exact ⟨0, by omega, rfl, Lib.hid rfl, Lib.hid (Below.refl _ _)⟩
    case round =>
     obtain ⟨j, hj, rfl, hne, hb'⟩ := hrel
     have r0 : wr.cell? ⟨wx.heap.size, 0, none⟩ = some (.string (strB (spN x))) := (HV5.out.kept hb'.out).get (j := 0) rfl
     have HB6 := Lib.hid (below_thenB HB5.out HB5.out.size hb'.out)
     by_cases hjk : j < k
     ·
      have hjn : j < n := by omega
      obtain ⟨y, g', o', cs', hs', e', hat', hr'⟩ := H.out.at_ stay_sp (Below.refl _ _) (show j < n by omega)
      cases e'
      obtain ⟨A2, m2, c2, rfl, _⟩ := hr'
      have HY := Lib.hid hs'
      have q0 : wr.cell? ⟨g, o + j * 6, none⟩ = some (.string (strB (spN y))) := (hat'.kept HB6.out) 0 _ rfl
      clear hs' hat'
      by_cases he : spN y = spN x
      ·
       have es : ((strB (spN y)).toList == (strB (spN x)).toList) = true := by rw [strB_eq]; exact decide_eq_true he
       have HF : Hid (okB spB spN l = false) := Lib.hid (ok_twice HX.out HY.out hjk he)
       clear he
       go_wp2_with fail
       refine Text.wp_region_text (fun _ => True) [(0, 4), (1, 4), (2, 4), (3, 4), (5, 4), (4, 1), (6, 1), (7, 4)] (by kernel_rfl) (by kernel_rfl) (fun _ _ _ _ _ h => h) (trivial) ?_
       iterate 5 (refine Text.purek rfl rfl (fun K hK => ⟨_, fun w' => by go_simp <;> rfl, ?_⟩); go_simp; refine hK _ ?_; clear hK K)
       iterate 2 (refine Text.readk rfl rfl (fun K hK => ⟨_, by go_simp <;> rfl, ?_⟩); go_simp; refine hK _ ?_; clear hK K)
       (refine Text.purek rfl rfl (fun K hK => ⟨_, fun w' => by go_simp <;> rfl, ?_⟩); go_simp; refine hK _ ?_; clear hK K)
       refine Text.done ?_
       go_wp2_with fail
       go_ret
       exact ⟨ret_bool HF.out.symm, HB6.out.drew⟩
      ·
       have es : ((strB (spN y)).toList == (strB (spN x)).toList) = false := by rw [strB_eq]; exact decide_eq_false he
       have HF : Hid (((l.take (j + 1)).any fun y => spN y == spN x) = false) := Lib.hid (any_step HY.out hne.out (by simpa using he))
       clear he
       go_wp2_with fail
       refine Text.wp_region_text (fun _ => True) [(0, 4), (1, 4), (2, 4), (3, 4), (5, 4), (4, 1), (6, 1), (7, 4)] (by kernel_rfl) (by kernel_rfl) (fun _ _ _ _ _ h => h) (trivial) ?_
       iterate 5 (refine Text.purek rfl rfl (fun K hK => ⟨_, fun w' => by go_simp <;> rfl, ?_⟩); go_simp; refine hK _ ?_; clear hK K)
       iterate 2 (refine Text.readk rfl rfl (fun K hK => ⟨_, by go_simp <;> rfl, ?_⟩); go_simp; refine hK _ ?_; clear hK K)
       (refine Text.purek rfl rfl (fun K hK => ⟨_, fun w' => by go_simp <;> rfl, ?_⟩); go_simp; refine hK _ ?_; clear hK K)
       refine Text.done ?_
       go_wp2_with fail
       go_roundw
       case rel => exact ⟨j + 1, by omega, by go_num, HF, Lib.hid hb'.out.drew⟩
       case measure => simp [intOf]; omega
     ·
      obtain rfl : j = k := by omega
      have HF : Hid (∀ i, i < j + 1 → okAt spB spN l i = true) := Lib.hid (fun i hi => by
       rcases Nat.lt_succ_iff_lt_or_eq.1 hi with h | rfl
       ·
        exact hall.out i h
       ·
        exact ok_hit HX.out h1 hne.out)
      go_wp2_with fail
      go_roundw
      case rel => exact ⟨j + 1, by omega, by go_num, HF, HB6⟩
      case measure => simp [intOf]; omega
  ·
   obtain rfl : k = n := by omega
   have HF : Hid (okB spB spN l = true) := Lib.hid (ok_all (by rw [HL.out]; exact hall.out))
   go_wp2_with fail
   go_ret
   exact ⟨ret_bool HF.out.symm, hb.out⟩
end Go.Proofs.Ytboglaokdgnpaaa
/- The reference's Valid. -/
namespace Go.Proofs.Ytboglaokdgnpaaa
open Go Go.RowKit Gf Sha

/-- A piece's ID of the right form. -/
def pcB (p : Pc) : Bool := decide (p.1.length = 32) && (decide (0 ≤ p.2) && decide (p.2 < 16))
abbrev pcI (p : Pc) : Pc := p
/-- A valid situation. -/
def siB (x : Si) : Bool := okB pcB pcI x.held && (okB spB spN x.sp && (ascB x.need && (ascB x.cond && (ascB x.drop && (ascB x.carr && (decide (0 ≤ x.pct) && decide (x.pct ≤ 100)))))))

set_option maxRecDepth 100000 in
set_option maxHeartbeats 4000000 in
theorem sivalid_any (cx : List Value) (x : Si) (w : World) (hx : rSi w cx x) :
  Calls Try.prog 13 #[.agg cx.toArray] w fun e w' => e = .returned (.bool (siB x)) ∧ Below w.heap.size w w' := by
 obtain ⟨a0, n0, c0, a1, n1, c1, a2, n2, c2, a3, n3, c3, a4, n4, c4, a5, n5, c5, rfl, hq⟩ := hx
 have hn := hq.held.len_le
 have H := Lib.hid hq
 have HL := Lib.hid hq.held.1
 clear hq
 go_enter Try.func13, Try.ntmps13
 go_wp2_with ((with_reducible show OpW 1); refine wpList_box _ rfl 26 (.tmp 0) rfl (siC a0 n0 c0 a1 n1 c1 a2 n2 c2 a3 n3 c3 a4 n4 c4 a5 n5 c5 x.pct) rfl ?_; intro w1 a1 a2 a3; have HB1 := Lib.hid a2; have HS1 := Lib.hid a1; have q5 := a1.get (j := 5) rfl; clear a1 a2 a3)
 clear q5
 go_loopw [9] (fun iv wr => ∃ k : Nat, k ≤ n5 ∧ iv = .int .i64 (k : Int) ∧ Hid (∀ j, j < k → okAt pcB pcI x.held j = true) ∧ Hid (Below w1.heap.size w1 wr)) (fun iv _ => n5 - (intOf iv).toNat)
 case atStart => exact ⟨0, by omega, rfl, Lib.hid (fun j hj => absurd hj (by omega)), Lib.hid (Below.refl _ _)⟩
 case round =>
  obtain ⟨k, hk, rfl, hall, hb⟩ := hrel
  obtain ⟨wx, hwx⟩ : ∃ x, x = wr := ⟨_, rfl⟩
  rw [← hwx] at hb ⊢
  clear hwx
  have HBx := Lib.hid (below_then HB1.out hb.out)
  by_cases hlt : k < n5
  ·
   obtain ⟨p, g, o, cs, hs, rfl, hat, rfl, _⟩ := H.out.held.at_ stay_pc (Below.refl _ _) hlt
   have HX := Lib.hid hs
   have HA := Lib.hid (hat.kept HBx.out)
   clear hs hat
   by_cases h1 : p.1.length = 32
   rotate_left
   ·
    have f1 : (((strB p.1).size : Int) != 32) = true := by rw [strB_size, bne_iff_ne]; omega
    have HF : Hid (siB x = false) := Lib.hid (by rw [siB, ok_bad HX.out (show pcB p = false by rw [pcB, decide_eq_false h1]; rfl)]; rfl)
    clear h1
    go_wp2_with (first
     | ((with_reducible show OpW 13); refine wpList_loadv _ rfl 39 (.tmp 12) rfl 2 (by kernel_rfl) g (o + k * 2) (pcL p) (by go_simp) HA.out rfl ?_)
     | ((with_reducible show OpW 4); refine wpList_alloc _ rfl 39 rfl pcZ pcZero ?_; intro w3 a1 a2 a3; have HV3 := Lib.hid a1; have HX3 := Lib.hid a2; clear a1 a2 a3)
     | ((with_reducible show OpN); refine wpList_storev _ rfl 39 (.tmp 4) (.tmp 13) rfl 2 (by kernel_rfl) wx.heap.size 0 _ pcZ (pcL p) rfl rfl HV3.out rfl (one_pc p) (by decide) ?_; intro w4 a1 a2 a3; have HV4 : Hid (BL w4 wx.heap.size 39 (pcL p)) := Lib.hid a1; have HX4 : Hid (Below wx.heap.size wx w4) := Lib.hid (((Kp.of_below (S := fun _ => False) HX3.out).after a2 (fun i hi e => by omega)).below (Nat.le_refl _) (fun _ h => h.elim)); clear a1 a2 a3; have r0 := HV4.out.get (j := 0) rfl; have r1 := HV4.out.get (j := 1) rfl)
     | fail)
    go_ret
    exact ⟨ret_bool HF.out.symm, below_thenB HBx.out HBx.out.size HX4.out⟩
   have f1 : (((strB p.1).size : Int) != 32) = false := by rw [strB_size, h1]; rfl
   by_cases h2 : 0 ≤ p.2
   rotate_left
   ·
    have f2 : decide (p.2 < 0) = true := decide_eq_true (by omega)
    have HF : Hid (siB x = false) := Lib.hid (by rw [siB, ok_bad HX.out (show pcB p = false by rw [pcB, decide_eq_true h1, decide_eq_false h2]; rfl)]; rfl)
    clear h1 h2
    go_wp2_with (first
     | ((with_reducible show OpW 13); refine wpList_loadv _ rfl 39 (.tmp 12) rfl 2 (by kernel_rfl) g (o + k * 2) (pcL p) (by go_simp) HA.out rfl ?_)
     | ((with_reducible show OpW 4); refine wpList_alloc _ rfl 39 rfl pcZ pcZero ?_; intro w3 a1 a2 a3; have HV3 := Lib.hid a1; have HX3 := Lib.hid a2; clear a1 a2 a3)
     | ((with_reducible show OpN); refine wpList_storev _ rfl 39 (.tmp 4) (.tmp 13) rfl 2 (by kernel_rfl) wx.heap.size 0 _ pcZ (pcL p) rfl rfl HV3.out rfl (one_pc p) (by decide) ?_; intro w4 a1 a2 a3; have HV4 : Hid (BL w4 wx.heap.size 39 (pcL p)) := Lib.hid a1; have HX4 : Hid (Below wx.heap.size wx w4) := Lib.hid (((Kp.of_below (S := fun _ => False) HX3.out).after a2 (fun i hi e => by omega)).below (Nat.le_refl _) (fun _ h => h.elim)); clear a1 a2 a3; have r0 := HV4.out.get (j := 0) rfl; have r1 := HV4.out.get (j := 1) rfl)
     | fail)
    go_ret
    exact ⟨ret_bool HF.out.symm, below_thenB HBx.out HBx.out.size HX4.out⟩
   have f2 : decide (p.2 < 0) = false := decide_eq_false (by omega)
   by_cases h3 : p.2 < 16
   rotate_left
   ·
    have f3 : decide (16 ≤ p.2) = true := decide_eq_true (by omega)
    have HF : Hid (siB x = false) := Lib.hid (by rw [siB, ok_bad HX.out (show pcB p = false by rw [pcB, decide_eq_true h1, decide_eq_true h2, decide_eq_false h3]; rfl)]; rfl)
    clear h1 h2 h3
    go_wp2_with (first
     | ((with_reducible show OpW 13); refine wpList_loadv _ rfl 39 (.tmp 12) rfl 2 (by kernel_rfl) g (o + k * 2) (pcL p) (by go_simp) HA.out rfl ?_)
     | ((with_reducible show OpW 4); refine wpList_alloc _ rfl 39 rfl pcZ pcZero ?_; intro w3 a1 a2 a3; have HV3 := Lib.hid a1; have HX3 := Lib.hid a2; clear a1 a2 a3)
     | ((with_reducible show OpN); refine wpList_storev _ rfl 39 (.tmp 4) (.tmp 13) rfl 2 (by kernel_rfl) wx.heap.size 0 _ pcZ (pcL p) rfl rfl HV3.out rfl (one_pc p) (by decide) ?_; intro w4 a1 a2 a3; have HV4 : Hid (BL w4 wx.heap.size 39 (pcL p)) := Lib.hid a1; have HX4 : Hid (Below wx.heap.size wx w4) := Lib.hid (((Kp.of_below (S := fun _ => False) HX3.out).after a2 (fun i hi e => by omega)).below (Nat.le_refl _) (fun _ h => h.elim)); clear a1 a2 a3; have r0 := HV4.out.get (j := 0) rfl; have r1 := HV4.out.get (j := 1) rfl)
     | fail)
    go_ret
    exact ⟨ret_bool HF.out.symm, below_thenB HBx.out HBx.out.size HX4.out⟩
   have f3 : decide (16 ≤ p.2) = false := decide_eq_false (by omega)
   have HP : Hid (pcB p = true) := Lib.hid (by rw [pcB, decide_eq_true h1, decide_eq_true h2, decide_eq_true h3]; rfl)
   clear h1 h2 h3
   go_wp2_with (first
    | ((with_reducible show OpW 13); refine wpList_loadv _ rfl 39 (.tmp 12) rfl 2 (by kernel_rfl) g (o + k * 2) (pcL p) (by go_simp) HA.out rfl ?_)
    | ((with_reducible show OpW 4); refine wpList_alloc _ rfl 39 rfl pcZ pcZero ?_; intro w3 a1 a2 a3; have HV3 := Lib.hid a1; have HX3 := Lib.hid a2; clear a1 a2 a3)
    | ((with_reducible show OpN); refine wpList_storev _ rfl 39 (.tmp 4) (.tmp 13) rfl 2 (by kernel_rfl) wx.heap.size 0 _ pcZ (pcL p) rfl rfl HV3.out rfl (one_pc p) (by decide) ?_; intro w4 a1 a2 a3; have HV4 : Hid (BL w4 wx.heap.size 39 (pcL p)) := Lib.hid a1; have HX4 : Hid (Below wx.heap.size wx w4) := Lib.hid (((Kp.of_below (S := fun _ => False) HX3.out).after a2 (fun i hi e => by omega)).below (Nat.le_refl _) (fun _ h => h.elim)); clear a1 a2 a3; have r0 := HV4.out.get (j := 0) rfl; have r1 := HV4.out.get (j := 1) rfl)
    | fail)
   have HY4 := Lib.hid (below_thenB hb.out hb.out.size HX4.out)
   go_loopw [5] (fun iv wr => ∃ j : Nat, j ≤ k ∧ iv = .int .i64 (j : Int) ∧ Hid (((x.held.take j).any fun y => pcI y == pcI p) = false) ∧ Hid (Below w4.heap.size w4 wr)) (fun iv _ => k - (intOf iv).toNat)
   case atStart => exact ⟨0, by omega, rfl, Lib.hid rfl, Lib.hid (Below.refl _ _)⟩
   case round =>
    obtain ⟨j, hj, rfl, hne, hb'⟩ := hrel
    have HY6 := Lib.hid (below_thenB HY4.out HY4.out.size hb'.out)
    have HB6 := Lib.hid (below_then HB1.out HY6.out)
    have q5 := (HS1.out.kept HY6.out).get (j := 5) rfl
    have HV6 := Lib.hid (HV4.out.kept hb'.out)
    by_cases hjk : j < k
    ·
     have hjn : j < n5 := by omega
     obtain ⟨y, g', o', cs', hs', e', hat', rfl, _⟩ := H.out.held.at_ stay_pc (Below.refl _ _) hjn
     cases e'
     have HY := Lib.hid hs'
     have HC := Lib.hid (hat'.kept HB6.out)
     clear hs' hat'
     by_cases he : y = p
     ·
      have er : ∀ w, (Op.equalIn 10000 39 (.agg (pcL y).toArray) (.agg (pcL p).toArray)).run Try.prog w = .ok true w := fun w => by rw [eqIn_pc, decide_eq_true he]
      have HF : Hid (siB x = false) := Lib.hid (by rw [siB, ok_twice HX.out HY.out hjk he]; rfl)
      clear he
      go_wp2_with fail
      refine Text.wp_region_text (fun w' => Below wr.heap.size wr w') [(0, 4), (2, 4), (5, 0), (1, 1), (3, 4), (4, 0), (6, 4)] (by kernel_rfl) (by kernel_rfl) (fun _ _ _ _ _ h => h) ((Below.refl _ _).drew) ?_
      iterate 2 (refine Text.purek rfl rfl (fun K hK => ⟨_, fun w' => by go_simp <;> rfl, ?_⟩); go_simp; refine hK _ ?_; clear hK K)
      refine Text.heldk rfl rfl (fun K hK => ?_)
      refine ⟨_, fun w' hw' => exec_loadv 39 (.tmp 4) rfl 2 (by kernel_rfl) wx.heap.size 0 (pcL p) rfl (BL.all (HV6.out.kept hw')) rfl, ?_⟩
      go_simp
      refine hK _ ?_
      clear hK K
      (refine Text.readk rfl rfl (fun K hK => ⟨_, by go_simp <;> rfl, ?_⟩); go_simp; refine hK _ ?_; clear hK K)
      (refine Text.purek rfl rfl (fun K hK => ⟨_, fun w' => by go_simp <;> rfl, ?_⟩); go_simp; refine hK _ ?_; clear hK K)
      refine Text.heldk rfl rfl (fun K hK => ?_)
      refine ⟨_, fun w' hw' => exec_loadv 39 (.tmp 36) rfl 2 (by kernel_rfl) g (o + j * 2) (pcL y) rfl (HC.out.kept hw') rfl, ?_⟩
      go_simp
      refine hK _ ?_
      clear hK K
      (refine Text.purek rfl rfl (fun K hK => ⟨_, fun w' => by go_simp <;> rfl, ?_⟩); go_simp; refine hK _ ?_; clear hK K)
      refine Text.done ?_
      go_wp2_with fail
      go_ret
      exact ⟨ret_bool HF.out.symm, HB6.out.drew⟩
     ·
      have er : ∀ w, (Op.equalIn 10000 39 (.agg (pcL y).toArray) (.agg (pcL p).toArray)).run Try.prog w = .ok false w := fun w => by rw [eqIn_pc, decide_eq_false he]
      have HF : Hid (((x.held.take (j + 1)).any fun y => pcI y == pcI p) = false) := Lib.hid (any_step HY.out hne.out (by simpa using he))
      clear he
      go_wp2_with fail
      refine Text.wp_region_text (fun w' => Below wr.heap.size wr w') [(0, 4), (2, 4), (5, 0), (1, 1), (3, 4), (4, 0), (6, 4)] (by kernel_rfl) (by kernel_rfl) (fun _ _ _ _ _ h => h) ((Below.refl _ _).drew) ?_
      iterate 2 (refine Text.purek rfl rfl (fun K hK => ⟨_, fun w' => by go_simp <;> rfl, ?_⟩); go_simp; refine hK _ ?_; clear hK K)
      refine Text.heldk rfl rfl (fun K hK => ?_)
      refine ⟨_, fun w' hw' => exec_loadv 39 (.tmp 4) rfl 2 (by kernel_rfl) wx.heap.size 0 (pcL p) rfl (BL.all (HV6.out.kept hw')) rfl, ?_⟩
      go_simp
      refine hK _ ?_
      clear hK K
      (refine Text.readk rfl rfl (fun K hK => ⟨_, by go_simp <;> rfl, ?_⟩); go_simp; refine hK _ ?_; clear hK K)
      (refine Text.purek rfl rfl (fun K hK => ⟨_, fun w' => by go_simp <;> rfl, ?_⟩); go_simp; refine hK _ ?_; clear hK K)
      refine Text.heldk rfl rfl (fun K hK => ?_)
      refine ⟨_, fun w' hw' => exec_loadv 39 (.tmp 36) rfl 2 (by kernel_rfl) g (o + j * 2) (pcL y) rfl (HC.out.kept hw') rfl, ?_⟩
      go_simp
      refine hK _ ?_
      clear hK K
      (refine Text.purek rfl rfl (fun K hK => ⟨_, fun w' => by go_simp <;> rfl, ?_⟩); go_simp; refine hK _ ?_; clear hK K)
      refine Text.done ?_
      go_wp2_with fail
      go_roundw
      case rel => exact ⟨j + 1, by omega, by go_num, HF, Lib.hid hb'.out.drew⟩
      case measure => simp [intOf]; omega
    ·
     obtain rfl : j = k := by omega
     have HF : Hid (∀ i, i < j + 1 → okAt pcB pcI x.held i = true) := Lib.hid (fun i hi => by
      rcases Nat.lt_succ_iff_lt_or_eq.1 hi with h | rfl
      ·
       exact hall.out i h
      ·
       exact ok_hit HX.out HP.out hne.out)
     go_wp2_with fail
     go_roundw
     case rel => exact ⟨j + 1, by omega, by go_num, HF, HY6⟩
     case measure => simp [intOf]; omega
  ·
   obtain rfl : k = n5 := by omega
   have e0 : okB pcB pcI x.held = true := ok_all (by rw [HL.out]; exact hall.out)
   have q0 := (HS1.out.kept hb.out).get (j := 0) rfl
   cases e1 : okB spB spN x.sp with
   | false =>
    go_wp2_with (first
     | (go_at_call 41; refine (stripes_any _ _ _ x.sp _ (H.out.sp.kept stay_sp HBx.out)).mono ?_; rintro e w4 ⟨rfl, b4⟩; rw [e1]; have HB4 := Lib.hid (below_thenB HBx.out HBx.out.size b4); have p1 := ((HS1.out.kept hb.out).kept b4).get (j := 1) rfl; have p2 := ((HS1.out.kept hb.out).kept b4).get (j := 2) rfl; have p3 := ((HS1.out.kept hb.out).kept b4).get (j := 3) rfl; have p4 := ((HS1.out.kept hb.out).kept b4).get (j := 4) rfl; have p6 := ((HS1.out.kept hb.out).kept b4).get (j := 6) rfl; clear b4)
     | (go_at_call 42; (with_reducible show Calls _ _ #[.slice a1 n1 c1] _ _); refine (rsums_any _ _ _ x.need _ (H.out.need.kept stay_str HB4.out)).mono ?_; rintro e w5 ⟨rfl, hw⟩; rw [hw]; clear hw w5; rw [e2])
     | (go_at_call 42; (with_reducible show Calls _ _ #[.slice a2 n2 c2] _ _); refine (rsums_any _ _ _ x.cond _ (H.out.cond.kept stay_str HB4.out)).mono ?_; rintro e w5 ⟨rfl, hw⟩; rw [hw]; clear hw w5; rw [e3])
     | (go_at_call 42; (with_reducible show Calls _ _ #[.slice a3 n3 c3] _ _); refine (rsums_any _ _ _ x.drop _ (H.out.drop.kept stay_str HB4.out)).mono ?_; rintro e w5 ⟨rfl, hw⟩; rw [hw]; clear hw w5; rw [e4])
     | (go_at_call 42; (with_reducible show Calls _ _ #[.slice a4 n4 c4] _ _); refine (rsums_any _ _ _ x.carr _ (H.out.carr.kept stay_str HB4.out)).mono ?_; rintro e w5 ⟨rfl, hw⟩; rw [hw]; clear hw w5; rw [e5]))
    go_ret
    exact ⟨ret_bool (by rw [siB, e0, e1]; rfl), HB4.out⟩
   | true =>
    cases e2 : ascB x.need with
    | false =>
     go_wp2_with (first
      | (go_at_call 41; refine (stripes_any _ _ _ x.sp _ (H.out.sp.kept stay_sp HBx.out)).mono ?_; rintro e w4 ⟨rfl, b4⟩; rw [e1]; have HB4 := Lib.hid (below_thenB HBx.out HBx.out.size b4); have p1 := ((HS1.out.kept hb.out).kept b4).get (j := 1) rfl; have p2 := ((HS1.out.kept hb.out).kept b4).get (j := 2) rfl; have p3 := ((HS1.out.kept hb.out).kept b4).get (j := 3) rfl; have p4 := ((HS1.out.kept hb.out).kept b4).get (j := 4) rfl; have p6 := ((HS1.out.kept hb.out).kept b4).get (j := 6) rfl; clear b4)
      | (go_at_call 42; (with_reducible show Calls _ _ #[.slice a1 n1 c1] _ _); refine (rsums_any _ _ _ x.need _ (H.out.need.kept stay_str HB4.out)).mono ?_; rintro e w5 ⟨rfl, hw⟩; rw [hw]; clear hw w5; rw [e2])
      | (go_at_call 42; (with_reducible show Calls _ _ #[.slice a2 n2 c2] _ _); refine (rsums_any _ _ _ x.cond _ (H.out.cond.kept stay_str HB4.out)).mono ?_; rintro e w5 ⟨rfl, hw⟩; rw [hw]; clear hw w5; rw [e3])
      | (go_at_call 42; (with_reducible show Calls _ _ #[.slice a3 n3 c3] _ _); refine (rsums_any _ _ _ x.drop _ (H.out.drop.kept stay_str HB4.out)).mono ?_; rintro e w5 ⟨rfl, hw⟩; rw [hw]; clear hw w5; rw [e4])
      | (go_at_call 42; (with_reducible show Calls _ _ #[.slice a4 n4 c4] _ _); refine (rsums_any _ _ _ x.carr _ (H.out.carr.kept stay_str HB4.out)).mono ?_; rintro e w5 ⟨rfl, hw⟩; rw [hw]; clear hw w5; rw [e5]))
     go_ret
     exact ⟨ret_bool (by rw [siB, e0, e1, e2]; rfl), HB4.out⟩
    | true =>
     cases e3 : ascB x.cond with
     | false =>
      go_wp2_with (first
       | (go_at_call 41; refine (stripes_any _ _ _ x.sp _ (H.out.sp.kept stay_sp HBx.out)).mono ?_; rintro e w4 ⟨rfl, b4⟩; rw [e1]; have HB4 := Lib.hid (below_thenB HBx.out HBx.out.size b4); have p1 := ((HS1.out.kept hb.out).kept b4).get (j := 1) rfl; have p2 := ((HS1.out.kept hb.out).kept b4).get (j := 2) rfl; have p3 := ((HS1.out.kept hb.out).kept b4).get (j := 3) rfl; have p4 := ((HS1.out.kept hb.out).kept b4).get (j := 4) rfl; have p6 := ((HS1.out.kept hb.out).kept b4).get (j := 6) rfl; clear b4)
       | (go_at_call 42; (with_reducible show Calls _ _ #[.slice a1 n1 c1] _ _); refine (rsums_any _ _ _ x.need _ (H.out.need.kept stay_str HB4.out)).mono ?_; rintro e w5 ⟨rfl, hw⟩; rw [hw]; clear hw w5; rw [e2])
       | (go_at_call 42; (with_reducible show Calls _ _ #[.slice a2 n2 c2] _ _); refine (rsums_any _ _ _ x.cond _ (H.out.cond.kept stay_str HB4.out)).mono ?_; rintro e w5 ⟨rfl, hw⟩; rw [hw]; clear hw w5; rw [e3])
       | (go_at_call 42; (with_reducible show Calls _ _ #[.slice a3 n3 c3] _ _); refine (rsums_any _ _ _ x.drop _ (H.out.drop.kept stay_str HB4.out)).mono ?_; rintro e w5 ⟨rfl, hw⟩; rw [hw]; clear hw w5; rw [e4])
       | (go_at_call 42; (with_reducible show Calls _ _ #[.slice a4 n4 c4] _ _); refine (rsums_any _ _ _ x.carr _ (H.out.carr.kept stay_str HB4.out)).mono ?_; rintro e w5 ⟨rfl, hw⟩; rw [hw]; clear hw w5; rw [e5]))
      go_ret
      exact ⟨ret_bool (by rw [siB, e0, e1, e2, e3]; rfl), HB4.out⟩
     | true =>
      cases e4 : ascB x.drop with
      | false =>
       go_wp2_with (first
        | (go_at_call 41; refine (stripes_any _ _ _ x.sp _ (H.out.sp.kept stay_sp HBx.out)).mono ?_; rintro e w4 ⟨rfl, b4⟩; rw [e1]; have HB4 := Lib.hid (below_thenB HBx.out HBx.out.size b4); have p1 := ((HS1.out.kept hb.out).kept b4).get (j := 1) rfl; have p2 := ((HS1.out.kept hb.out).kept b4).get (j := 2) rfl; have p3 := ((HS1.out.kept hb.out).kept b4).get (j := 3) rfl; have p4 := ((HS1.out.kept hb.out).kept b4).get (j := 4) rfl; have p6 := ((HS1.out.kept hb.out).kept b4).get (j := 6) rfl; clear b4)
        | (go_at_call 42; (with_reducible show Calls _ _ #[.slice a1 n1 c1] _ _); refine (rsums_any _ _ _ x.need _ (H.out.need.kept stay_str HB4.out)).mono ?_; rintro e w5 ⟨rfl, hw⟩; rw [hw]; clear hw w5; rw [e2])
        | (go_at_call 42; (with_reducible show Calls _ _ #[.slice a2 n2 c2] _ _); refine (rsums_any _ _ _ x.cond _ (H.out.cond.kept stay_str HB4.out)).mono ?_; rintro e w5 ⟨rfl, hw⟩; rw [hw]; clear hw w5; rw [e3])
        | (go_at_call 42; (with_reducible show Calls _ _ #[.slice a3 n3 c3] _ _); refine (rsums_any _ _ _ x.drop _ (H.out.drop.kept stay_str HB4.out)).mono ?_; rintro e w5 ⟨rfl, hw⟩; rw [hw]; clear hw w5; rw [e4])
        | (go_at_call 42; (with_reducible show Calls _ _ #[.slice a4 n4 c4] _ _); refine (rsums_any _ _ _ x.carr _ (H.out.carr.kept stay_str HB4.out)).mono ?_; rintro e w5 ⟨rfl, hw⟩; rw [hw]; clear hw w5; rw [e5]))
       go_ret
       exact ⟨ret_bool (by rw [siB, e0, e1, e2, e3, e4]; rfl), HB4.out⟩
      | true =>
       cases e5 : ascB x.carr with
       | false =>
        go_wp2_with (first
         | (go_at_call 41; refine (stripes_any _ _ _ x.sp _ (H.out.sp.kept stay_sp HBx.out)).mono ?_; rintro e w4 ⟨rfl, b4⟩; rw [e1]; have HB4 := Lib.hid (below_thenB HBx.out HBx.out.size b4); have p1 := ((HS1.out.kept hb.out).kept b4).get (j := 1) rfl; have p2 := ((HS1.out.kept hb.out).kept b4).get (j := 2) rfl; have p3 := ((HS1.out.kept hb.out).kept b4).get (j := 3) rfl; have p4 := ((HS1.out.kept hb.out).kept b4).get (j := 4) rfl; have p6 := ((HS1.out.kept hb.out).kept b4).get (j := 6) rfl; clear b4)
         | (go_at_call 42; (with_reducible show Calls _ _ #[.slice a1 n1 c1] _ _); refine (rsums_any _ _ _ x.need _ (H.out.need.kept stay_str HB4.out)).mono ?_; rintro e w5 ⟨rfl, hw⟩; rw [hw]; clear hw w5; rw [e2])
         | (go_at_call 42; (with_reducible show Calls _ _ #[.slice a2 n2 c2] _ _); refine (rsums_any _ _ _ x.cond _ (H.out.cond.kept stay_str HB4.out)).mono ?_; rintro e w5 ⟨rfl, hw⟩; rw [hw]; clear hw w5; rw [e3])
         | (go_at_call 42; (with_reducible show Calls _ _ #[.slice a3 n3 c3] _ _); refine (rsums_any _ _ _ x.drop _ (H.out.drop.kept stay_str HB4.out)).mono ?_; rintro e w5 ⟨rfl, hw⟩; rw [hw]; clear hw w5; rw [e4])
         | (go_at_call 42; (with_reducible show Calls _ _ #[.slice a4 n4 c4] _ _); refine (rsums_any _ _ _ x.carr _ (H.out.carr.kept stay_str HB4.out)).mono ?_; rintro e w5 ⟨rfl, hw⟩; rw [hw]; clear hw w5; rw [e5]))
        go_ret
        exact ⟨ret_bool (by rw [siB, e0, e1, e2, e3, e4, e5]; rfl), HB4.out⟩
       | true =>
        by_cases h6 : 0 ≤ x.pct
        ·
         have e6 : decide (0 ≤ x.pct) = true := decide_eq_true h6
         clear h6
         go_wp2_with (first
          | (go_at_call 41; refine (stripes_any _ _ _ x.sp _ (H.out.sp.kept stay_sp HBx.out)).mono ?_; rintro e w4 ⟨rfl, b4⟩; rw [e1]; have HB4 := Lib.hid (below_thenB HBx.out HBx.out.size b4); have p1 := ((HS1.out.kept hb.out).kept b4).get (j := 1) rfl; have p2 := ((HS1.out.kept hb.out).kept b4).get (j := 2) rfl; have p3 := ((HS1.out.kept hb.out).kept b4).get (j := 3) rfl; have p4 := ((HS1.out.kept hb.out).kept b4).get (j := 4) rfl; have p6 := ((HS1.out.kept hb.out).kept b4).get (j := 6) rfl; clear b4)
          | (go_at_call 42; (with_reducible show Calls _ _ #[.slice a1 n1 c1] _ _); refine (rsums_any _ _ _ x.need _ (H.out.need.kept stay_str HB4.out)).mono ?_; rintro e w5 ⟨rfl, hw⟩; rw [hw]; clear hw w5; rw [e2])
          | (go_at_call 42; (with_reducible show Calls _ _ #[.slice a2 n2 c2] _ _); refine (rsums_any _ _ _ x.cond _ (H.out.cond.kept stay_str HB4.out)).mono ?_; rintro e w5 ⟨rfl, hw⟩; rw [hw]; clear hw w5; rw [e3])
          | (go_at_call 42; (with_reducible show Calls _ _ #[.slice a3 n3 c3] _ _); refine (rsums_any _ _ _ x.drop _ (H.out.drop.kept stay_str HB4.out)).mono ?_; rintro e w5 ⟨rfl, hw⟩; rw [hw]; clear hw w5; rw [e4])
          | (go_at_call 42; (with_reducible show Calls _ _ #[.slice a4 n4 c4] _ _); refine (rsums_any _ _ _ x.carr _ (H.out.carr.kept stay_str HB4.out)).mono ?_; rintro e w5 ⟨rfl, hw⟩; rw [hw]; clear hw w5; rw [e5]))
         go_ret
         exact ⟨ret_bool (by rw [siB, e0, e1, e2, e3, e4, e5, e6]; rfl), HB4.out⟩
        ·
         have e6 : decide (0 ≤ x.pct) = false := decide_eq_false h6
         clear h6
         go_wp2_with (first
          | (go_at_call 41; refine (stripes_any _ _ _ x.sp _ (H.out.sp.kept stay_sp HBx.out)).mono ?_; rintro e w4 ⟨rfl, b4⟩; rw [e1]; have HB4 := Lib.hid (below_thenB HBx.out HBx.out.size b4); have p1 := ((HS1.out.kept hb.out).kept b4).get (j := 1) rfl; have p2 := ((HS1.out.kept hb.out).kept b4).get (j := 2) rfl; have p3 := ((HS1.out.kept hb.out).kept b4).get (j := 3) rfl; have p4 := ((HS1.out.kept hb.out).kept b4).get (j := 4) rfl; have p6 := ((HS1.out.kept hb.out).kept b4).get (j := 6) rfl; clear b4)
          | (go_at_call 42; (with_reducible show Calls _ _ #[.slice a1 n1 c1] _ _); refine (rsums_any _ _ _ x.need _ (H.out.need.kept stay_str HB4.out)).mono ?_; rintro e w5 ⟨rfl, hw⟩; rw [hw]; clear hw w5; rw [e2])
          | (go_at_call 42; (with_reducible show Calls _ _ #[.slice a2 n2 c2] _ _); refine (rsums_any _ _ _ x.cond _ (H.out.cond.kept stay_str HB4.out)).mono ?_; rintro e w5 ⟨rfl, hw⟩; rw [hw]; clear hw w5; rw [e3])
          | (go_at_call 42; (with_reducible show Calls _ _ #[.slice a3 n3 c3] _ _); refine (rsums_any _ _ _ x.drop _ (H.out.drop.kept stay_str HB4.out)).mono ?_; rintro e w5 ⟨rfl, hw⟩; rw [hw]; clear hw w5; rw [e4])
          | (go_at_call 42; (with_reducible show Calls _ _ #[.slice a4 n4 c4] _ _); refine (rsums_any _ _ _ x.carr _ (H.out.carr.kept stay_str HB4.out)).mono ?_; rintro e w5 ⟨rfl, hw⟩; rw [hw]; clear hw w5; rw [e5]))
         go_ret
         exact ⟨ret_bool (by rw [siB, e0, e1, e2, e3, e4, e5, e6]; rfl), HB4.out⟩
end Go.Proofs.Ytboglaokdgnpaaa
