/- kinkeeplaw08.awake returns true. -/
import Derived.Test.YtoeeklkebcgmaaaAwk0
namespace Go.Proofs.Ytoeeklkebcgmaaa
open Go.RowKit Gf

set_option maxRecDepth 100000 in
set_option maxHeartbeats 4000000 in
theorem awake_any (w : World) : Calls Try.prog 13 #[] w fun e w' => e = .returned (.bool true) ∧ Below w.heap.size w w' := by
  go_enter Try.func13, Try.ntmps13
  go_wp2_with fail
  refine (row_ok 2 4 2 w (by omega) (by omega) (by omega) (by omega) (by omega)).mono ?_
  rintro e w1 ⟨v1, rfl, A1, n1, c1, rfl, hr1, hb1⟩
  rw [ex_row] at hr1
  have HR1 := Lib.hid hr1
  have HB1 := Lib.hid hb1
  clear hr1 hb1
  go_wp2_with fail
  refine (encode_ok 2 3 2 2 _ [[1], [2]] 1 _ (by omega) (by omega) (by omega) (by omega) (lit2 rfl rfl rfl) (by omega) (by omega) ex_one rfl).mono ?_
  rintro e w2 ⟨v2, rfl, hv2⟩
  rw [ex_enc] at hv2
  obtain ⟨g2, n2, rfl, hn2, hm2, hb2⟩ := hv2.ms (by unfold lim; decide)
  obtain rfl : n2 = 3 := hn2.symm
  have HM2 := Lib.hid hm2
  have hb2' := below_then (kb2 w1 _ _ _) hb2
  have HR2 := Lib.hid (HR1.out.kept hb2')
  have HB2 := Lib.hid (below_then HB1.out hb2')
  clear hb2 hb2' hm2 hv2 hn2 HR1 HB1
  go_wp2_with fail
  refine (repair_ok 2 3 1 _ _ 2 2 2 [0, 2] [[1], [123]] 1 _ (is_of (z := ints [0, 2]) (blk_at rfl _ _ |>.alloc _ |>.alloc _ |>.alloc _) rfl (by omega)) (lit2 (World.size_alloc _ _) rfl rfl) ex_gv2 (by omega) (by omega) (by omega) (by omega) (fun i hi => match i with | 0 => by decide | 1 => by decide) (by omega) (fun i hi => match i with | 0 => rfl | 1 => rfl) (by omega) ex_reg2).mono ?_
  rintro e w3 ⟨v3, rfl, A3, n3, c3, rfl, hr3, hb3⟩
  rw [ex_rep] at hr3
  have HR3 := Lib.hid hr3
  have hb3' := below_then (kb3 w2 _ _ _ _) hb3
  have HR13 := Lib.hid (HR2.out.kept hb3')
  have HM3 := Lib.hid (HM2.out.kept hb3')
  have HB3 := Lib.hid (below_then HB2.out hb3')
  clear hb3 hb3' hr3 HR2 HM2 HB2
  go_wp2_with fail
  refine (locate_ok 1 3 _ _ 3 3 3 [0, 1, 2] [[7], [7], [9]] 1 _ (is_of (z := ints [0, 1, 2]) (blk_at rfl _ _ |>.alloc _ |>.alloc _ |>.alloc _ |>.alloc _) rfl (by omega)) (lit3 (World.size_alloc _ _) rfl rfl rfl) ex_gv1 (by omega) (by omega) (fun i hi => match i with | 0 => by decide | 1 => by decide | 2 => by decide) (by omega) (by omega) (fun i hi => match i with | 0 => rfl | 1 => rfl | 2 => rfl) (by omega) (by omega) ex_reg1).mono ?_
  rintro e w4 ⟨hb4, hl4⟩
  have hb4' := below_then (kb4 w3 _ _ _ _ _) hb4
  have HR14 := Lib.hid (HR13.out.kept hb4')
  have HR34 := Lib.hid (HR3.out.kept hb4')
  have HM4 := Lib.hid (HM3.out.kept hb4')
  have HB4 := Lib.hid (below_then HB3.out hb4')
  obtain ⟨s, hs, hh, _, v4, rfl, ho4⟩ := hl4.resolve_right (fun hno => absurd (hno.1 4 (by decide)) (by rw [ex_loc4]; decide))
  obtain rfl := ex_loc s hs hh
  rw [ex_locO] at ho4
  obtain ⟨A4, c4, rfl, hi4⟩ := IS.of_own ho4 (by unfold lim; decide)
  have HI4 := Lib.hid hi4
  clear hb4 hb4' hi4 ho4 hs hh hl4 HR13 HR3 HM3 HB3
  go_wp2_with fail
  refine (locate_ok 1 3 _ _ 3 3 3 [0, 1, 2] [[7], [8], [9]] 1 _ (is_of (z := ints [0, 1, 2]) (blk_at rfl _ _ |>.alloc _ |>.alloc _ |>.alloc _ |>.alloc _) rfl (by omega)) (lit3 (World.size_alloc _ _) rfl rfl rfl) ex_gv1' (by omega) (by omega) (fun i hi => match i with | 0 => by decide | 1 => by decide | 2 => by decide) (by omega) (by omega) (fun i hi => match i with | 0 => rfl | 1 => rfl | 2 => rfl) (by omega) (by omega) ex_reg1).mono ?_
  rintro e w5 ⟨hb5, hl5⟩
  have hb5' := below_then (kb4 w4 _ _ _ _ _) hb5
  have HR15 := Lib.hid (HR14.out.kept hb5')
  have HR35 := Lib.hid (HR34.out.kept hb5')
  have HM5 := Lib.hid (HM4.out.kept hb5')
  have HI5 := Lib.hid (HI4.out.kept hb5')
  have HB5 := Lib.hid (below_then HB4.out hb5')
  obtain ⟨_, rfl⟩ := hl5.resolve_left (fun ⟨s, hs, hh, _⟩ => absurd hh (by rw [ex_loc' s hs]; decide))
  clear hb5 hb5' hl5 HR14 HR34 HM4 HI4 HB4
  have cv1 := conv_str HR15.out
  have hs1 : (strB [142, 244]).toList = [142, 244] := strB_list _
  go_wp2_with fail
  have kb6 := kb3 w5 (.cells #[.int .u8 1] 5) (.cells #[.int .u8 2] 5) (.cells #[.int .u8 123] 5) (.cells #[.slice (some ⟨w5.heap.size, 0, none⟩) 1 1, .slice (some ⟨w5.heap.size + 1, 0, none⟩) 1 1, .slice (some ⟨w5.heap.size + 1 + 1, 0, none⟩) 1 1] 22)
  refine (same_any _ _ 3 3 3 3 [[1], [2], [123]] [[1], [2], [123]] _ (HM5.out.kept kb6) (lit3 rfl rfl rfl rfl)).mono ?_
  rintro e w6 ⟨rfl, hb6⟩
  have hb6' := below_then kb6 hb6
  have HR36 := Lib.hid (HR35.out.kept hb6')
  have HI6 := Lib.hid (HI5.out.kept hb6')
  have HB6 := Lib.hid (below_then HB5.out hb6')
  clear hb6 hb6' kb6 cv1 HR15 HR35 HM5 HI5 HB5
  rw [show sameB [[1], [2], [123]] [[1], [2], [123]] = true from by decide]
  have cv3 := conv_str HR36.out
  have hs2 : (strB [2]).toList = [2] := strB_list _
  clear hs1
  go_wp2_with fail
  have kb7 : Below w6.heap.size w6 (w6.alloc (.cells #[.int .i64 2] 3)) := (Below.refl _ _).alloc (Nat.le_refl _) _
  refine (ints_any _ _ 1 c4 1 1 [2] [2] _ (HI6.out.kept kb7) (is_of (z := [2]) (blk_at rfl _ _) rfl (by omega))).mono ?_
  rintro e w7 ⟨rfl, hb7⟩
  have HB7 := Lib.hid (below_then HB6.out (below_then kb7 hb7))
  clear hb7 kb7 cv3 HR36 HI6 HB6
  rw [show intsB [2] [2] = true from by decide]
  go_wp2_with fail
  go_ret
  exact ⟨rfl, HB7.out⟩
end Go.Proofs.Ytoeeklkebcgmaaa
