/- Several texts in one: Wc. -/
import Derived.Test.YtboglaokdgnpaaaA29
import Derived.Test.YtboglaokdgnpaaaA25
import Derived.Test.YtboglaokdgnpaaaA7
import Derived.Deep.DeepCutAuto
/- law49: awake. -/
namespace Go.Proofs.Ytboglaokdgnpaaa
open Go Go.RowKit Gf Sha

set_option maxRecDepth 100000 in
set_option maxHeartbeats 4000000 in
theorem awake_any (w : World) : Calls Try.prog 9 #[] w fun e w' => e = .returned (.bool true) ∧ Below w.heap.size w w' := by
 go_enter Try.func9, Try.ntmps9
 go_wp2_with (first
  | (go_at_call 37; (with_reducible show Calls _ _ #[.int .u8 97] _ _); refine (word_at 97 _ wc97 _).mono ?_; rintro e w1 ⟨rfl, b1⟩; have HB1 := Lib.hid b1; clear b1)
  | (go_at_call 37; (with_reducible show Calls _ _ #[.int .u8 98] _ _); refine (word_at 98 _ wc98 _).mono ?_; rintro e w2 ⟨rfl, b1⟩; have HB2 := Lib.hid (below_then HB1.out b1); clear b1)
  | (go_at_call 37; (with_reducible show Calls _ _ #[.int .u8 99] _ _); refine (word_at 99 _ wc99 _).mono ?_; rintro e w3 ⟨rfl, b1⟩; have HB3 := Lib.hid (below_then HB2.out b1); clear b1)
  | ((with_reducible show OpW 21); refine wpList_build _ rfl 73 #[(0, .tmp 20), (2, .const (.int .i64 10))] rfl #[(0, .string (strB (wdC 97))), (2, .int .i64 10)] (by rw [List.map_toArray]; rfl) (.agg (rfL rfA).toArray) (bldRf _ _ _) ?_)
  | ((with_reducible show OpW 23); refine wpList_build _ rfl 73 #[(0, .tmp 22), (2, .const (.int .i64 30))] rfl #[(0, .string (strB (wdC 98))), (2, .int .i64 30)] (by rw [List.map_toArray]; rfl) (.agg (rfL rfBb).toArray) (bldRf _ _ _) ?_)
  | ((with_reducible show OpW 25); refine wpList_build _ rfl 73 #[(0, .tmp 24), (2, .const (.int .i64 5))] rfl #[(0, .string (strB (wdC 99))), (2, .int .i64 5)] (by rw [List.map_toArray]; rfl) (.agg (rfL rfCc).toArray) (bldRf _ _ _) ?_)
  | ((with_reducible show OpW 1); refine wpList_alloc _ rfl 73 rfl rfZ rfZero ?_; intro w4 a1 a2 a3; have HA4 := Lib.hid a1; have HB4 := Lib.hid (below_then HB3.out a2); clear a1 a2 a3)
  | ((with_reducible show OpW 2); refine wpList_alloc _ rfl 73 rfl rfZ rfZero ?_; intro w5 a1 a2 a3; have HBb5 := Lib.hid a1; have HA5 := Lib.hid (HA4.out.kept a2); have HB5 := Lib.hid (below_then HB4.out a2); clear a1 a2 a3)
  | ((with_reducible show OpW 3); refine wpList_alloc _ rfl 73 rfl rfZ rfZero ?_; intro w6 a1 a2 a3; have HC6 := Lib.hid a1; have HA6 := Lib.hid (HA5.out.kept a2); have HBb6 := Lib.hid (HBb5.out.kept a2); have HB6 := Lib.hid (below_then HB5.out a2); have HN6 : Hid (w3.heap.size < w4.heap.size ∧ w4.heap.size < w5.heap.size ∧ w.heap.size ≤ w3.heap.size) := Lib.hid ⟨HA4.out.lt, HBb5.out.lt, HB3.out.size⟩; clear a1 a2 a3)
  | ((with_reducible show OpN); refine wpList_storev _ rfl 73 (.tmp 1) (.tmp 21) rfl 3 (by kernel_rfl) w3.heap.size 0 _ rfZ (rfL rfA) rfl rfl HA6.out rfl (one_rf _) (by decide) ?_; intro w7 a1 a2 a3; have HA7 : Hid (BL w7 w3.heap.size 73 (rfL rfA)) := Lib.hid a1; have HBb7 := Lib.hid (a2.bl HBb6.out (by have := HN6.out; omega)); have HC7 := Lib.hid (a2.bl HC6.out (by have := HN6.out; omega)); have HB7 : Hid (Below w.heap.size w w7) := Lib.hid (((Kp.of_below (S := fun _ => False) HB6.out).after a2 (fun i hi e => by have := HN6.out; omega)).below (Nat.le_refl _) (fun _ h => h.elim)); clear a1 a2 a3)
  | ((with_reducible show OpN); refine wpList_storev _ rfl 73 (.tmp 2) (.tmp 23) rfl 3 (by kernel_rfl) w4.heap.size 0 _ rfZ (rfL rfBb) rfl rfl HBb7.out rfl (one_rf _) (by decide) ?_; intro w8 a1 a2 a3; have HBb8 : Hid (BL w8 w4.heap.size 73 (rfL rfBb)) := Lib.hid a1; have HA8 := Lib.hid (a2.bl HA7.out (by have := HN6.out; omega)); have HC8 := Lib.hid (a2.bl HC7.out (by have := HN6.out; omega)); have HB8 : Hid (Below w.heap.size w w8) := Lib.hid (((Kp.of_below (S := fun _ => False) HB7.out).after a2 (fun i hi e => by have := HN6.out; omega)).below (Nat.le_refl _) (fun _ h => h.elim)); clear a1 a2 a3)
  | ((with_reducible show OpN); refine wpList_storev _ rfl 73 (.tmp 3) (.tmp 25) rfl 3 (by kernel_rfl) w5.heap.size 0 _ rfZ (rfL rfCc) rfl rfl HC8.out rfl (one_rf _) (by decide) ?_; intro w9 a1 a2 a3; have HC9 : Hid (BL w9 w5.heap.size 73 (rfL rfCc)) := Lib.hid a1; have HA9 := Lib.hid (a2.bl HA8.out (by have := HN6.out; omega)); have HBb9 := Lib.hid (a2.bl HBb8.out (by have := HN6.out; omega)); have HB9 : Hid (Below w.heap.size w w9) := Lib.hid (((Kp.of_below (S := fun _ => False) HB8.out).after a2 (fun i hi e => by have := HN6.out; omega)).below (Nat.le_refl _) (fun _ h => h.elim)); clear a1 a2 a3))
 clear HA4 HA5 HA6 HA7 HA8 HBb5 HBb6 HBb7 HBb8 HC6 HC7 HC8 HB1 HB2 HB3 HB4 HB5 HB6 HB7 HB8
 obtain ⟨gA, hgA⟩ : ∃ g, g = w3.heap.size := ⟨_, rfl⟩
 obtain ⟨gB, hgB⟩ : ∃ g, g = w4.heap.size := ⟨_, rfl⟩
 obtain ⟨gC, hgC⟩ : ∃ g, g = w5.heap.size := ⟨_, rfl⟩
 rw [← hgA, ← hgB, ← hgC]
 rw [← hgA] at HA9
 rw [← hgB] at HBb9
 rw [← hgC] at HC9
 clear hgA hgB hgC HN6
 refine Text.wp_region_bag (fun _ => True) [0, 1, 2, 3, 4, 5] [(6, 2)] (Text.spec [fun _ v => v = .string (strB (wdC 83)), fun _ v => v = .agg (rfL rfA).toArray, fun _ v => v = .agg (rfL rfBb).toArray, slR w9.heap.size 73 (rfL rfA ++ rfL rfBb) 2, spR w9.heap.size 83 (rfL rfA ++ rfL rfBb) 2, ptR w9.heap.size 61 spZ]) Text.mapOf (by kernel_rfl) (by kernel_rfl) rfl (by rfl) (fun _ _ _ _ _ h => h) (Text.spec_stay ?_) ?_ ?_
 ·
  intro R hR
  simp only [List.mem_cons, List.not_mem_nil, or_false] at hR
  rcases hR with rfl | rfl | rfl | rfl | rfl | rfl <;> first | exact Text.stayS_const _ | exact stay_slR _ _ _ _ | exact stay_spR _ _ _ _ | exact stay_ptR _ _ _
 ·
  intro i hi
  simp only [List.mem_cons, List.not_mem_nil, or_false] at hi
  rcases hi with rfl | rfl | rfl | rfl | rfl | rfl
  ·
   intro o ho vs a' w' hb hold hp K hK
   cases ho
   refine Text.bag_call (exec_callW rfl (v := .int .u8 83) rfl) (R := fun v w'' => v = .string (strB (wdC 83)) ∧ Below w'.heap.size w' w'') ((word_at 83 _ wc83 w').mono ?_) ?_
   ·
    rintro e w'' ⟨rfl, b⟩; exact ⟨_, rfl, rfl, b⟩
   ·
    rintro v w'' ⟨rfl, b⟩; exact hK _ _ b rfl (fun b h => by cases h)
  ·
   intro o ho vs a' w' hb hold hp K hK
   cases ho
   exact Text.bag_run (exec_loadv 73 (.tmp 1) rfl 3 (by kernel_rfl) gA 0 (rfL rfA) (hold 1 rfl) (BL.all (HA9.out.kept (below_then (Below.refl _ _).drew hb))) rfl) (hK _ _ (Below.refl _ _) rfl (fun b h => by cases h))
  ·
   intro o ho vs a' w' hb hold hp K hK
   cases ho
   exact Text.bag_run (exec_loadv 73 (.tmp 2) rfl 3 (by kernel_rfl) gB 0 (rfL rfBb) (hold 2 rfl) (BL.all (HBb9.out.kept (below_then (Below.refl _ _).drew hb))) rfl) (hK _ _ (Below.refl _ _) rfl (fun b h => by cases h))
  ·
   intro o ho vs a' w' hb hold hp K hK
   cases ho
   have h1 : a'.eval (.tmp 27) = .agg (rfL rfA).toArray := ((hp 1 rfl).1 27 rfl).trans (show vs 1 = _ from (hp 1 rfl).2)
   have h2 : a'.eval (.tmp 28) = .agg (rfL rfBb).toArray := ((hp 2 rfl).1 28 rfl).trans (show vs 2 = _ from (hp 2 rfl).2)
   exact Text.bag_run (exec_bsl (ps := #[(0, .agg (rfL rfA).toArray), (1, .agg (rfL rfBb).toArray)]) rfl (by rw [List.map_toArray]; simp only [List.map_cons, List.map_nil]; rw [h1, h2]) (bslRf2 rfA rfBb w')) (hK _ _ ((Below.refl _ _).alloc (Nat.le_refl _) _) ⟨_, rfl, hb.size, BL.new _ _ _⟩ (fun b h => by cases h))
  ·
   intro o ho vs a' w' hb hold hp K hK
   cases ho
   have h0 : a'.eval (.tmp 26) = .string (strB (wdC 83)) := ((hp 0 rfl).1 26 rfl).trans (show vs 0 = _ from (hp 0 rfl).2)
   obtain ⟨g, e2, hg, hbl⟩ := (show slR w9.heap.size 73 (rfL rfA ++ rfL rfBb) 2 w' (vs 3) from (hp 3 rfl).2)
   have h2 : a'.eval (.tmp 29) = .slice (some ⟨g, 0, none⟩) 2 2 := ((hp 3 rfl).1 29 rfl).trans e2
   exact Text.bag_run (exec_build (ps := #[(0, .string (strB (wdC 83))), (2, .int .i64 64), (3, .int .i64 2), (4, .int .i64 3), (5, .slice (some ⟨g, 0, none⟩) 2 2)]) rfl (by rw [List.map_toArray]; simp only [List.map_cons, List.map_nil]; rw [h0, h2]; rfl) (bldSp _ _ _ _ w')) (hK _ _ (Below.refl _ _) ⟨g, rfl, hg, hbl⟩ (fun b h => by cases h))
  ·
   intro o ho vs a' w' hb hold hp K hK
   cases ho
   exact Text.bag_run (exec_alloc rfl spZero) (hK _ _ ((Below.refl _ _).alloc (Nat.le_refl _) _) ⟨_, rfl, hb.size, BL.new _ _ _⟩ (fun b h => by cases h))
 intro vs wq hb hr hd
 refine ⟨fun _ => trivial, ?_⟩
 have e0 : vs 0 = .string (strB (wdC 83)) := hr 0 (by decide)
 have e1 : vs 1 = .agg (rfL rfA).toArray := hr 1 (by decide)
 have e1' : vs 2 = .agg (rfL rfBb).toArray := hr 2 (by decide)
 obtain ⟨g2, e2, _, _⟩ := (show slR _ _ _ _ _ (vs 3) from hr 3 (by decide))
 obtain ⟨g3, e3, l3, b3⟩ := (show spR _ _ _ _ _ (vs 4) from hr 4 (by decide))
 obtain ⟨g4, e4, l4, b4⟩ := (show ptR _ _ _ _ (vs 5) from hr 5 (by decide))
 simp only [Text.putAll, Text.dstOf, e0, e1, e1', e2, e3, e4]
 clear e0 e1 e1' e2 e3 e4 hr hd
 have HG3 := Lib.hid b3
 have HG4 := Lib.hid b4
 have HL4 := Lib.hid l4
 have HX4 := Lib.hid hb
 clear b3 b4 l3 l4 hb
 go_simp
 refine Text.eff rfl rfl (fun K hK => ?_)
 refine wp_storev 61 (.tmp 4) (.tmp 30) rfl 6 (by kernel_rfl) g4 0 _ spZ (stpC 83 g3 2) rfl rfl HG4.out rfl (one_val _ rfl) (by decide) ?_
 intro w10 b1 b2 b3
 have HVw10 : Hid (BL w10 g4 61 (stpC 83 g3 2)) := Lib.hid b1
 have HRw10 := Lib.hid (b2.bl HG3.out (fun e => by subst e; exact absurd (HG3.out.ty HG4.out) (by decide)))
 have HXw10 : Hid (Below w9.heap.size w9 w10) := Lib.hid (((Kp.of_below (S := fun _ => False) HX4.out).after b2 (fun i hi e => by have := HL4.out; omega)).below (Nat.le_refl _) (fun _ h => h.elim))
 clear b1 b2 b3 HG3 HG4 HL4 HX4
 refine hK _ _ trivial ?_
 clear hK K
 refine Text.done ?_
 have HA10 := Lib.hid (HA9.out.kept HXw10.out)
 have HC10 := Lib.hid (HC9.out.kept HXw10.out)
 have HB10 := Lib.hid (below_thenB HB9.out HB9.out.size HXw10.out)
 obtain ⟨gS, hgS⟩ : ∃ g, g = g4 := ⟨_, rfl⟩
 obtain ⟨gSr, hgSr⟩ : ∃ g, g = g3 := ⟨_, rfl⟩
 rw [← hgS, ← hgSr] at HVw10 ⊢
 rw [← hgSr] at HRw10
 clear hgS hgSr HA9 HBb9 HC9 HB9 HXw10 vs
 go_wp2_with fail
 refine Text.wp_region_bag (fun _ => True) [0, 1, 2, 3, 4] [(5, 2)] (Text.spec [fun _ v => v = .string (strB (wdC 84)), fun _ v => v = .agg (rfL rfCc).toArray, slR w10.heap.size 73 (rfL rfCc) 1, spR w10.heap.size 84 (rfL rfCc) 1, ptR w10.heap.size 61 spZ]) Text.mapOf (by kernel_rfl) (by kernel_rfl) rfl (by rfl) (fun _ _ _ _ _ h => h) (Text.spec_stay ?_) ?_ ?_
 ·
  intro R hR
  simp only [List.mem_cons, List.not_mem_nil, or_false] at hR
  rcases hR with rfl | rfl | rfl | rfl | rfl <;> first | exact Text.stayS_const _ | exact stay_slR _ _ _ _ | exact stay_spR _ _ _ _ | exact stay_ptR _ _ _
 ·
  intro i hi
  simp only [List.mem_cons, List.not_mem_nil, or_false] at hi
  rcases hi with rfl | rfl | rfl | rfl | rfl
  ·
   intro o ho vs a' w' hb hold hp K hK
   cases ho
   refine Text.bag_call (exec_callW rfl (v := .int .u8 84) rfl) (R := fun v w'' => v = .string (strB (wdC 84)) ∧ Below w'.heap.size w' w'') ((word_at 84 _ wc84 w').mono ?_) ?_
   ·
    rintro e w'' ⟨rfl, b⟩; exact ⟨_, rfl, rfl, b⟩
   ·
    rintro v w'' ⟨rfl, b⟩; exact hK _ _ b rfl (fun b h => by cases h)
  ·
   intro o ho vs a' w' hb hold hp K hK
   cases ho
   exact Text.bag_run (exec_loadv 73 (.tmp 3) rfl 3 (by kernel_rfl) gC 0 (rfL rfCc) (hold 3 rfl) (BL.all (HC10.out.kept (below_then (Below.refl _ _).drew hb))) rfl) (hK _ _ (Below.refl _ _) rfl (fun b h => by cases h))
  ·
   intro o ho vs a' w' hb hold hp K hK
   cases ho
   have h1 : a'.eval (.tmp 32) = .agg (rfL rfCc).toArray := ((hp 1 rfl).1 32 rfl).trans (show vs 1 = _ from (hp 1 rfl).2)
   exact Text.bag_run (exec_bsl (ps := #[(0, .agg (rfL rfCc).toArray)]) rfl (by rw [List.map_toArray]; simp only [List.map_cons, List.map_nil]; rw [h1]) (bslRf rfCc w')) (hK _ _ ((Below.refl _ _).alloc (Nat.le_refl _) _) ⟨_, rfl, hb.size, BL.new _ _ _⟩ (fun b h => by cases h))
  ·
   intro o ho vs a' w' hb hold hp K hK
   cases ho
   have h0 : a'.eval (.tmp 31) = .string (strB (wdC 84)) := ((hp 0 rfl).1 31 rfl).trans (show vs 0 = _ from (hp 0 rfl).2)
   obtain ⟨g, e2, hg, hbl⟩ := (show slR w10.heap.size 73 (rfL rfCc) 1 w' (vs 2) from (hp 2 rfl).2)
   have h2 : a'.eval (.tmp 33) = .slice (some ⟨g, 0, none⟩) 1 1 := ((hp 2 rfl).1 33 rfl).trans e2
   exact Text.bag_run (exec_build (ps := #[(0, .string (strB (wdC 84))), (2, .int .i64 64), (3, .int .i64 2), (4, .int .i64 3), (5, .slice (some ⟨g, 0, none⟩) 1 1)]) rfl (by rw [List.map_toArray]; simp only [List.map_cons, List.map_nil]; rw [h0, h2]; rfl) (bldSp _ _ _ _ w')) (hK _ _ (Below.refl _ _) ⟨g, rfl, hg, hbl⟩ (fun b h => by cases h))
  ·
   intro o ho vs a' w' hb hold hp K hK
   cases ho
   exact Text.bag_run (exec_alloc rfl spZero) (hK _ _ ((Below.refl _ _).alloc (Nat.le_refl _) _) ⟨_, rfl, hb.size, BL.new _ _ _⟩ (fun b h => by cases h))
 intro vs wq hb hr hd
 refine ⟨fun _ => trivial, ?_⟩
 have e0 : vs 0 = .string (strB (wdC 84)) := hr 0 (by decide)
 have e1 : vs 1 = .agg (rfL rfCc).toArray := hr 1 (by decide)
 obtain ⟨g2, e2, _, _⟩ := (show slR _ _ _ _ _ (vs 2) from hr 2 (by decide))
 obtain ⟨g3, e3, l3, b3⟩ := (show spR _ _ _ _ _ (vs 3) from hr 3 (by decide))
 obtain ⟨g4, e4, l4, b4⟩ := (show ptR _ _ _ _ (vs 4) from hr 4 (by decide))
 simp only [Text.putAll, Text.dstOf, e0, e1, e2, e3, e4]
 clear e0 e1 e2 e3 e4 hr hd
 have HG3 := Lib.hid b3
 have HG4 := Lib.hid b4
 have HL4 := Lib.hid l4
 have HX4 := Lib.hid hb
 clear b3 b4 l3 l4 hb
 go_simp
 refine Text.eff rfl rfl (fun K hK => ?_)
 refine wp_storev 61 (.tmp 5) (.tmp 34) rfl 6 (by kernel_rfl) g4 0 _ spZ (stpC 84 g3 1) rfl rfl HG4.out rfl (one_val _ rfl) (by decide) ?_
 intro w11 b1 b2 b3
 have HVw11 : Hid (BL w11 g4 61 (stpC 84 g3 1)) := Lib.hid b1
 have HRw11 := Lib.hid (b2.bl HG3.out (fun e => by subst e; exact absurd (HG3.out.ty HG4.out) (by decide)))
 have HXw11 : Hid (Below w10.heap.size w10 w11) := Lib.hid (((Kp.of_below (S := fun _ => False) HX4.out).after b2 (fun i hi e => by have := HL4.out; omega)).below (Nat.le_refl _) (fun _ h => h.elim))
 clear b1 b2 b3 HG3 HG4 HL4 HX4
 refine hK _ _ trivial ?_
 clear hK K
 refine Text.done ?_
 have HA11 := Lib.hid (HA10.out.kept HXw11.out)
 have HVS11 := Lib.hid (HVw10.out.kept HXw11.out)
 have HRS11 := Lib.hid (HRw10.out.kept HXw11.out)
 have HB11 := Lib.hid (below_thenB HB10.out HB10.out.size HXw11.out)
 obtain ⟨gT, hgT⟩ : ∃ g, g = g4 := ⟨_, rfl⟩
 obtain ⟨gTr, hgTr⟩ : ∃ g, g = g3 := ⟨_, rfl⟩
 rw [← hgT, ← hgTr] at HVw11 ⊢
 rw [← hgTr] at HRw11
 clear hgT hgTr HA10 HC10 HB10 HXw11 HVw10 HRw10 vs
 go_wp2_with fail
 refine Text.wp_region_bag (fun _ => True) [0, 1, 2, 3, 4] [(5, 2)] (Text.spec [fun _ v => v = .string (strB (wdC 85)), fun _ v => v = .agg (rfL rfA).toArray, slR w11.heap.size 73 (rfL rfA) 1, spR w11.heap.size 85 (rfL rfA) 1, ptR w11.heap.size 61 spZ]) Text.mapOf (by kernel_rfl) (by kernel_rfl) rfl (by rfl) (fun _ _ _ _ _ h => h) (Text.spec_stay ?_) ?_ ?_
 ·
  intro R hR
  simp only [List.mem_cons, List.not_mem_nil, or_false] at hR
  rcases hR with rfl | rfl | rfl | rfl | rfl <;> first | exact Text.stayS_const _ | exact stay_slR _ _ _ _ | exact stay_spR _ _ _ _ | exact stay_ptR _ _ _
 ·
  intro i hi
  simp only [List.mem_cons, List.not_mem_nil, or_false] at hi
  rcases hi with rfl | rfl | rfl | rfl | rfl
  ·
   intro o ho vs a' w' hb hold hp K hK
   cases ho
   refine Text.bag_call (exec_callW rfl (v := .int .u8 85) rfl) (R := fun v w'' => v = .string (strB (wdC 85)) ∧ Below w'.heap.size w' w'') ((word_at 85 _ wc85 w').mono ?_) ?_
   ·
    rintro e w'' ⟨rfl, b⟩; exact ⟨_, rfl, rfl, b⟩
   ·
    rintro v w'' ⟨rfl, b⟩; exact hK _ _ b rfl (fun b h => by cases h)
  ·
   intro o ho vs a' w' hb hold hp K hK
   cases ho
   exact Text.bag_run (exec_loadv 73 (.tmp 1) rfl 3 (by kernel_rfl) gA 0 (rfL rfA) (hold 1 rfl) (BL.all (HA11.out.kept (below_then (Below.refl _ _).drew hb))) rfl) (hK _ _ (Below.refl _ _) rfl (fun b h => by cases h))
  ·
   intro o ho vs a' w' hb hold hp K hK
   cases ho
   have h1 : a'.eval (.tmp 36) = .agg (rfL rfA).toArray := ((hp 1 rfl).1 36 rfl).trans (show vs 1 = _ from (hp 1 rfl).2)
   exact Text.bag_run (exec_bsl (ps := #[(0, .agg (rfL rfA).toArray)]) rfl (by rw [List.map_toArray]; simp only [List.map_cons, List.map_nil]; rw [h1]) (bslRf rfA w')) (hK _ _ ((Below.refl _ _).alloc (Nat.le_refl _) _) ⟨_, rfl, hb.size, BL.new _ _ _⟩ (fun b h => by cases h))
  ·
   intro o ho vs a' w' hb hold hp K hK
   cases ho
   have h0 : a'.eval (.tmp 35) = .string (strB (wdC 85)) := ((hp 0 rfl).1 35 rfl).trans (show vs 0 = _ from (hp 0 rfl).2)
   obtain ⟨g, e2, hg, hbl⟩ := (show slR w11.heap.size 73 (rfL rfA) 1 w' (vs 2) from (hp 2 rfl).2)
   have h2 : a'.eval (.tmp 37) = .slice (some ⟨g, 0, none⟩) 1 1 := ((hp 2 rfl).1 37 rfl).trans e2
   exact Text.bag_run (exec_build (ps := #[(0, .string (strB (wdC 85))), (2, .int .i64 64), (3, .int .i64 2), (4, .int .i64 3), (5, .slice (some ⟨g, 0, none⟩) 1 1)]) rfl (by rw [List.map_toArray]; simp only [List.map_cons, List.map_nil]; rw [h0, h2]; rfl) (bldSp _ _ _ _ w')) (hK _ _ (Below.refl _ _) ⟨g, rfl, hg, hbl⟩ (fun b h => by cases h))
  ·
   intro o ho vs a' w' hb hold hp K hK
   cases ho
   exact Text.bag_run (exec_alloc rfl spZero) (hK _ _ ((Below.refl _ _).alloc (Nat.le_refl _) _) ⟨_, rfl, hb.size, BL.new _ _ _⟩ (fun b h => by cases h))
 intro vs wq hb hr hd
 refine ⟨fun _ => trivial, ?_⟩
 have e0 : vs 0 = .string (strB (wdC 85)) := hr 0 (by decide)
 have e1 : vs 1 = .agg (rfL rfA).toArray := hr 1 (by decide)
 obtain ⟨g2, e2, _, _⟩ := (show slR _ _ _ _ _ (vs 2) from hr 2 (by decide))
 obtain ⟨g3, e3, l3, b3⟩ := (show spR _ _ _ _ _ (vs 3) from hr 3 (by decide))
 obtain ⟨g4, e4, l4, b4⟩ := (show ptR _ _ _ _ (vs 4) from hr 4 (by decide))
 simp only [Text.putAll, Text.dstOf, e0, e1, e2, e3, e4]
 clear e0 e1 e2 e3 e4 hr hd
 have HG3 := Lib.hid b3
 have HG4 := Lib.hid b4
 have HL4 := Lib.hid l4
 have HX4 := Lib.hid hb
 clear b3 b4 l3 l4 hb
 go_simp
 refine Text.eff rfl rfl (fun K hK => ?_)
 refine wp_storev 61 (.tmp 6) (.tmp 38) rfl 6 (by kernel_rfl) g4 0 _ spZ (stpC 85 g3 1) rfl rfl HG4.out rfl (one_val _ rfl) (by decide) ?_
 intro w12 b1 b2 b3
 have HVw12 : Hid (BL w12 g4 61 (stpC 85 g3 1)) := Lib.hid b1
 have HRw12 := Lib.hid (b2.bl HG3.out (fun e => by subst e; exact absurd (HG3.out.ty HG4.out) (by decide)))
 have HXw12 : Hid (Below w11.heap.size w11 w12) := Lib.hid (((Kp.of_below (S := fun _ => False) HX4.out).after b2 (fun i hi e => by have := HL4.out; omega)).below (Nat.le_refl _) (fun _ h => h.elim))
 clear b1 b2 b3 HG3 HG4 HL4 HX4
 refine hK _ _ trivial ?_
 clear hK K
 refine Text.done ?_
 have HA12 := Lib.hid (HA11.out.kept HXw12.out)
 have HVS12 := Lib.hid (HVS11.out.kept HXw12.out)
 have HRS12 := Lib.hid (HRS11.out.kept HXw12.out)
 have HVT12 := Lib.hid (HVw11.out.kept HXw12.out)
 have HRT12 := Lib.hid (HRw11.out.kept HXw12.out)
 have HB12 := Lib.hid (below_thenB HB11.out HB11.out.size HXw12.out)
 obtain ⟨gU, hgU⟩ : ∃ g, g = g4 := ⟨_, rfl⟩
 obtain ⟨gUr, hgUr⟩ : ∃ g, g = g3 := ⟨_, rfl⟩
 rw [← hgU, ← hgUr] at HVw12 ⊢
 rw [← hgUr] at HRw12
 clear hgU hgUr HA11 HVS11 HRS11 HB11 HXw12 HVw11 HRw11 vs
 go_wp2_with fail
 refine Text.wp_region_bag (fun _ => True) [0, 1, 2, 3, 4, 5, 6, 7] [(8, 2)] (Text.spec [fun _ v => v = .agg (stpC 83 gSr 2).toArray, fun _ v => v = .agg (stpC 84 gTr 1).toArray, slR w12.heap.size 61 (stpC 83 gSr 2 ++ stpC 84 gTr 1) 2, fun _ v => v = .string (strB (wdC 97)), fun _ v => v = .string (strB (wdC 99)), slR w12.heap.size 9 [.string (strB (wdC 97)), .string (strB (wdC 99))] 2, siR w12.heap.size (stpC 83 gSr 2 ++ stpC 84 gTr 1) [.string (strB (wdC 97)), .string (strB (wdC 99))], ptR w12.heap.size 33 siZ]) Text.mapOf (by kernel_rfl) (by kernel_rfl) rfl (by rfl) (fun _ _ _ _ _ h => h) (Text.spec_stay ?_) ?_ ?_
 ·
  intro R hR
  simp only [List.mem_cons, List.not_mem_nil, or_false] at hR
  rcases hR with rfl | rfl | rfl | rfl | rfl | rfl | rfl | rfl <;> first | exact Text.stayS_const _ | exact stay_slR _ _ _ _ | exact stay_siR _ _ _ | exact stay_ptR _ _ _
 ·
  intro i hi
  simp only [List.mem_cons, List.not_mem_nil, or_false] at hi
  rcases hi with rfl | rfl | rfl | rfl | rfl | rfl | rfl | rfl
  ·
   intro o ho vs a' w' hb hold hp K hK
   cases ho
   exact Text.bag_run (exec_loadv 61 (.tmp 4) rfl 6 (by kernel_rfl) gS 0 (stpC 83 gSr 2) (hold 4 rfl) (BL.all (HVS12.out.kept (below_then (Below.refl _ _).drew hb))) rfl) (hK _ _ (Below.refl _ _) rfl (fun b h => by cases h))
  ·
   intro o ho vs a' w' hb hold hp K hK
   cases ho
   exact Text.bag_run (exec_loadv 61 (.tmp 5) rfl 6 (by kernel_rfl) gT 0 (stpC 84 gTr 1) (hold 5 rfl) (BL.all (HVT12.out.kept (below_then (Below.refl _ _).drew hb))) rfl) (hK _ _ (Below.refl _ _) rfl (fun b h => by cases h))
  ·
   intro o ho vs a' w' hb hold hp K hK
   cases ho
   have h1 : a'.eval (.tmp 39) = .agg (stpC 83 gSr 2).toArray := ((hp 0 rfl).1 39 rfl).trans (show vs 0 = _ from (hp 0 rfl).2)
   have h2 : a'.eval (.tmp 40) = .agg (stpC 84 gTr 1).toArray := ((hp 1 rfl).1 40 rfl).trans (show vs 1 = _ from (hp 1 rfl).2)
   exact Text.bag_run (exec_bsl (ps := #[(0, .agg (stpC 83 gSr 2).toArray), (1, .agg (stpC 84 gTr 1).toArray)]) rfl (by rw [List.map_toArray]; simp only [List.map_cons, List.map_nil]; rw [h1, h2]) (bslSp2 _ _ _ _ _ _ w')) (hK _ _ ((Below.refl _ _).alloc (Nat.le_refl _) _) ⟨_, rfl, hb.size, BL.new _ _ _⟩ (fun b h => by cases h))
  ·
   intro o ho vs a' w' hb hold hp K hK
   cases ho
   refine Text.bag_call (exec_callW rfl (v := .int .u8 97) rfl) (R := fun v w'' => v = .string (strB (wdC 97)) ∧ Below w'.heap.size w' w'') ((word_at 97 _ wc97 w').mono ?_) ?_
   ·
    rintro e w'' ⟨rfl, b⟩; exact ⟨_, rfl, rfl, b⟩
   ·
    rintro v w'' ⟨rfl, b⟩; exact hK _ _ b rfl (fun b h => by cases h)
  ·
   intro o ho vs a' w' hb hold hp K hK
   cases ho
   refine Text.bag_call (exec_callW rfl (v := .int .u8 99) rfl) (R := fun v w'' => v = .string (strB (wdC 99)) ∧ Below w'.heap.size w' w'') ((word_at 99 _ wc99 w').mono ?_) ?_
   ·
    rintro e w'' ⟨rfl, b⟩; exact ⟨_, rfl, rfl, b⟩
   ·
    rintro v w'' ⟨rfl, b⟩; exact hK _ _ b rfl (fun b h => by cases h)
  ·
   intro o ho vs a' w' hb hold hp K hK
   cases ho
   have h1 : a'.eval (.tmp 42) = .string (strB (wdC 97)) := ((hp 3 rfl).1 42 rfl).trans (show vs 3 = _ from (hp 3 rfl).2)
   have h2 : a'.eval (.tmp 43) = .string (strB (wdC 99)) := ((hp 4 rfl).1 43 rfl).trans (show vs 4 = _ from (hp 4 rfl).2)
   exact Text.bag_run (exec_bsl (ps := #[(0, .string (strB (wdC 97))), (1, .string (strB (wdC 99)))]) rfl (by rw [List.map_toArray]; simp only [List.map_cons, List.map_nil]; rw [h1, h2]) (bslSt2 _ _ w')) (hK _ _ ((Below.refl _ _).alloc (Nat.le_refl _) _) ⟨_, rfl, hb.size, BL.new _ _ _⟩ (fun b h => by cases h))
  ·
   intro o ho vs a' w' hb hold hp K hK
   cases ho
   obtain ⟨ga, e2, hga, hba⟩ := (show slR w12.heap.size 61 (stpC 83 gSr 2 ++ stpC 84 gTr 1) 2 w' (vs 2) from (hp 2 rfl).2)
   obtain ⟨gb, e5, hgb, hbb⟩ := (show slR w12.heap.size 9 [.string (strB (wdC 97)), .string (strB (wdC 99))] 2 w' (vs 5) from (hp 5 rfl).2)
   have h2 : a'.eval (.tmp 41) = .slice (some ⟨ga, 0, none⟩) 2 2 := ((hp 2 rfl).1 41 rfl).trans e2
   have h5 : a'.eval (.tmp 44) = .slice (some ⟨gb, 0, none⟩) 2 2 := ((hp 5 rfl).1 44 rfl).trans e5
   exact Text.bag_run (exec_build (ps := #[(0, .slice (some ⟨ga, 0, none⟩) 2 2), (1, .slice (some ⟨gb, 0, none⟩) 2 2), (6, .int .i64 50)]) rfl (by rw [List.map_toArray]; simp only [List.map_cons, List.map_nil]; rw [h2, h5]; rfl) (bldSi3 _ _ _ _ _ _ w')) (hK _ _ (Below.refl _ _) ⟨ga, gb, rfl, hga, hgb, hba, hbb⟩ (fun b h => by cases h))
  ·
   intro o ho vs a' w' hb hold hp K hK
   cases ho
   exact Text.bag_run (exec_alloc rfl siZero) (hK _ _ ((Below.refl _ _).alloc (Nat.le_refl _) _) ⟨_, rfl, hb.size, BL.new _ _ _⟩ (fun b h => by cases h))
 intro vs wq hb hr hd
 refine ⟨fun _ => trivial, ?_⟩
 have e0 : vs 0 = .agg (stpC 83 gSr 2).toArray := hr 0 (by decide)
 have e1 : vs 1 = .agg (stpC 84 gTr 1).toArray := hr 1 (by decide)
 obtain ⟨g2, e2, _, _⟩ := (show slR _ _ _ _ _ (vs 2) from hr 2 (by decide))
 have e3 : vs 3 = .string (strB (wdC 97)) := hr 3 (by decide)
 have e4 : vs 4 = .string (strB (wdC 99)) := hr 4 (by decide)
 obtain ⟨g5, e5, _, _⟩ := (show slR _ _ _ _ _ (vs 5) from hr 5 (by decide))
 obtain ⟨ga, gb, e6, la, lb, ba, bb⟩ := (show siR _ _ _ _ (vs 6) from hr 6 (by decide))
 obtain ⟨gX, e7, l7, b7⟩ := (show ptR _ _ _ _ (vs 7) from hr 7 (by decide))
 simp only [Text.putAll, Text.dstOf, e0, e1, e2, e3, e4, e5, e6, e7]
 clear e0 e1 e2 e3 e4 e5 e6 e7 hr hd
 have HGa := Lib.hid ba
 have HGb := Lib.hid bb
 have HGX := Lib.hid b7
 have HLX := Lib.hid l7
 have HX4 := Lib.hid hb
 clear ba bb b7 la lb l7 hb
 go_simp
 refine Text.eff rfl rfl (fun K hK => ?_)
 refine wp_storev 33 (.tmp 7) (.tmp 45) rfl 7 (by kernel_rfl) gX 0 _ siZ (siC (some ⟨ga, 0, none⟩) 2 2 (some ⟨gb, 0, none⟩) 2 2 none 0 0 none 0 0 none 0 0 none 0 0 50) rfl rfl HGX.out rfl (one_val _ rfl) (by decide) ?_
 intro w13 b1 b2 b3
 have HV13 : Hid (BL w13 gX 33 (siC (some ⟨ga, 0, none⟩) 2 2 (some ⟨gb, 0, none⟩) 2 2 none 0 0 none 0 0 none 0 0 none 0 0 50)) := Lib.hid b1
 have HGa13 := Lib.hid (b2.bl HGa.out (fun e => by subst e; exact absurd (HGa.out.ty HGX.out) (by decide)))
 have HGb13 := Lib.hid (b2.bl HGb.out (fun e => by subst e; exact absurd (HGb.out.ty HGX.out) (by decide)))
 have HX13 : Hid (Below w12.heap.size w12 w13) := Lib.hid (((Kp.of_below (S := fun _ => False) HX4.out).after b2 (fun i hi e => by have := HLX.out; omega)).below (Nat.le_refl _) (fun _ h => h.elim))
 clear b1 b2 b3 HGa HGb HGX HLX HX4
 refine hK _ _ trivial ?_
 clear hK K
 refine Text.done ?_
 have HB13 := Lib.hid (below_thenB HB12.out HB12.out.size HX13.out)
 have HSI13 := Lib.hid (ex_si (HRS12.out.kept HX13.out) (HRT12.out.kept HX13.out) HGa13.out HGb13.out)
 have HA13 := Lib.hid (HA12.out.kept HX13.out)
 have HVU13 := Lib.hid (HVw12.out.kept HX13.out)
 have HRU13 := Lib.hid (HRw12.out.kept HX13.out)
 clear HA12 HVS12 HRS12 HVT12 HRT12 HVw12 HRw12 HX13 HB12 HGa13 HGb13 vs
 go_wp2_with (first
  | ((with_reducible show OpW 47); refine wpList_loadv _ rfl 33 (.tmp 7) rfl 7 (by kernel_rfl) gX 0 _ rfl (BL.all HV13.out) rfl ?_)
  | (go_at_call 11; refine (plan_ex1 HSI13.out).mono ?_; rintro e w14 ⟨gp, op, cp, Bp, dp, gr, or', dr, rfl, hp1, hp2, hp3, b14⟩; have HX14 := Lib.hid b14; have HP1 := Lib.hid hp1; have HP2 := Lib.hid hp2; have HP3 := Lib.hid hp3; clear hp1 hp2 hp3 b14))
 have HB14 := Lib.hid (below_thenB HB13.out HB13.out.size HX14.out)
 have HSI14 := Lib.hid (HSI13.out.kept HX14.out)
 have HA14 := Lib.hid (HA13.out.kept HX14.out)
 have HV14 := Lib.hid (HV13.out.kept HX14.out)
 have HVU14 := Lib.hid (HVU13.out.kept HX14.out)
 have HRU14 := Lib.hid (HRU13.out.kept HX14.out)
 clear HA13 HV13 HVU13 HRU13 HSI13 HX14 HB13
 have c0 : w14.cell? ⟨gp, op, none⟩ = some (.int .i64 1) := HP1.out.get (j := 0) rfl rfl
 have c4 : w14.cell? ⟨gp, op + 4, none⟩ = some (.slice (some ⟨gr, or', none⟩) 1 dr) := HP1.out.get (j := 4) rfl rfl
 have er : ∀ w, (Op.equalIn 10000 73 (.agg (rfL rfA).toArray) (.agg (rfL rfA).toArray)).run Try.prog w = .ok true w := fun w => by rw [eqIn_rf]; rfl
 refine Text.wp_region_text (fun w' => Below w14.heap.size w14 w') [(0, 4), (1, 4), (2, 4), (3, 4), (4, 4), (5, 4), (6, 4), (7, 4), (8, 4), (9, 4), (10, 4), (11, 1), (12, 4), (13, 4), (14, 4), (15, 4), (16, 4), (17, 4), (18, 1), (19, 4), (20, 4), (21, 4), (22, 4), (23, 4), (24, 4), (25, 4), (29, 0), (26, 1), (27, 4), (28, 0), (30, 4), (31, 4)] (by kernel_rfl) (by kernel_rfl) (fun _ _ _ _ _ h => h) ((Below.refl _ _).drew) ?_
 iterate 11 (refine Text.purek rfl rfl (fun K hK => ⟨_, fun w' => by go_simp <;> rfl, ?_⟩); go_simp; refine hK _ ?_; clear hK K)
 (refine Text.readk rfl rfl (fun K hK => ⟨_, by go_simp <;> rfl, ?_⟩); go_simp; refine hK _ ?_; clear hK K)
 iterate 6 (refine Text.purek rfl rfl (fun K hK => ⟨_, fun w' => by go_simp <;> rfl, ?_⟩); go_simp; refine hK _ ?_; clear hK K)
 (refine Text.readk rfl rfl (fun K hK => ⟨_, by go_simp <;> rfl, ?_⟩); go_simp; refine hK _ ?_; clear hK K)
 iterate 7 (refine Text.purek rfl rfl (fun K hK => ⟨_, fun w' => by go_simp <;> rfl, ?_⟩); go_simp; refine hK _ ?_; clear hK K)
 refine Text.heldk rfl rfl (fun K hK => ?_)
 refine ⟨_, fun w' hw' => exec_loadv 73 (.tmp 1) rfl 3 (by kernel_rfl) gA 0 (rfL rfA) rfl (BL.all (HA14.out.kept hw')) rfl, ?_⟩
 go_simp
 refine hK _ ?_
 clear hK K
 (refine Text.readk rfl rfl (fun K hK => ⟨_, by go_simp <;> rfl, ?_⟩); go_simp; refine hK _ ?_; clear hK K)
 (refine Text.purek rfl rfl (fun K hK => ⟨_, fun w' => by go_simp <;> rfl, ?_⟩); go_simp; refine hK _ ?_; clear hK K)
 refine Text.heldk rfl rfl (fun K hK => ?_)
 refine ⟨_, fun w' hw' => exec_loadv 73 (.tmp 78) rfl 3 (by kernel_rfl) gr or' (rfL rfA) (by go_simp) (HP2.out.kept hw') rfl, ?_⟩
 go_simp
 refine hK _ ?_
 clear hK K
 iterate 2 (refine Text.purek rfl rfl (fun K hK => ⟨_, fun w' => by go_simp <;> rfl, ?_⟩); go_simp; refine hK _ ?_; clear hK K)
 refine Text.done ?_
 go_wp2_with fail
 go_simp
 go_cut [10, 11] (fun s10 s11 wx => ∃ gy : Nat, s10 = .pointer (some ⟨gy, 0, none⟩) ∧ s11 = .int .i64 0 ∧ Hid (∃ b0 k0 d0 b1 k1 d1 b2 k2 d2 b3 k3 d3 b4 k4 d4 b5 k5 d5, BL wx gy 33 (siC b0 k0 d0 b1 k1 d1 b2 k2 d2 b3 k3 d3 b4 k4 d4 b5 k5 d5 50) ∧ SiOk wx b0 k0 d0 b1 k1 d1 b2 k2 d2 b3 k3 d3 b4 k4 d4 b5 k5 d5 exX2) ∧ Hid (Below w14.heap.size w14 wx) ∧ Hid (w14.heap.size ≤ gy))
 case first =>
  refine Text.wp_region_bt (fun w' => Below w14.heap.size w14 w') (.still 0 0 (.still 1 4 (.still 2 4 (.still 3 0 (.still 4 0 (.br 5 (.br 6 (.still 7 4 (.still 8 4 (.still 9 4 (.eff 10 (.eff 11 (.still 12 4 .leaf)))))) 10 (.eff 6 (.still 7 4 (.still 8 4 (.still 9 4 (.eff 11 (.still 12 4 .leaf))))))) 10 (.eff 5 (.eff 6 (.still 7 4 (.still 8 4 (.still 9 4 (.eff 11 (.still 12 4 .leaf))))))))))))) (by kernel_rfl) (by kernel_rfl) (fun _ _ _ _ _ h => h) ((Below.refl _ _).drew.drew) ?_
  refine Text.bheldk rfl rfl (fun K hK => ⟨_, fun w' hw' => exec_loadv 33 (.tmp 7) rfl 7 (by kernel_rfl) gX 0 _ rfl (BL.all (HV14.out.kept hw')) rfl, ?_⟩)
  go_simp
  refine hK _ ?_
  clear hK K
  iterate 2 (refine Text.bpurek rfl rfl (fun K hK => ⟨_, fun w' => by go_simp <;> rfl, ?_⟩); go_simp; refine hK _ ?_; clear hK K)
  refine Text.bheldk rfl rfl (fun K hK => ⟨_, fun w' hw' => exec_loadv 44 (.tmp 86) rfl 5 (by kernel_rfl) gp op _ (by go_simp) (HP1.out.kept hw') rfl, ?_⟩)
  go_simp
  refine hK _ ?_
  clear hK K
  refine Text.bheldk rfl rfl (fun K hK => ⟨_, fun w' hw' => exec_loadv 61 (.tmp 6) rfl 6 (by kernel_rfl) gU 0 _ rfl (BL.all (HVU14.out.kept hw')) rfl, ?_⟩)
  go_simp
  refine hK _ ?_
  clear hK K
  have HD : Hid (Below w14.heap.size w14 w14.drew.drew) := Lib.hid (Below.refl _ _).drew.drew
  refine Text.bfork ?_ ?_
  ·
   refine Text.beff rfl rfl (fun K hK => ?_)
   refine wp_bslice 22 61 1 _ rfl #[(0, .agg (stpC 85 gUr 1).toArray)] (by rw [List.map_toArray]; rfl) (stpC 85 gUr 1) (bslSp1 _ _ _ _) ?_
   intro wa a1 a2 a3
   have HBwa := Lib.hid a2
   have HXwa : Hid (Below w14.heap.size w14 wa) := Lib.hid (below_thenB (HD).out (by have := (HD).out.size; exact this) a2)
   have HGwa := Lib.hid a1
   refine hK _ _ HXwa.out ?_
   clear hK K a1 a2 a3
   refine Text.bfork ?_ ?_
   ·
    refine Text.beff rfl rfl (fun K hK => ?_)
    go_simp
    refine (after_ex (HSI14.out.kept (HXwa).out) (stay_stp _ _ _ _ HP3.out (HXwa).out) (HRU14.out.kept (HXwa).out) (HGwa).out).mono ?_
    rintro e wb ⟨cs, rfl, ⟨b0, k0, d0, b1, k1, d1, b2, k2, d2, b3, k3, d3, b4, k4, d4, b5, k5, d5, rfl, hsi⟩, b9⟩
    have HBwb := Lib.hid b9
    have HXwb : Hid (Below w14.heap.size w14 wb) := Lib.hid (below_thenB (HXwa).out (by have := (HXwa).out.size; exact this) b9)
    refine hK _ _ HXwb.out ?_
    clear hK K b9
    iterate 3 (refine Text.bpurek rfl rfl (fun K hK => ⟨_, fun w' => by go_simp <;> rfl, ?_⟩); go_simp; refine hK _ ?_; clear hK K)
    refine Text.beff rfl rfl (fun K hK => ?_)
    refine wp_alloc 33 rfl siZ siZero ?_
    intro wc a1 a2 a3
    have HBwc := Lib.hid a2
    have HXwc : Hid (Below w14.heap.size w14 wc) := Lib.hid (below_thenB (HXwb).out (by have := (HXwb).out.size; exact this) a2)
    have HGwc := Lib.hid a1
    have HLwc : Hid (w14.heap.size ≤ wb.heap.size) := Lib.hid (by have := (HXwb).out.size; exact this)
    refine hK _ _ HXwc.out ?_
    clear hK K a1 a2 a3
    have hsi9 := hsi.kept HBwc.out
    refine Text.beff rfl rfl (fun K hK => ?_)
    refine wp_storev 33 (.tmp 10) (.tmp 91) rfl 7 (by kernel_rfl) wb.heap.size 0 _ siZ (siC b0 k0 d0 b1 k1 d1 b2 k2 d2 b3 k3 d3 b4 k4 d4 b5 k5 d5 50) rfl rfl HGwc.out rfl (one_si _ _ _ _ _ _ _ _ _ _ _ _ _ _ _ _ _ _ _) (by decide) ?_
    intro wz z1 z2 z3
    have hbz : BL wz wb.heap.size 33 (siC b0 k0 d0 b1 k1 d1 b2 k2 d2 b3 k3 d3 b4 k4 d4 b5 k5 d5 50) := z1
    have hsz := hsi9.put z2 HGwc.out
    have HXz : Hid (Below w14.heap.size w14 wz) := Lib.hid (((Kp.of_below (S := fun _ => False) (HXwc).out).after z2 (fun i hi e => by have := (HLwc).out; omega)).below (Nat.le_refl _) (fun _ h => h.elim))
    refine hK _ _ HXz.out ?_
    clear hK K z1 z2 z3
    (refine Text.bpurek rfl rfl (fun K hK => ⟨_, fun w' => by go_simp <;> rfl, ?_⟩); go_simp; refine hK _ ?_; clear hK K)
    refine Text.bdone ?_
    go_wp2_with fail
    go_meet
    exact ⟨_, rfl, rfl, Lib.hid ⟨b0, k0, d0, b1, k1, d1, b2, k2, d2, b3, k3, d3, b4, k4, d4, b5, k5, d5, hbz, hsz⟩, HXz, HLwc⟩
   ·
    refine Text.beff rfl rfl (fun K hK => ?_)
    refine wp_alloc 33 rfl siZ siZero ?_
    intro wb a1 a2 a3
    have HBwb := Lib.hid a2
    have HXwb : Hid (Below w14.heap.size w14 wb) := Lib.hid (below_thenB (HXwa).out (by have := (HXwa).out.size; exact this) a2)
    have HGwb := Lib.hid a1
    have HLwb : Hid (w14.heap.size ≤ wa.heap.size) := Lib.hid (by have := (HXwa).out.size; exact this)
    refine hK _ _ HXwb.out ?_
    clear hK K a1 a2 a3
    have HG9 := Lib.hid (HGwa.out.kept HBwb.out)
    refine Text.beff rfl rfl (fun K hK => ?_)
    go_simp
    refine (after_ex (HSI14.out.kept (HXwb).out) (stay_stp _ _ _ _ HP3.out (HXwb).out) (HRU14.out.kept (HXwb).out) (HG9).out).mono ?_
    rintro e wc ⟨cs, rfl, ⟨b0, k0, d0, b1, k1, d1, b2, k2, d2, b3, k3, d3, b4, k4, d4, b5, k5, d5, rfl, hsi⟩, b9⟩
    have HBwc := Lib.hid b9
    have HXwc : Hid (Below w14.heap.size w14 wc) := Lib.hid (below_thenB (HXwb).out (by have := (HXwb).out.size; exact this) b9)
    refine hK _ _ HXwc.out ?_
    clear hK K b9
    iterate 3 (refine Text.bpurek rfl rfl (fun K hK => ⟨_, fun w' => by go_simp <;> rfl, ?_⟩); go_simp; refine hK _ ?_; clear hK K)
    have hsi9 := hsi
    refine Text.beff rfl rfl (fun K hK => ?_)
    refine wp_storev 33 (.tmp 10) (.tmp 91) rfl 7 (by kernel_rfl) wa.heap.size 0 _ siZ (siC b0 k0 d0 b1 k1 d1 b2 k2 d2 b3 k3 d3 b4 k4 d4 b5 k5 d5 50) rfl rfl (HGwb.out.kept HBwc.out) rfl (one_si _ _ _ _ _ _ _ _ _ _ _ _ _ _ _ _ _ _ _) (by decide) ?_
    intro wz z1 z2 z3
    have hbz : BL wz wa.heap.size 33 (siC b0 k0 d0 b1 k1 d1 b2 k2 d2 b3 k3 d3 b4 k4 d4 b5 k5 d5 50) := z1
    have hsz := hsi9.put z2 (HGwb.out.kept HBwc.out)
    have HXz : Hid (Below w14.heap.size w14 wz) := Lib.hid (((Kp.of_below (S := fun _ => False) (HXwc).out).after z2 (fun i hi e => by have := (HLwb).out; omega)).below (Nat.le_refl _) (fun _ h => h.elim))
    refine hK _ _ HXz.out ?_
    clear hK K z1 z2 z3
    (refine Text.bpurek rfl rfl (fun K hK => ⟨_, fun w' => by go_simp <;> rfl, ?_⟩); go_simp; refine hK _ ?_; clear hK K)
    refine Text.bdone ?_
    go_wp2_with fail
    go_meet
    exact ⟨_, rfl, rfl, Lib.hid ⟨b0, k0, d0, b1, k1, d1, b2, k2, d2, b3, k3, d3, b4, k4, d4, b5, k5, d5, hbz, hsz⟩, HXz, HLwb⟩
  ·
   refine Text.beff rfl rfl (fun K hK => ?_)
   refine wp_alloc 33 rfl siZ siZero ?_
   intro wa a1 a2 a3
   have HBwa := Lib.hid a2
   have HXwa : Hid (Below w14.heap.size w14 wa) := Lib.hid (below_thenB (HD).out (by have := (HD).out.size; exact this) a2)
   have HGwa := Lib.hid a1
   have HLwa : Hid (w14.heap.size ≤ w14.heap.size) := Lib.hid (by have := (HD).out.size; exact this)
   refine hK _ _ HXwa.out ?_
   clear hK K a1 a2 a3
   refine Text.beff rfl rfl (fun K hK => ?_)
   refine wp_bslice 22 61 1 _ rfl #[(0, .agg (stpC 85 gUr 1).toArray)] (by rw [List.map_toArray]; rfl) (stpC 85 gUr 1) (bslSp1 _ _ _ _) ?_
   intro wb a1 a2 a3
   have HBwb := Lib.hid a2
   have HXwb : Hid (Below w14.heap.size w14 wb) := Lib.hid (below_thenB (HXwa).out (by have := (HXwa).out.size; exact this) a2)
   have HGwb := Lib.hid a1
   refine hK _ _ HXwb.out ?_
   clear hK K a1 a2 a3
   refine Text.beff rfl rfl (fun K hK => ?_)
   go_simp
   refine (after_ex (HSI14.out.kept (HXwb).out) (stay_stp _ _ _ _ HP3.out (HXwb).out) (HRU14.out.kept (HXwb).out) (HGwb).out).mono ?_
   rintro e wc ⟨cs, rfl, ⟨b0, k0, d0, b1, k1, d1, b2, k2, d2, b3, k3, d3, b4, k4, d4, b5, k5, d5, rfl, hsi⟩, b9⟩
   have HBwc := Lib.hid b9
   have HXwc : Hid (Below w14.heap.size w14 wc) := Lib.hid (below_thenB (HXwb).out (by have := (HXwb).out.size; exact this) b9)
   refine hK _ _ HXwc.out ?_
   clear hK K b9
   iterate 3 (refine Text.bpurek rfl rfl (fun K hK => ⟨_, fun w' => by go_simp <;> rfl, ?_⟩); go_simp; refine hK _ ?_; clear hK K)
   have hsi9 := hsi
   refine Text.beff rfl rfl (fun K hK => ?_)
   refine wp_storev 33 (.tmp 10) (.tmp 91) rfl 7 (by kernel_rfl) w14.heap.size 0 _ siZ (siC b0 k0 d0 b1 k1 d1 b2 k2 d2 b3 k3 d3 b4 k4 d4 b5 k5 d5 50) rfl rfl ((HGwa.out.kept HBwb.out).kept HBwc.out) rfl (one_si _ _ _ _ _ _ _ _ _ _ _ _ _ _ _ _ _ _ _) (by decide) ?_
   intro wz z1 z2 z3
   have hbz : BL wz w14.heap.size 33 (siC b0 k0 d0 b1 k1 d1 b2 k2 d2 b3 k3 d3 b4 k4 d4 b5 k5 d5 50) := z1
   have hsz := hsi9.put z2 ((HGwa.out.kept HBwb.out).kept HBwc.out)
   have HXz : Hid (Below w14.heap.size w14 wz) := Lib.hid (((Kp.of_below (S := fun _ => False) (HXwc).out).after z2 (fun i hi e => by have := (HLwa).out; omega)).below (Nat.le_refl _) (fun _ h => h.elim))
   refine hK _ _ HXz.out ?_
   clear hK K z1 z2 z3
   (refine Text.bpurek rfl rfl (fun K hK => ⟨_, fun w' => by go_simp <;> rfl, ?_⟩); go_simp; refine hK _ ?_; clear hK K)
   refine Text.bdone ?_
   go_wp2_with fail
   go_meet
   exact ⟨_, rfl, rfl, Lib.hid ⟨b0, k0, d0, b1, k1, d1, b2, k2, d2, b3, k3, d3, b4, k4, d4, b5, k5, d5, hbz, hsz⟩, HXz, HLwa⟩
 case rest =>
  obtain ⟨gy, rfl, rfl, hyy, hb, hg⟩ := hcut
  obtain ⟨b0, k0, d0, b1, k1, d1, b2, k2, d2, b3, k3, d3, b4, k4, d4, b5, k5, d5, hy1, hy2⟩ := hyy.out
  have HY := Lib.hid hy1
  have HSY := Lib.hid hy2
  have HBc := Lib.hid (below_thenB HB14.out HB14.out.size hb.out)
  have HGY : Hid (w.heap.size ≤ gy) := Lib.hid (Nat.le_trans HB14.out.size hg.out)
  clear hyy hy1 hy2 HP1 HP2 HP3 HSI14 HA14 HV14 HVU14 HRU14 c0 c4 er hb hg
  go_wp2_with (first
   | ((with_reducible show OpW 94); refine wpList_loadv _ rfl 33 (.tmp 10) rfl 7 (by kernel_rfl) gy 0 _ rfl (BL.all HY.out) rfl ?_)
   | (go_at_call 11; (with_reducible show Calls _ _ _ wc _); refine (plan_ex2 HSY.out).mono ?_; rintro e w16 ⟨A2, c2, rfl, b16⟩; have HB16 := Lib.hid (below_thenB HBc.out HBc.out.size b16); have HY16 := Lib.hid (HY.out.kept b16); have HSY16 := Lib.hid (HSY.out.kept b16); clear b16)
   | (go_at_call 37; (with_reducible show Calls _ _ #[.int .u8 85] _ _); refine (word_at 85 _ wc85 _).mono ?_; rintro e w17 ⟨rfl, b17⟩; have HB17 := Lib.hid (below_thenB HB16.out HB16.out.size b17); have HY17 := Lib.hid (HY16.out.kept b17); have HSY17 := Lib.hid (HSY16.out.kept b17); clear b17)
   | ((with_reducible show OpW 99); refine wpList_bslice _ rfl 23 9 1 _ rfl #[(0, .string (strB (wdC 85)))] (by rw [List.map_toArray]; rfl) [.string (strB (wdC 85))] (bslStr _ _) ?_; intro w18 a1 a2 a3; have HG18 := Lib.hid a1; have HB18 := Lib.hid (below_thenB HB17.out HB17.out.size a2); have HY18 := Lib.hid (HY17.out.kept a2); have HSY18 := Lib.hid (HSY17.out.kept a2); clear a1 a2 a3)
   | ((with_reducible show OpN); refine wpList_store1 _ rfl 23 (.tmp 100) (.tmp 99) rfl (strSz _) gy 4 _ _ (.slice (some ⟨w17.heap.size, 0, none⟩) 1 1) rfl rfl HY18.out rfl rfl (by simp) ?_; intro w19 a1 a2 a3; have HY19 : Hid (BL w19 gy 33 (siC b0 k0 d0 b1 k1 d1 b2 k2 d2 b3 k3 d3 (some ⟨w17.heap.size, 0, none⟩) 1 1 b5 k5 d5 50)) := Lib.hid a1; have HSX := Lib.hid (HSY18.out.put a2 HY18.out); have HSY19 : Hid (SiOk w19 b0 k0 d0 b1 k1 d1 b2 k2 d2 b3 k3 d3 (some ⟨w17.heap.size, 0, none⟩) 1 1 b5 k5 d5 exX3) := Lib.hid ⟨HSX.out.sp, HSX.out.need, HSX.out.cond, HSX.out.drop, ls_st (L := [wdC 85]) (a2.bl HG18.out (fun e => by subst e; exact absurd (HG18.out.ty HY18.out) (by decide))) (fun r hr => by rw [List.mem_singleton.1 hr]; exact reach32 _) (by decide), HSX.out.held, rfl⟩; have HB19 : Hid (Below w.heap.size w w19) := Lib.hid (((Kp.of_below (S := fun _ => False) HB18.out).after a2 (fun i hi e => by have := HGY.out; omega)).below (Nat.le_refl _) (fun _ h => h.elim)); clear a1 a2 a3)
   | ((with_reducible show OpW 102); refine wpList_loadv _ rfl 33 (.tmp 10) rfl 7 (by kernel_rfl) gy 0 _ rfl (BL.all HY19.out) rfl ?_)
   | (go_at_call 11; (with_reducible show Calls _ _ _ w19 _); refine (plan_ex3 HSY19.out).mono ?_; rintro e w20 ⟨gq, oq, cq, gs, os, ds, Bq, dq, rfl, hq1, hq2, hq3, b20⟩; have HB20 := Lib.hid (below_thenB HB19.out HB19.out.size b20); have HY20 := Lib.hid (HY19.out.kept b20); have HSY20 := Lib.hid (HSY19.out.kept b20); have HQ1 := Lib.hid hq1; have HQ2 := Lib.hid hq2; have HQ3 := Lib.hid hq3; clear b20 hq1 hq2 hq3)
   | ((with_reducible show OpW 107); refine wpList_loadv _ rfl 33 (.tmp 10) rfl 7 (by kernel_rfl) gy 0 _ rfl (BL.all HY20.out) rfl ?_)
   | (go_at_call 24; refine (safe_ex HSY20.out HQ3.out).mono ?_; rintro e w21 ⟨rfl, b21⟩; have HX21 := Lib.hid b21; have HB21 := Lib.hid (below_thenB HB20.out HB20.out.size b21); clear b21)
   | ((with_reducible show OpW 113); refine wpList_build _ rfl 33 #[(6, .const (.int .i64 101))] rfl #[(6, .int .i64 101)] (by rw [List.map_toArray]; rfl) (.agg (siC none 0 0 none 0 0 none 0 0 none 0 0 none 0 0 none 0 0 101).toArray) (bldSi4 _) ?_)
   | (go_at_call 11; (with_reducible show Calls _ _ _ w21 _); refine (plan_ex4 (w := w21)).mono ?_; rintro e w22 ⟨rfl, b22⟩; have HX22 := Lib.hid (below_thenB HX21.out HX21.out.size b22); have HB22 := Lib.hid (below_thenB HB21.out HB21.out.size b22); clear b22))
  have HQ1' := Lib.hid (HQ1.out.kept HX22.out)
  have HQ2' := Lib.hid (cell_kept HX22.out HQ2.out)
  have c0 : w22.cell? ⟨gq, oq, none⟩ = some (.int .i64 2) := HQ1'.out.get (j := 0) rfl rfl
  have c1 : w22.cell? ⟨gq, oq + 1, none⟩ = some (.slice (some ⟨gs, os, none⟩) 1 ds) := HQ1'.out.get (j := 1) rfl rfl
  have es := strB_eq (wdC 83) (wdC 83)
  rw [decide_eq_true rfl] at es
  refine Text.wp_region_text (fun w' => w'.cell? ⟨gq, oq + 1, none⟩ = some (.slice (some ⟨gs, os, none⟩) 1 ds) ∧ w'.cell? ⟨gs, os, none⟩ = some (.string (strB (wdC 83)))) [(0, 4), (1, 4), (2, 4), (3, 4), (4, 4), (5, 4), (6, 4), (7, 4), (8, 4), (9, 4), (10, 4), (11, 4), (12, 4), (13, 4), (14, 4), (15, 4), (16, 4), (17, 4), (18, 4), (19, 4), (20, 4), (21, 4), (22, 4), (23, 4), (24, 1), (25, 4), (26, 4), (27, 4), (28, 4), (29, 4), (30, 4), (31, 1), (32, 4), (33, 4), (34, 4), (35, 4), (36, 4), (37, 4), (38, 4), (39, 0), (40, 4), (41, 0), (42, 2), (43, 4), (44, 4), (45, 4), (46, 4), (47, 4), (48, 4), (49, 4), (50, 4), (51, 4), (52, 4), (53, 4), (54, 4), (55, 4), (56, 4)] (by kernel_rfl) (by kernel_rfl) (fun _ _ _ _ _ h => h) (⟨c1, HQ2'.out⟩) ?_
  iterate 24 (refine Text.purek rfl rfl (fun K hK => ⟨_, fun w' => by go_simp <;> rfl, ?_⟩); go_simp; refine hK _ ?_; clear hK K)
  (refine Text.readk rfl rfl (fun K hK => ⟨_, by go_simp <;> rfl, ?_⟩); go_simp; refine hK _ ?_; clear hK K)
  iterate 6 (refine Text.purek rfl rfl (fun K hK => ⟨_, fun w' => by go_simp <;> rfl, ?_⟩); go_simp; refine hK _ ?_; clear hK K)
  (refine Text.readk rfl rfl (fun K hK => ⟨_, by go_simp <;> rfl, ?_⟩); go_simp; refine hK _ ?_; clear hK K)
  iterate 7 (refine Text.purek rfl rfl (fun K hK => ⟨_, fun w' => by go_simp <;> rfl, ?_⟩); go_simp; refine hK _ ?_; clear hK K)
  (refine Text.heldk rfl rfl (fun K hK => ⟨_, fun w' hw' => by go_simp <;> rfl, ?_⟩); go_simp; refine hK _ ?_; clear hK K)
  (refine Text.purek rfl rfl (fun K hK => ⟨_, fun w' => by go_simp <;> rfl, ?_⟩); go_simp; refine hK _ ?_; clear hK K)
  (refine Text.heldk rfl rfl (fun K hK => ⟨_, fun w' hw' => by go_simp <;> rfl, ?_⟩); go_simp; refine hK _ ?_; clear hK K)
  refine Text.effw rfl rfl (fun K hK => ?_)
  go_simp
  refine (word_at 83 _ wc83 _).mono ?_
  rintro e w23 ⟨rfl, b23⟩
  have HX23 : Hid (Below w22.heap.size w22 w23) := Lib.hid (below_ofDrew b23)
  refine hK _ _ ⟨cell_kept HX23.out c1, cell_kept HX23.out HQ2'.out⟩ ?_
  clear hK K b23
  iterate 14 (refine Text.purek rfl rfl (fun K hK => ⟨_, fun w' => by go_simp <;> rfl, ?_⟩); go_simp; refine hK _ ?_; clear hK K)
  refine Text.done ?_
  go_wp2_with fail
  go_ret
  exact ⟨rfl, below_thenB HB22.out HB22.out.size HX23.out⟩
end Go.Proofs.Ytboglaokdgnpaaa
