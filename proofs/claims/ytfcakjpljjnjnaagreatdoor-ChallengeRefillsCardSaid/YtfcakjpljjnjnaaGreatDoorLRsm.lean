/- The law ChallengeRefills: its walk. -/
import Derived.Test.YtfcakjpljjnjnaaGreatDoorBsm
import Derived.Test.YtfcakjpljjnjnaaGreatDoorBjm
namespace Go.Proofs.YtfcakjpljjnjnaaGreatDoor
open Go Go.RowKit Go.Shelf Gf Sha

set_option maxRecDepth 100000 in
set_option maxHeartbeats 8000000 in
theorem refills_walk (x : UInt8) (A : Option Addr) (n c : Nat) (b : List UInt8) (i j : Int) (w : World) (hT : Tabs w) (hb : BS w A n c b) :
  Calls Tryz.prog 4 #[B x, .slice A n c, .int .i64 i, .int .i64 j] w fun e w' => e = .returned (.bool true) ∧ Below w.heap.size w w' := by
 have HT := Lib.hid hT
 have HBS := Lib.hid hb
 have HLEN := Lib.hid hb.1
 clear hT hb
 by_cases h64 : n = 64
 ·
  subst h64
  have d1 : ((64 : Int) != 64) = false := rfl
  have HR3 : Hid (∀ wq : World, Below w.heap.size w wq → ∀ gr gm : Nat, LS rRf 3 32 wq (some ⟨gr, 0, none⟩) 2 2 (R2 x) → MS wq (some ⟨gm, 0, none⟩) 2 2 (mB b) → Calls Tryz.prog 11 #[.int .i64 0, .int .i64 2, .int .i64 4, .slice (some ⟨gr, 0, none⟩) 2 2, .slice (some ⟨gm, 0, none⟩) 2 2] wq (MakR (spR x b) (pcsL (rwB b)) wq)) := Lib.hid (fun wq hq gr gm h1 h2 => make_any 0 2 4 64 (some ⟨gr, 0, none⟩) 2 2 (R2 x) (some ⟨gm, 0, none⟩) 2 (mB b) wq (by decide) (by decide) (by decide) (by decide) (by decide) (by decide) h1 (by decide) (by decide) (R2_ok x) (fun r hr => R2_cls x hr) h2 (mB_rect HLEN.out) (by decide) (by decide) (HT.out.kept hq))
  go_enter Tryz.func4, Tryz.ntmps4
  go_wp2_with (first
   | (go_at_call 5; refine (awake_any w HT.out).mono ?_; rintro e9 w1 ⟨rfl, b1⟩; have HB1 := Lib.hid b1; clear b1))
  go_simp
  refine Text.wp_region_bagA [0, 1, 2, 3, 4, 5, 6, 7, 8, 9, 10, 11, 12, 13, 14, 15, 16, 17, 18] (Text.spec [cV (B x), cV (.string (strB (nameL x 1))), cV (.agg (rfL (nameL x 1, 0, 10)).toArray), cV (B x), cV (.string (strB (nameL x 2))), cV (.agg (rfL (nameL x 2, 0, 20)).toArray), refsV x, cV (.slice A 64 c), zerV, blkV b, mkV x b, mkV x b, spV x b, psV b, cV (.int .i64 0), anyV, anyV, psV b, cV (.int .i64 0)]) 15 16 26 spZ (fun w cs => rSp w cs (spR x b)) (by kernel_rfl) (by kernel_rfl) rfl (by rfl) (Text.spec_stay ?_) (fun _ _ _ h hb => stay_sp _ _ _ _ h hb) ?_ rfl ?_ ?_ ?_ ?_ (by decide) (by decide)
  ·
   intro R hR
   simp only [List.mem_cons, List.not_mem_nil, or_false] at hR
   rcases hR with rfl | rfl | rfl | rfl | rfl | rfl | rfl | rfl | rfl | rfl | rfl | rfl | rfl | rfl | rfl | rfl | rfl | rfl | rfl <;> first | exact Text.stayS_const _ | exact stay_refsV _ | exact stay_zerV | exact stay_blkV _ | exact stay_mkV _ _ | exact stay_spV _ _ | exact stay_psV _ | exact (fun _ _ _ _ _ => trivial)
  ·
   exact spec_stayz (by
    intro R hR
    simp only [List.mem_cons, List.not_mem_nil, or_false] at hR
    rcases hR with rfl | rfl | rfl | rfl | rfl | rfl | rfl | rfl | rfl | rfl | rfl | rfl | rfl | rfl | rfl | rfl | rfl | rfl | rfl <;> first | exact stayz_c _ | exact stayz_refsV _ | exact stayz_zerV | exact stayz_blkV HLEN.out | exact stayz_mkV _ HLEN.out | exact stayz_spV _ _ | exact stayz_psV HLEN.out | exact (fun _ _ _ _ _ _ _ _ => trivial))
  ·
   intro i hi h15 h16
   simp only [List.mem_cons, List.not_mem_nil, or_false] at hi
   rcases hi with rfl | rfl | rfl | rfl | rfl | rfl | rfl | rfl | rfl | rfl | rfl | rfl | rfl | rfl | rfl | rfl | rfl | rfl | rfl
   ·
    intro o ho vs a' w' hb hold hp K hK
    cases ho
    exact Text.bag_run (exec_move rfl (v := (B x)) (hold 0 rfl)) (hK _ _ (Below.refl _ _) rfl)
   ·
    intro o ho vs a' w' hb hold hp K hK
    cases ho
    have h0 : a'.eval (.tmp 29) = B x := ((hp 0 rfl).1 29 rfl).trans ((hp 0 rfl).2 (by decide))
    refine Text.bag_call (exec_fn rfl (vs := #[B x, .int .u8 1]) (by simp only [List.map_toArray, List.map_cons, List.map_nil, h0]; rfl) (enters_of Tryz.func12 (by kernel_rfl) rfl _ _)) (R := fun v w'' => v = .string (strB (nameL x 1)) ∧ Below w'.heap.size w' w'') ((name_c x 1 _ _ rfl rfl w').mono ?_) ?_
    ·
     rintro e w'' ⟨rfl, b⟩; exact ⟨_, rfl, rfl, b⟩
    ·
     rintro v w'' ⟨rfl, b⟩; exact hK _ _ b rfl
   ·
    intro o ho vs a' w' hb hold hp K hK
    cases ho
    have h0 : a'.eval (.tmp 30) = .string (strB (nameL x 1)) := ((hp 1 rfl).1 30 rfl).trans ((hp 1 rfl).2 (by decide))
    exact Text.bag_run (exec_build (ps := #[(0, .string (strB (nameL x 1))), (2, .int .i64 10)]) rfl (by rw [List.map_toArray]; simp only [List.map_cons, List.map_nil]; rw [h0]; rfl) (bldRf _ _ w')) (hK _ _ (Below.refl _ _) rfl)
   ·
    intro o ho vs a' w' hb hold hp K hK
    cases ho
    exact Text.bag_run (exec_move rfl (v := (B x)) (hold 0 rfl)) (hK _ _ (Below.refl _ _) rfl)
   ·
    intro o ho vs a' w' hb hold hp K hK
    cases ho
    have h0 : a'.eval (.tmp 32) = B x := ((hp 3 rfl).1 32 rfl).trans ((hp 3 rfl).2 (by decide))
    refine Text.bag_call (exec_fn rfl (vs := #[B x, .int .u8 2]) (by simp only [List.map_toArray, List.map_cons, List.map_nil, h0]; rfl) (enters_of Tryz.func12 (by kernel_rfl) rfl _ _)) (R := fun v w'' => v = .string (strB (nameL x 2)) ∧ Below w'.heap.size w' w'') ((name_c x 2 _ _ rfl rfl w').mono ?_) ?_
    ·
     rintro e w'' ⟨rfl, b⟩; exact ⟨_, rfl, rfl, b⟩
    ·
     rintro v w'' ⟨rfl, b⟩; exact hK _ _ b rfl
   ·
    intro o ho vs a' w' hb hold hp K hK
    cases ho
    have h0 : a'.eval (.tmp 33) = .string (strB (nameL x 2)) := ((hp 4 rfl).1 33 rfl).trans ((hp 4 rfl).2 (by decide))
    exact Text.bag_run (exec_build (ps := #[(0, .string (strB (nameL x 2))), (2, .int .i64 20)]) rfl (by rw [List.map_toArray]; simp only [List.map_cons, List.map_nil]; rw [h0]; rfl) (bldRf _ _ w')) (hK _ _ (Below.refl _ _) rfl)
   ·
    intro o ho vs a' w' hb hold hp K hK
    cases ho
    have h1 : a'.eval (.tmp 31) = .agg (rfL (nameL x 1, 0, 10)).toArray := ((hp 2 rfl).1 31 rfl).trans ((hp 2 rfl).2 (by decide))
    have h2 : a'.eval (.tmp 34) = .agg (rfL (nameL x 2, 0, 20)).toArray := ((hp 5 rfl).1 34 rfl).trans ((hp 5 rfl).2 (by decide))
    exact Text.bag_run (exec_bsl (ps := #[(0, .agg (rfL (nameL x 1, 0, 10)).toArray), (1, .agg (rfL (nameL x 2, 0, 20)).toArray)]) rfl (by rw [List.map_toArray]; simp only [List.map_cons, List.map_nil]; rw [h1, h2]) (bslRf2 _ _ w')) (hK _ _ ((Below.refl _ _).alloc (Nat.le_refl _) _) (refs_new x w'))
   ·
    intro o ho vs a' w' hb hold hp K hK
    cases ho
    exact Text.bag_run (exec_move rfl (v := (.slice A 64 c)) (hold 1 rfl)) (hK _ _ (Below.refl _ _) rfl)
   ·
    intro o ho vs a' w' hb hold hp K hK
    cases ho
    exact Text.bag_run (exec_mks rfl rfl rfl (make_bytes 64 (by decide) w')) (hK _ _ ((Below.refl _ _).alloc (Nat.le_refl _) _) ⟨_, rfl, BS.of_blk (Blk.new _ _ _) (by simp [zeros]) (by unfold lim; omega)⟩)
   ·
    intro o ho vs a' w' hb hold hp K hK
    cases ho
    have h1 : a'.eval (.tmp 36) = .slice A 64 c := ((hp 7 rfl).1 36 rfl).trans ((hp 7 rfl).2 (by decide))
    obtain ⟨g, e2, h2⟩ := (show zerV w' (vs 8) from (hp 8 rfl).2 (by decide))
    have h3 : a'.eval (.tmp 37) = .slice (some ⟨g, 0, none⟩) 64 64 := ((hp 8 rfl).1 37 rfl).trans e2
    exact Text.bag_run (exec_bsl (ps := #[(0, .slice A 64 c), (1, .slice (some ⟨g, 0, none⟩) 64 64)]) rfl (by rw [List.map_toArray]; simp only [List.map_cons, List.map_nil]; rw [h1, h3]) (bslBs2 _ _ _ _ _ _ w')) (hK _ _ ((Below.refl _ _).alloc (Nat.le_refl _) _) (blk_new (HBS.out.kept (below_thenB HB1.out.drew HB1.out.size hb)) h2))
   ·
    intro o ho vs a' w' hb hold hp K hK
    cases ho
    obtain ⟨g, e2, h2⟩ := (show refsV x w' (vs 6) from (hp 6 rfl).2 (by decide))
    obtain ⟨g', e3, h3⟩ := (show blkV b w' (vs 9) from (hp 9 rfl).2 (by decide))
    have h4 : a'.eval (.tmp 35) = .slice (some ⟨g, 0, none⟩) 2 2 := ((hp 6 rfl).1 35 rfl).trans e2
    have h5 : a'.eval (.tmp 38) = .slice (some ⟨g', 0, none⟩) 2 2 := ((hp 9 rfl).1 38 rfl).trans e3
    refine Text.bag_call (exec_fn rfl (vs := #[.int .i64 0, .int .i64 2, .int .i64 4, .slice (some ⟨g, 0, none⟩) 2 2, .slice (some ⟨g', 0, none⟩) 2 2]) (by simp only [List.map_toArray, List.map_cons, List.map_nil, h4, h5]; rfl) (enters_of Tryz.func11 (by kernel_rfl) rfl _ _)) (R := fun v w'' => mkV x b w'' v ∧ Below w'.heap.size w' w'') ((HR3.out w' (below_thenB HB1.out.drew HB1.out.size hb) g g' h2 h3).mono ?_) ?_
    ·
     rintro e w'' ⟨cs, v, rfl, r1, ⟨Ap, cp, ev, r2⟩, r3⟩
     have hl : (pcsL (rwB b)).length = 4 := by unfold pcsL; rw [List.length_map, List.length_range, rwB_length]
     rw [hl] at ev r2
     exact ⟨_, rfl, ⟨cs, v, rfl, r1, Ap, cp, ev, r2⟩, r3⟩
    ·
     rintro v w'' ⟨r1, r2⟩
     exact hK _ _ r2 r1
   ·
    intro o ho vs a' w' hb hold hp K hK
    cases ho
    exact Text.bag_run (exec_move rfl (((hp 10 rfl).1 39 rfl))) (hK _ _ (Below.refl _ _) ((hp 10 rfl).2 (by decide)))
   ·
    intro o ho vs a' w' hb hold hp K hK
    cases ho
    obtain ⟨cs, v2, e1, h1, h2⟩ := (show mkV x b w' (vs 11) from (hp 11 rfl).2 (by decide))
    have h0 : a'.eval (.tmp 28) = .tuple #[.agg cs.toArray, v2, .int .i64 0] := ((hp 11 rfl).1 28 rfl).trans e1
    exact Text.bag_run (exec_extract rfl h0 rfl) (hK _ _ (Below.refl _ _) ⟨cs, rfl, h1⟩)
   ·
    intro o ho vs a' w' hb hold hp K hK
    cases ho
    obtain ⟨cs, v2, e1, h1, h2⟩ := (show mkV x b w' (vs 11) from (hp 11 rfl).2 (by decide))
    have h0 : a'.eval (.tmp 28) = .tuple #[.agg cs.toArray, v2, .int .i64 0] := ((hp 11 rfl).1 28 rfl).trans e1
    exact Text.bag_run (exec_extract rfl h0 rfl) (hK _ _ (Below.refl _ _) h2)
   ·
    intro o ho vs a' w' hb hold hp K hK
    cases ho
    obtain ⟨cs, v2, e1, h1, h2⟩ := (show mkV x b w' (vs 11) from (hp 11 rfl).2 (by decide))
    have h0 : a'.eval (.tmp 28) = .tuple #[.agg cs.toArray, v2, .int .i64 0] := ((hp 11 rfl).1 28 rfl).trans e1
    exact Text.bag_run (exec_extract rfl h0 rfl) (hK _ _ (Below.refl _ _) rfl)
   ·
    exact absurd rfl h15
   ·
    exact absurd rfl h16
   ·
    intro o ho vs a' w' hb hold hp K hK
    cases ho
    exact Text.bag_run (exec_assign rfl (((hp 13 rfl).1 41 rfl))) (hK _ _ (Below.refl _ _) ((hp 13 rfl).2 (by decide)))
   ·
    intro o ho vs a' w' hb hold hp K hK
    cases ho
    exact Text.bag_run (exec_assign rfl (((hp 14 rfl).1 42 rfl))) (hK _ _ (Below.refl _ _) ((hp 14 rfl).2 (by decide)))
  ·
   intro o ho vs a' w' hb hold hp K hK
   cases ho
   exact Text.bag_run (exec_alloc rfl spZero) (hK _ _ ((Below.refl _ _).alloc (Nat.le_refl _) _) ⟨_, rfl, Nat.le_refl _, BL.new _ _ _⟩)
  ·
   intro o ho vs a' w' g hb hp hv hbl K hK
   cases ho
   obtain ⟨cs, e2, h2⟩ := (show spV x b w' (vs 12) from (hp 12 rfl).2 (by decide))
   have h3 : a'.eval (.tmp 40) = .agg cs.toArray := ((hp 12 rfl).1 40 rfl).trans e2
   have h4 : a'.eval (.tmp 9) = .pointer (some ⟨g, 0, none⟩) := ((hp 15 rfl).1 9 rfl).trans hv
   obtain ⟨R, rn, ec, rfl, hr⟩ := h2
   refine wp_storev 26 (.tmp 9) (.tmp 40) rfl 6 (by kernel_rfl) g 0 _ spZ _ h4 h3 hbl rfl (one_val _ rfl) (by decide) (fun w3 a1 a2 a3 => ?_)
   exact hK _ _ _ a2 trivial a1 (sp_storeZ ⟨R, rn, ec, rfl, hr⟩ hbl a2)
  intro vs w2 g cs hb2 hr hv hg hbl hsp
  obtain ⟨Ap, cp, e17, hps⟩ := (show psV b w2 (vs 17) from hr 17 (by decide) (by decide))
  have e18 : vs 18 = .int .i64 0 := hr 18 (by decide) (by decide)
  simp only [Text.putAll, Text.dstOf, hv, e17, e18]
  clear hr
  have HS2 := Lib.hid hbl
  have HSP2 := Lib.hid hsp
  have HPS2 := Lib.hid hps
  have HB2 := Lib.hid (below_then HB1.out hb2)
  clear hbl hsp hps hb2 hv HR3 HB1 e17 e18
  obtain ⟨kz, hkz, hk4⟩ := rem_nat i
  obtain ⟨jz, hjz, hj4⟩ := rem_nat j
  have fk1 : IntKind.i64.wrap (i.tmod 4) = i.tmod 4 := rem_w i
  have fj1 : IntKind.i64.wrap (j.tmod 4) = j.tmod 4 := rem_w j
  have fk2 : IntKind.i64.wrap (i.tmod 4 + 4) = i.tmod 4 + 4 := rem_w4 i
  have fj2 : IntKind.i64.wrap (j.tmod 4 + 4) = j.tmod 4 + 4 := rem_w4 j
  have HKJ : Hid (kz < 4 ∧ jz < 4) := Lib.hid ⟨hk4, hj4⟩
  go_wp2_with (first
   | ((with_reducible show OpW 60); refine wpList_bslice _ rfl 27 48 0 _ rfl #[] (by rw [List.map_toArray]; rfl) [] (bslPe0 _) ?_; intro w3 a1 a2 a3; have HO3 : Hid (OL rPe 4 48 w2 w3 (.slice (some ⟨w2.heap.size, 0, none⟩) 0 0) (othL (rwB b) kz jz 0)) := Lib.hid (OL.nil' _ _ a1 (Nat.le_refl _)); have HX3 := Lib.hid a2; clear a1 a2 a3))
  have HKE : Hid (keysK x = keysK x) := Lib.hid rfl
  obtain ⟨g2, hg2⟩ : ∃ z, z = w2.heap.size := ⟨_, rfl⟩
  rw [← hg2] at HO3 ⊢
  have HG2 := Lib.hid hg2
  clear hg2
  clear fk1 fj1 fk2 fj2 hkz hjz hg
  go_loopw [14, 63] (fun v iv wr => ∃ m : Nat, m ≤ 4 ∧ iv = .int .i64 (m : Int) ∧ Hid (OL rPe 4 48 w2 wr v (othL (rwB b) kz jz m)) ∧ Hid (Below w2.heap.size w2 wr)) (fun _ iv _ => 4 - (intOf iv).toNat)
  case atStart => exact ⟨0, by omega, rfl, HO3, HX3⟩
  case round =>
   obtain ⟨m, hm, rfl, ho, hb⟩ := hrel
   obtain ⟨wx, hwx⟩ : ∃ x, x = wr := ⟨_, rfl⟩
   rw [← hwx] at ho hb ⊢
   clear hwx
   by_cases hlt : m < 4
   ·
    by_cases e1 : m = kz
    ·
     have HN : Hid (othL (rwB b) kz jz (m + 1) = othL (rwB b) kz jz m) := Lib.hid (othL_no (.inl e1))
     have f1 : ((m : Int) != (kz : Int)) = false := by rw [e1]; simp
     clear e1
     go_wp2_with fail
     go_roundw
     case rel => exact ⟨m + 1, by omega, by go_num, Lib.hid (by rw [HN.out]; exact ho.out), hb⟩
     case measure => simp [intOf]; omega
    ·
     by_cases e2 : m = jz
     ·
      have HN : Hid (othL (rwB b) kz jz (m + 1) = othL (rwB b) kz jz m) := Lib.hid (othL_no (.inr e2))
      have f1 : ((m : Int) != (kz : Int)) = true := by rw [bne_iff_ne]; omega
      have f2 : ((m : Int) != (jz : Int)) = false := by rw [e2]; simp
      clear e1 e2
      go_wp2_with fail
      go_roundw
      case rel => exact ⟨m + 1, by omega, by go_num, Lib.hid (by rw [HN.out]; exact ho.out), hb⟩
      case measure => simp [intOf]; omega
     ·
      have HN : Hid (othL (rwB b) kz jz (m + 1) = othL (rwB b) kz jz m ++ [pieN (rwB b) m]) := Lib.hid (othL_yes e1 e2)
      have f1 : ((m : Int) != (kz : Int)) = true := by rw [bne_iff_ne]; omega
      have f2 : ((m : Int) != (jz : Int)) = true := by rw [bne_iff_ne]; omega
      clear e1 e2
      obtain ⟨y, g', o', cy, hy, ea, hat, hry⟩ := HPS2.out.at_ stay_pe (Below.refl _ _) hlt
      obtain ⟨z, hz⟩ : ∃ z, z = pieN (rwB b) m := ⟨_, rfl⟩
      obtain rfl : z = y := by
       have h9 : (pcsL (rwB b))[m]? = some (pieN (rwB b) m) := by
        unfold pcsL
        rw [List.getElem?_map, List.getElem?_range (by rw [rwB_length]; exact hlt)]
        rfl
       rw [hz]
       exact Option.some.inj (h9.symm.trans hy)
      rw [← hz] at HN
      subst ea
      have HRY := Lib.hid hry
      obtain ⟨A', n', c', B', m', d', rfl, _⟩ := hry
      have HAT := Lib.hid (hat.kept hb.out)
      have HLO : Hid ((othL (rwB b) kz jz m).length ≤ 4) := Lib.hid (by unfold othL othN; rw [List.length_map]; exact Nat.le_trans (List.length_filter_le _ _) (by rw [List.length_range]; exact hm))
      have HO := Lib.hid ho.out
      clear hz hy hat
      go_wp2_with (first
       | ((with_reducible show OpW 78); refine wpList_loadv _ rfl 48 (.tmp 77) rfl 4 (by kernel_rfl) g' (o' + m * 4) (peC z A' n' c' B' m' d') (by go_simp) HAT.out rfl ?_)
       | ((with_reducible show OpW 79); refine wpList_bslice _ rfl 27 48 1 _ rfl #[(0, .agg [.string (strB z.id), .int .i64 z.ix, .slice A' n' c', .slice B' m' d'].toArray)] (by rw [List.map_toArray]; rfl) (peC z A' n' c' B' m' d') (by exact bslPe _ _ _ _ _ _ _ _ _) ?_; intro w5 a1 a2 a3; have HN5 := Lib.hid a1; have HX5 := Lib.hid a2; clear a1 a2 a3)
       | ((with_reducible show OpW 80); obtain ⟨iS, i1, i2, i3, i4⟩ := info_some infoPe; obtain ⟨css, o1, o2, o3, o4, o5⟩ := HO.out.kept HX5.out; refine wpList_appRW _ rfl (.tmp 74) (.tmp 79) 27 48 4 iS _ rfl Tryz.underlying27 i1 i2 i3 rfl _ _ _ rfl o4 wx.heap.size _ rfl HN5.out rfl (one_pe z A' n' c' B' m' d') (by rw [i4]; have := HLO.out; omega) (by have := HLO.out; omega) ?_; intro v6 w6 ap; have HO6 := Lib.hid (OL.push o1 o2 o3 o5 rfl rfl HRY.out (Nat.le_trans hb.out.size HX5.out.size) ap); have HX6 : Hid (Below w2.heap.size w2 w6) := Lib.hid (((Kp.of_below (S := fun _ => False) (below_thenB hb.out hb.out.size HX5.out)).after ap.kp (fun i hi e => by have := o5 i e; omega)).below (Nat.le_refl _) (fun _ h => h.elim)); clear ap o1 o2 o3 o4 o5 i1 i2 i3 i4))
      go_roundw
      case rel => exact ⟨m + 1, by omega, by go_num, Lib.hid (by rw [HN.out]; exact HO6.out), HX6⟩
      case measure => simp [intOf]; omega
   ·
    obtain rfl : m = 4 := by omega
    obtain ⟨Ao, co, eo, lo⟩ := ho.out.ls (b := 72) stay_pe hb.out (by have := othN_len kz jz; unfold othL; rw [List.length_map]; unfold lim; omega)
    obtain ⟨no, hno⟩ : ∃ z, z = (othL (rwB b) kz jz 4).length := ⟨_, rfl⟩
    rw [← hno] at eo lo
    have HN4 : Hid (no ≤ 1000) := Lib.hid (by rw [hno]; have := othN_len kz jz; unfold othL; rw [List.length_map]; omega)
    subst eo
    have HLO := Lib.hid lo
    have HSx := Lib.hid (HS2.out.kept hb.out)
    have HSPx := Lib.hid (stay_sp _ _ _ _ HSP2.out hb.out)
    have HPSx := Lib.hid (HPS2.out.kept stay_pe hb.out)
    have HBx := Lib.hid (below_then HB2.out hb.out)
    have HRV := Lib.hid (rfi_oth x HLEN.out HKJ.out.1 HKJ.out.2)
    clear hno lo ho HO3 HX3 HS2 HSP2 HPS2 hb
    have hsp := HSPx.out
    obtain ⟨R, rn, ec, rfl, _⟩ := hsp
    obtain ⟨TOK, hTOK⟩ : ∃ z, z = tksV (keysK x) (pieN (rwB b) kz).id (pieN (rwB b) kz).da (pieN (rwB b) kz).ix (pieN (rwB b) kz).da.length 3 2 := ⟨_, rfl⟩
    rw [← hTOK] at HRV
    have HC8 : Hid (∀ wq : World, Below wx.heap.size wx wq → Calls Tryz.prog 8 #[(keysK x).val, .agg (spC (spR x b) R rn ec).toArray, .int .i64 (kz : Int), .slice Ao no co, .int .i64 3, .int .i64 2] wq (TksRet TOK 0 wq)) := Lib.hid (fun wq hq => by
     have h9 := refill_any (keysK x) _ (spR x b) Ao no co _ (kz : Int) 3 2 wq (stay_sp _ _ _ _ HSPx.out hq) (HLO.out.kept stay_pe hq) (HT.out.kept (below_then HBx.out hq)) HN4.out
     rw [HRV.out] at h9
     exact h9)
    have hk4' : kz < 4 := HKJ.out.1
    have hk4i : (kz : Int) < 4 := by omega
    obtain ⟨y, g', o', cy, hy, ea, hat, hry⟩ := HPSx.out.at_ stay_pe (Below.refl _ _) hk4'
    obtain rfl : pieN (rwB b) kz = y := by
     have h9 : (pcsL (rwB b))[kz]? = some (pieN (rwB b) kz) := by
      unfold pcsL
      rw [List.getElem?_map, List.getElem?_range (by rw [rwB_length]; exact hk4')]
      rfl
     exact Option.some.inj (h9.symm.trans hy)
    subst ea
    obtain ⟨A', n', c', B', m', d', rfl, hbs, _⟩ := hry
    have HBS' := Lib.hid hbs
    have HAT := Lib.hid hat
    have HTP := Lib.hid (tksB_pie x HLEN.out hk4')
    have HC9 : Hid (∀ wq : World, Below wx.heap.size wx wq → Calls Tryz.prog 14 #[(keysK x).val, .agg #[.string (strB (pieN (rwB b) kz).id), .int .i64 (pieN (rwB b) kz).ix], .slice A' n' c', .int .i64 3, .int .i64 2] wq (TksRet TOK 0 wq)) := Lib.hid (fun wq hq => by
     have h9 := tokens_all (keysK x) (pieN (rwB b) kz).id (pieN (rwB b) kz).da (pieN (rwB b) kz).ix n' c' 3 2 A' wq (hbs.kept hq) (HT.out.kept (below_then HBx.out hq))
     have e1 : tksV (keysK x) (pieN (rwB b) kz).id (pieN (rwB b) kz).da (pieN (rwB b) kz).ix n' 3 2 = TOK := by rw [hTOK, hbs.1]
     have e2 : tksB (keysK x) (pieN (rwB b) kz).id (pieN (rwB b) kz).ix n' 3 2 = true := by rw [← hbs.1]; exact HTP.out
     have e3 : errV true = 0 := rfl
     rw [e1, e2, e3] at h9
     exact h9)
    obtain ⟨z, hz⟩ : ∃ z, z = pieN (rwB b) kz := ⟨_, rfl⟩
    rw [← hz] at HAT HC9
    clear hTOK hbs hat hy hz HRV HTP HLO HSPx HBS' HPSx
    go_wp2_with fail
    refine Text.wp_region_text (fun w' => Below wx.heap.size wx w') [(0, 4), (3, 4), (4, 4), (2, 0), (1, 2), (5, 2), (6, 4), (7, 4), (8, 4), (9, 4), (10, 4)] (by kernel_rfl) (by kernel_rfl) (fun _ _ _ _ _ h => h) ((Below.refl _ _).drew) ?_
    iterate 3 (refine Text.purek rfl rfl (fun K hK => ⟨_, fun w' => by go_simp <;> rfl, ?_⟩); go_simp; refine hK _ ?_; clear hK K)
    refine Text.heldk rfl rfl (fun K hK => ?_)
    refine ⟨_, fun w' hw' => exec_loadv 26 (.tmp 9) rfl 6 (by kernel_rfl) g 0 (spC (spR x b) R rn ec) rfl (BL.all (HSx.out.kept hw')) rfl, ?_⟩
    go_simp
    refine hK _ ?_
    clear hK K
    refine Text.eff rfl rfl (fun K hK => ?_)
    go_simp
    refine (keys_any x wx.drew).mono ?_
    rintro e y1 ⟨rfl, b1⟩
    have HX1 : Hid (Below wx.heap.size wx y1) := Lib.hid ((Below.refl _ _).drew.trans (b1.mono (Nat.le_refl _)))
    refine hK _ _ HX1.out ?_
    clear hK K b1
    refine Text.eff rfl rfl (fun K hK => ?_)
    go_simp
    refine (HC8.out y1 HX1.out).mono ?_
    rintro e y2 ⟨v8, n8, rfl, r1, r2, r3, r4⟩
    have HT8 := Lib.hid (And.intro r1 r2)
    have HV8 := Lib.hid r3
    have HX2 : Hid (Below wx.heap.size wx y2) := Lib.hid (below_then HX1.out r4)
    refine hK _ _ HX2.out ?_
    clear hK K r1 r2 r3 r4
    iterate 5 (refine Text.purek rfl rfl (fun K hK => ⟨_, fun w' => by go_simp <;> rfl, ?_⟩); go_simp; refine hK _ ?_; clear hK K)
    refine Text.done ?_
    go_wp2_with fail
    refine Text.wp_region_text (fun w' => Below y2.heap.size y2 w') [(0, 4), (2, 4), (3, 4), (4, 4), (5, 4), (7, 4), (8, 4), (9, 4), (10, 4), (6, 0), (11, 0), (1, 2), (12, 2), (13, 4), (14, 4), (15, 4), (16, 4), (17, 4)] (by kernel_rfl) (by kernel_rfl) (fun _ _ _ _ _ h => h) ((Below.refl _ _).drew) ?_
    iterate 9 (refine Text.purek rfl rfl (fun K hK => ⟨_, fun w' => by go_simp <;> rfl, ?_⟩); go_simp; refine hK _ ?_; clear hK K)
    refine Text.heldk rfl rfl (fun K hK => ?_)
    refine ⟨_, fun w' hw' => exec_loadv 31 (.tmp 97) rfl 2 (by kernel_rfl) g' (o' + kz * 4) [.string (strB z.id), .int .i64 z.ix] (by go_simp) (fun j v hj => cell_kept (below_then HX2.out hw') (HAT.out j v (by match j, hj with | 0, hj => exact hj | 1, hj => exact hj))) rfl, ?_⟩
    go_simp
    refine hK _ ?_
    clear hK K
    refine Text.heldk rfl rfl (fun K hK => ?_)
    refine ⟨_, fun w' hw' => by have q2 := cell_kept (below_then HX2.out hw') (HAT.out 2 _ rfl); go_simp <;> rfl, ?_⟩
    go_simp
    refine hK _ ?_
    clear hK K
    refine Text.eff rfl rfl (fun K hK => ?_)
    go_simp
    refine (keys_any x y2.drew).mono ?_
    rintro e y3 ⟨rfl, b1⟩
    have HX3 : Hid (Below y2.heap.size y2 y3) := Lib.hid ((Below.refl _ _).drew.trans (b1.mono (Nat.le_refl _)))
    refine hK _ _ HX3.out ?_
    clear hK K b1
    refine Text.eff rfl rfl (fun K hK => ?_)
    go_simp
    refine (HC9.out y3 (below_then HX2.out HX3.out)).mono ?_
    rintro e y4 ⟨v9, n9, rfl, r1, r2, r3, r4⟩
    obtain rfl := HT8.out.1.symm.trans r1
    have HV9 := Lib.hid r3
    have HX4 : Hid (Below y2.heap.size y2 y4) := Lib.hid (below_then HX3.out r4)
    have HW8 := Lib.hid (HV8.out.kept HX4.out)
    refine hK _ _ HX4.out ?_
    clear hK K r1 r2 r3 r4
    iterate 5 (refine Text.purek rfl rfl (fun K hK => ⟨_, fun w' => by go_simp <;> rfl, ?_⟩); go_simp; refine hK _ ?_; clear hK K)
    refine Text.done ?_
    go_wp2_with (first
     | (go_at_call 10; refine (same_any v8 v9 n8 TOK y4 HT8.out.1 HT8.out.2 HW8.out HV9.out).mono ?_; rintro e9 y5 ⟨rfl, b1⟩; have HX5 := Lib.hid b1; clear b1))
    go_ret
    exact ⟨rfl, below_then HBx.out (below_then HX2.out (below_then HX4.out HX5.out))⟩
 ·
  have d1 : ((n : Int) != 64) = true := by rw [bne_iff_ne]; omega
  clear h64
  go_enter Tryz.func4, Tryz.ntmps4
  go_wp2_with (first
   | (go_at_call 5; (with_reducible show Calls _ _ _ w _); refine (awake_any w HT.out).mono ?_; rintro e9 w1 ⟨rfl, b1⟩; have HB1 := Lib.hid b1; clear b1)
   | (go_at_call 5; refine (awake_any w1 (HT.out.kept HB1.out)).mono ?_; rintro e9 w2 ⟨rfl, b1⟩; have HB2 := Lib.hid (below_then HB1.out b1); clear b1))
  go_ret
  exact ⟨rfl, HB2.out⟩
end Go.Proofs.YtfcakjpljjnjnaaGreatDoor
