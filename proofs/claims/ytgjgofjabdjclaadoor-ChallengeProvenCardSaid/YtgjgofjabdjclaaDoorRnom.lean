/- Contracts of ref44.nonce, ref44.Nonce, ref44.Answer. -/
import Derived.Test.YtgjgofjabdjclaaDoorRvkm
import Derived.Test.YtgjgofjabdjclaaDoorRtgm
import Derived.Test.YtgjgofjabdjclaaDoorRnum
namespace Go.Proofs.YtgjgofjabdjclaaDoor
open Go Go.RowKit Gf Sha

theorem BL.farR {w w' : World} {g B : Nat} {t : TypeId} {l : List Value} (h : BL w g t l) (hb : Below B w w') (hg : g < B) : BL w' g t l := (hb.block _ hg).trans h

set_option maxRecDepth 100000 in
set_option maxHeartbeats 2000000 in
theorem rnonce_any (Kx : Ky) (s : List UInt8) (i n : Nat) (w : World) (hK : okK Kx = true) (hs : s.length = 32) (hi : i < 16) (hn : n ≤ 1099511627776) :
    Calls Tryd.prog 58 #[Kx.val, .agg #[.string (strB s), .int .i64 (i : Int)], .int .i64 (n : Int)] w fun e w' => e = .returned (.string (strB (nonceL Kx s i n))) ∧ Below w.heap.size w w' := by
  have HK := Lib.hid hK
  have HS := Lib.hid hs
  have HI := Lib.hid hi
  have HN := Lib.hid hn
  have hwn := wrap_u64 n (by omega)
  have hwi := wrap_u64 i (by omega)
  have HNL : Hid (nonceL Kx s i n = tagL Kx.tk ((([110, 111, 110, 99, 101] ++ s) ++ uv i) ++ uv n)) := Lib.hid (by simp [nonceL])
  obtain ⟨R, hR⟩ : ∃ R, R = nonceL Kx s i n := ⟨_, rfl⟩
  rw [← hR] at HNL ⊢
  clear hK hs hi hn hR
  go_enter Tryd.func58, Tryd.ntmps58
  go_wp2_with (first
    | ((with_reducible show wpList _ _ _ (⟨some 3, _, _, _, _, _⟩ :: _) _ _); refine wpList_box _ rfl 29 (.tmp 0) rfl Kx.cells rfl ?_; intro w1 a1 a2 a3; have HG1 := Lib.hid a1; have HB1 := Lib.hid a2; have HZ1 := Lib.hid a3; clear a1 a2 a3)
    | ((with_reducible show wpList _ _ _ (⟨some 4, _, _, _, _, _⟩ :: _) _ _); refine wpList_box _ rfl 33 (.tmp 1) rfl [.string (strB s), .int .i64 (i : Int)] rfl ?_; intro w2 a1 a2 a3; have HP2 := Lib.hid a1; have HB2 := Lib.hid (below_then HB1.out (a2.mono (Nat.le_refl _))); have HG2 := Lib.hid (HG1.out.kept a2); clear a1 a2 a3)
    | ((with_reducible show wpList _ _ _ (⟨some 8, _, _, _, _, _⟩ :: _) _ _); refine wpList_bslice _ rfl 22 5 5 _ rfl #[(0, B 110), (1, B 111), (2, B 110), (3, B 99), (4, B 101)] (by rw [List.map_toArray]; rfl) (([110, 111, 110, 99, 101] : List UInt8).map B) (bsl5 110 111 110 99 101 _) ?_; intro w3 a1 a2 a3; have HC3 := Lib.hid a1; have HB3 := Lib.hid (below_then HB2.out a2); have HG3 := Lib.hid (HG2.out.kept a2); have HP3 := Lib.hid (HP2.out.kept a2); clear a1 a2 a3)
    | ((with_reducible show wpList _ _ _ (⟨some 9, _, _, _, _, _⟩ :: _) _ _); refine wpList_same _ rfl (.tmp 8) rfl w2.heap.size 5 5 [110, 111, 110, 99, 101] rfl HC3.out rfl (by decide) rfl ?_; intro w4 a1 a2 a3; have HC4 := Lib.hid a1; have HB4 : Hid (Below w.heap.size w w4) := Lib.hid (((Kp.of_below (S := fun _ => False) HB3.out).after a2 (fun i hi e => by have := HB2.out.size; omega)).below (Nat.le_refl _) (fun _ h => h.elim)); have HG4 := Lib.hid (HG3.out.kp a2 (by have := HG2.out.lt; show ¬ _ = _; omega)); have HP4 := Lib.hid (HP3.out.kp a2 (by have := HP2.out.lt; show ¬ _ = _; omega)); have q1 := HP4.out.get (j := 0) rfl; clear a1 a2 a3)
    | ((with_reducible show wpList _ _ _ (⟨some 12, _, _, _, _, _⟩ :: _) _ _); refine wpList_growS _ rfl (.tmp 9) (.tmp 11) rfl _ 5 5 [110, 111, 110, 99, 101] s rfl HC4.out rfl (by rw [HS.out]; decide) (by rw [HS.out]; decide) ?_; intro v5 w5 a1; have HO5 := Lib.hid a1.own; have HB5 := Lib.hid (below_thenB HB4.out HB4.out.size a1.below); have HX5 := Lib.hid a1.below; have HG5 := Lib.hid (HG4.out.kept a1.below); have HP5 := Lib.hid (HP4.out.kept a1.below); have q2 := HP5.out.get (j := 1) rfl; clear q1 a1)
    | (go_at_call 52; refine (rnum_any i w5 (by have := HI.out; omega)).mono ?_; rintro e w6 ⟨⟨g6, m6, c6, rfl, hm6, o6⟩, b6⟩; have HM6 := Lib.hid hm6; have HU6 := Lib.hid (uv_length i); obtain ⟨A6, c6', e6, s6⟩ := BS.of_own o6 (by have := HM6.out; have := HU6.out; unfold lim; omega); cases e6; have HS6 := Lib.hid s6; have HO6 := Lib.hid (own_below HO5.out b6); have HB6 := Lib.hid (below_thenB HB5.out HB5.out.size b6); have HX6 := Lib.hid (below_thenB HX5.out HX5.out.size b6); have HG6 := Lib.hid (HG5.out.kept b6); clear hm6 o6 b6 s6 q2)
    | ((with_reducible show wpList _ _ _ (⟨some 18, _, _, _, _, _⟩ :: _) _ _); refine wpList_appB _ rfl (.tmp 13) (.tmp 17) rfl w4.heap.size _ (5 + s.length) _ rfl HO6.out _ m6 c6 (uv i) rfl HS6.out (by have := HM6.out; have := HU6.out; rw [HS.out]; omega) HX6.out.size ?_; intro v7 w7 hp; have HO7 := Lib.hid hp.own; have HX7 := Lib.hid (hp.below HO6.out HX6.out (Nat.le_refl _) HX6.out.size); have HB7 := Lib.hid (hp.below HO6.out HB6.out HB4.out.size (by have := HB6.out.size; omega)); have HG7 := Lib.hid (HG6.out.farR (hp.below HO6.out (Below.refl w4.heap.size _) (Nat.le_refl _) HX6.out.size) HG4.out.lt); clear hp))
  have HQ : Hid (∀ w', Below w7.heap.size w7 w' → w'.cell? ⟨w.heap.size, 4, none⟩ = some (.string (strB Kx.tk))) := Lib.hid (fun w' hb => (HG7.out.kept hb).get (j := 4) rfl)
  have HWL : Hid (w.heap.size < w4.heap.size) := Lib.hid HG4.out.lt
  clear HG1 HG2 HG3 HG4 HG5 HG6 HP2 HP3 HP4 HP5 HB1 HB2 HB3 HB5 HB6 HX5 HX6 HO5 HO6 HC3 HC4 HS6
  refine Text.wp_region_text (fun w' => w'.cell? ⟨w.heap.size, 4, none⟩ = some (.string (strB Kx.tk))) [(0, 4), (2, 4), (3, 4), (4, 4), (1, 0), (5, 2), (6, 2), (7, 2), (8, 4)] (by kernel_rfl) (by kernel_rfl) (fun _ _ _ _ _ h => h) (HQ.out _ (Below.refl _ _).drew) ?_
  iterate 4 (refine Text.purek rfl rfl (fun K hK => ⟨_, fun w' => by go_simp <;> rfl, ?_⟩); go_simp; refine hK _ ?_; clear hK K)
  (refine Text.heldk rfl rfl (fun K hK => ⟨_, fun w' hw' => by go_simp <;> rfl, ?_⟩); go_simp; refine hK _ ?_; clear hK K)
  refine Text.eff rfl rfl (fun K hK => ?_)
  go_simp
  refine (rnum_any n w7.drew HN.out).mono ?_
  rintro e w8 ⟨⟨g8, m8, c8, rfl, hm8, o8⟩, b8⟩
  have HM8 := Lib.hid hm8
  have HU8 := Lib.hid (uv_length n)
  obtain ⟨A8, c8', e8, s8⟩ := BS.of_own o8 (by have := HM8.out; have := HU8.out; unfold lim; omega)
  cases e8
  have HS8 := Lib.hid s8
  have HX8 : Hid (Below w7.heap.size w7 w8) := Lib.hid ((Below.refl _ _).drew.trans (b8.mono (Nat.le_refl _)))
  have HO8 := Lib.hid (own_below HO7.out HX8.out)
  refine hK _ _ (HQ.out _ HX8.out) ?_
  clear hK K hm8 o8 b8 s8
  refine Text.eff rfl rfl (fun K hK => ?_)
  refine wp_appB _ (.tmp 21) (.tmp 24) rfl w4.heap.size _ (5 + s.length + m6) _ rfl HO8.out _ m8 c8 (uv n) rfl HS8.out (by have := HM8.out; have := HU8.out; have := HM6.out; have := HU6.out; rw [HS.out]; omega) (by have := HX7.out.size; have := HX8.out.size; omega) ?_
  intro v9 w9 hp
  have HX9 : Hid (Below w4.heap.size w4 w9) := Lib.hid (hp.below HO8.out (below_thenB HX7.out HX7.out.size HX8.out) (Nat.le_refl _) (by have := HX7.out.size; have := HX8.out.size; omega))
  have HQ9 : Hid (w9.cell? ⟨w.heap.size, 4, none⟩ = some (.string (strB Kx.tk))) := Lib.hid (by
    have h1 := hp.below HO8.out (Below.refl w4.heap.size _) (Nat.le_refl _) (by have := HX7.out.size; have := HX8.out.size; omega)
    exact ((HG7.out.kept HX8.out).farR h1 HWL.out).get (j := 4) rfl)
  obtain ⟨A9, c9, rfl, s9⟩ := BS.of_own hp.own (by have := HM8.out; have := HU8.out; have := HM6.out; have := HU6.out; rw [HS.out]; unfold lim; omega)
  have HS9 := Lib.hid s9
  refine hK _ _ HQ9.out ?_
  clear hK K hp s9
  refine Text.eff rfl rfl (fun K hK => ?_)
  go_simp
  refine (rtag_any A9 (5 + s.length + m6 + m8) c9 Kx.tk _ w9 HS9.out (by rw [okK_tk HK.out]; decide) (by have := HM8.out; have := HU8.out; have := HM6.out; have := HU6.out; rw [HS.out]; omega)).mono ?_
  rintro e w10 ⟨rfl, b10⟩
  rw [← HNL.out]
  have HQ10 := Lib.hid (cell_kept b10 HQ9.out)
  have HX10 := Lib.hid (below_thenB HX9.out HX9.out.size b10)
  refine hK _ _ HQ10.out ?_
  clear hK K b10
  (refine Text.purek rfl rfl (fun K hK => ⟨_, fun w' => by go_simp <;> rfl, ?_⟩); go_simp; refine hK _ ?_; clear hK K)
  refine Text.done ?_
  go_wp2_with fail
  go_ret
  exact ⟨rfl, below_thenB HB4.out HB4.out.size HX10.out⟩
end Go.Proofs.YtgjgofjabdjclaaDoor
