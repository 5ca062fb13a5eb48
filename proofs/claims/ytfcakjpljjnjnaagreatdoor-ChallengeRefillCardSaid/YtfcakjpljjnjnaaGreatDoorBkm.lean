/- The reference's Of, PieceSum, Verify, Fits. -/
import Derived.Test.YtfcakjpljjnjnaaGreatDoorBjm
import Derived.Test.YtfcakjpljjnjnaaGreatDoorC23
namespace Go.Proofs.YtfcakjpljjnjnaaGreatDoor
open Go Go.RowKit Gf Sha

section
set_option maxRecDepth 100000
set_option maxHeartbeats 4000000
theorem rof512_any (A : Option Addr) (n c : Nat) (x : List UInt8) (w : World) (h : BS w A n c x) (hT : Tabs w) (h1 : 1 ≤ n) (hn : n ≤ 65536) :
  Calls Tryz.prog 125 #[.slice A n c, .int .i64 512] w fun e w' => e = .returned (.tuple #[.string (strB (psum x)), .int .i64 0]) ∧ Below w.heap.size w w' := by
 have H := Lib.hid h
 have HT := Lib.hid hT
 have HN := Lib.hid (And.intro h1 hn)
 have hq1 : 1 ≤ nb n 512 := Nat.le_add_left 1 _
 have hq : nb n 512 ≤ 250 := by unfold nb; omega
 obtain ⟨q, hqd⟩ : ∃ q, q = nb n 512 := ⟨_, rfl⟩
 rw [← hqd] at hq hq1
 have HQ := Lib.hid hqd.symm
 have HPS : Hid (psum x = rt (lvsK x 512 q)) := Lib.hid (by unfold psum; rw [h.1, hqd])
 have HQL : Hid (q * 16 ≤ lim) := Lib.hid (by unfold lim; omega)
 clear h hT hqd h1 hn
 go_enter Tryz.func125, Tryz.ntmps125
 go_wp2_with (first
  | (go_at_call 146; refine (rblocks_any A n c 512 x w H.out HT.out HN.out.1 (Nat.le_trans HN.out.2 (by decide)) (by decide) (by decide)).mono ?_; rintro e w1 ⟨v1, rfl, o1, b1⟩; rw [HQ.out] at o1; obtain ⟨A1, c1, rfl, _⟩ := o1.1.form; have HO1 := Lib.hid o1; have HB1 := Lib.hid b1; clear o1 b1)
  | (go_at_call 86; refine (rroot_any q q A1 c1 (lvsK x 512 q) w1 (Nat.le_refl _) (TS.of_rw HO1.out.1 HQL.out) hq1 hq (lvsK_lv _ _ _)).mono ?_; rintro e w2 ⟨rfl, b2⟩; have HB2 := Lib.hid (below_then HB1.out b2); clear b2))
 go_ret2
 exact ⟨by rw [HPS.out]; rfl, HB2.out⟩
theorem rpsum_any (A : Option Addr) (n c : Nat) (x : List UInt8) (w : World) (h : BS w A n c x) (hT : Tabs w) (h1 : 1 ≤ n) (hn : n ≤ 65536) :
  Calls Tryz.prog 85 #[.slice A n c] w fun e w' => e = .returned (.string (strB (psum x))) ∧ Below w.heap.size w w' := by
 have H := Lib.hid h
 have HT := Lib.hid hT
 have HN := Lib.hid (And.intro h1 hn)
 clear h hT h1 hn
 go_enter Tryz.func85, Tryz.ntmps85
 go_wp2_with (first
  | (go_at_call 125; refine (rof512_any A n c x w H.out HT.out HN.out.1 HN.out.2).mono ?_; rintro e w1 ⟨rfl, b1⟩; have HB1 := Lib.hid b1; clear b1))
 go_ret
 exact ⟨rfl, HB1.out⟩
theorem rverP_any (cs : List Value) (p : Pe) (w : World) (h : rPe w cs p) (hT : Tabs w) :
  Calls Tryz.prog 81 #[.agg cs.toArray] w fun e w' => e = .returned (.bool (verP p)) ∧ Below w.heap.size w w' := by
 obtain ⟨A, n, c, B, m, d, rfl, hbs, hts, _, _⟩ := h
 have HT := Lib.hid hT
 have HBS := Lib.hid hbs
 have HTS := Lib.hid hts
 have HNL : Hid (p.da.length = n) := Lib.hid hbs.1
 have HML : Hid (p.sm.length = m) := Lib.hid hts.1
 have hn9 : n ≤ lim := hbs.2.2.1
 have hm9 : m * 16 ≤ lim := hts.2.2.1
 unfold lim at hn9 hm9
 clear hT hbs hts
 by_cases g1 : p.id.length = 32
 rotate_left
 ·
  have e1 : (((strB p.id).size : Int) != 32) = true := by rw [strB_size, bne_iff_ne]; omega
  have HF : Hid (verP p = false) := Lib.hid (by unfold verP; rw [decide_eq_false g1]; rfl)
  clear g1
  go_enter Tryz.func81, Tryz.ntmps81
  go_wp2_with (first
   | ((with_reducible show OpW 1); refine wpList_box _ rfl 48 (.tmp 0) rfl (peC p A n c B m d) rfl ?_; intro w1 y1 y2 y3; have HB1 := Lib.hid y2; have q0 := y1.get (j := 0) rfl; have q1 := y1.get (j := 1) rfl; have q2 := y1.get (j := 2) rfl; have q3 := y1.get (j := 3) rfl; clear y1 y2 y3)
   | fail)
  go_ret
  exact ⟨ret_bool HF.out.symm, HB1.out⟩
 have e1 : (((strB p.id).size : Int) != 32) = false := by rw [strB_size, g1]; rfl
 by_cases g3 : m ≤ 16
 rotate_left
 ·
  have e3 : decide ((m : Int) > 16) = true := decide_eq_true (by omega)
  have e3' : decide (m > 16) = true := decide_eq_true (by omega)
  have HF : Hid (verP p = false) := Lib.hid (by unfold verP; rw [HML.out, decide_eq_false g3]; simp)
  clear g1 g3
  go_enter Tryz.func81, Tryz.ntmps81
  go_wp2_with (first
   | ((with_reducible show OpW 1); refine wpList_box _ rfl 48 (.tmp 0) rfl (peC p A n c B m d) rfl ?_; intro w1 y1 y2 y3; have HB1 := Lib.hid y2; have q0 := y1.get (j := 0) rfl; have q1 := y1.get (j := 1) rfl; have q2 := y1.get (j := 2) rfl; have q3 := y1.get (j := 3) rfl; clear y1 y2 y3)
   | fail)
  go_ret
  exact ⟨ret_bool HF.out.symm, HB1.out⟩
 have e3 : decide ((m : Int) > 16) = false := decide_eq_false (by omega)
 have e3' : decide (m > 16) = false := decide_eq_false (by omega)
 by_cases g5 : 0 ≤ p.ix
 rotate_left
 ·
  have e5 : decide (p.ix < 0) = true := decide_eq_true (by omega)
  have HF : Hid (verP p = false) := Lib.hid (by unfold verP; rw [decide_eq_false g5]; simp)
  clear g1 g5
  go_enter Tryz.func81, Tryz.ntmps81
  go_wp2_with (first
   | ((with_reducible show OpW 1); refine wpList_box _ rfl 48 (.tmp 0) rfl (peC p A n c B m d) rfl ?_; intro w1 y1 y2 y3; have HB1 := Lib.hid y2; have q0 := y1.get (j := 0) rfl; have q1 := y1.get (j := 1) rfl; have q2 := y1.get (j := 2) rfl; have q3 := y1.get (j := 3) rfl; clear y1 y2 y3)
   | fail)
  go_ret
  exact ⟨ret_bool HF.out.symm, HB1.out⟩
 have e5 : decide (p.ix < 0) = false := decide_eq_false (by omega)
 by_cases g6 : p.ix < (m : Int)
 rotate_left
 ·
  have e6 : decide (p.ix ≥ (m : Int)) = true := decide_eq_true (by omega)
  have e6' : decide ((m : Int) ≤ p.ix) = true := e6
  have HF : Hid (verP p = false) := Lib.hid (by unfold verP; rw [HML.out, decide_eq_false g6]; simp)
  clear g1 g6
  go_enter Tryz.func81, Tryz.ntmps81
  go_wp2_with (first
   | ((with_reducible show OpW 1); refine wpList_box _ rfl 48 (.tmp 0) rfl (peC p A n c B m d) rfl ?_; intro w1 y1 y2 y3; have HB1 := Lib.hid y2; have q0 := y1.get (j := 0) rfl; have q1 := y1.get (j := 1) rfl; have q2 := y1.get (j := 2) rfl; have q3 := y1.get (j := 3) rfl; clear y1 y2 y3)
   | fail)
  go_ret
  exact ⟨ret_bool HF.out.symm, HB1.out⟩
 have e6 : decide (p.ix ≥ (m : Int)) = false := decide_eq_false (by omega)
 have e6' : decide ((m : Int) ≤ p.ix) = false := e6
 by_cases g7 : 1 ≤ n
 rotate_left
 ·
  have e7 : decide ((n : Int) < 1) = true := decide_eq_true (by omega)
  have e7' : decide (n < 1) = true := decide_eq_true (by omega)
  have HF : Hid (verP p = false) := Lib.hid (by unfold verP; rw [HNL.out, decide_eq_false g7]; simp)
  clear g1 g7
  go_enter Tryz.func81, Tryz.ntmps81
  go_wp2_with (first
   | ((with_reducible show OpW 1); refine wpList_box _ rfl 48 (.tmp 0) rfl (peC p A n c B m d) rfl ?_; intro w1 y1 y2 y3; have HB1 := Lib.hid y2; have q0 := y1.get (j := 0) rfl; have q1 := y1.get (j := 1) rfl; have q2 := y1.get (j := 2) rfl; have q3 := y1.get (j := 3) rfl; clear y1 y2 y3)
   | fail)
  go_ret
  exact ⟨ret_bool HF.out.symm, HB1.out⟩
 have e7 : decide ((n : Int) < 1) = false := decide_eq_false (by omega)
 have e7' : decide (n < 1) = false := decide_eq_false (by omega)
 by_cases g8 : n ≤ 65536
 rotate_left
 ·
  have e8 : decide ((n : Int) > 65536) = true := decide_eq_true (by omega)
  have e8' : decide (n > 65536) = true := decide_eq_true (by omega)
  have HF : Hid (verP p = false) := Lib.hid (by unfold verP; rw [HNL.out, decide_eq_false g8]; simp)
  clear g1 g8
  go_enter Tryz.func81, Tryz.ntmps81
  go_wp2_with (first
   | ((with_reducible show OpW 1); refine wpList_box _ rfl 48 (.tmp 0) rfl (peC p A n c B m d) rfl ?_; intro w1 y1 y2 y3; have HB1 := Lib.hid y2; have q0 := y1.get (j := 0) rfl; have q1 := y1.get (j := 1) rfl; have q2 := y1.get (j := 2) rfl; have q3 := y1.get (j := 3) rfl; clear y1 y2 y3)
   | fail)
  go_ret
  exact ⟨ret_bool HF.out.symm, HB1.out⟩
 have e8 : decide ((n : Int) > 65536) = false := decide_eq_false (by omega)
 have e8' : decide (n > 65536) = false := decide_eq_false (by omega)
 obtain ⟨k, hk⟩ : ∃ k : Nat, p.ix = (k : Int) := ⟨p.ix.toNat, by omega⟩
 have hkm : k < m := by omega
 have hkI : (k : Int) < (m : Int) := by omega
 have HVS : Hid (smB p.sm = false → verP p = false) := Lib.hid (fun h => by unfold verP; rw [h]; simp)
 have HV2 : Hid (smB p.sm = true → verP p = (decide (psum p.da = gR p.sm k) && decide (rt p.sm = p.id))) := Lib.hid (fun h => by
  unfold verP; rw [HML.out, HNL.out, decide_eq_true g1, decide_eq_true (by omega : 1 ≤ m), decide_eq_true g3, h, decide_eq_true g5, decide_eq_true g6, decide_eq_true g7, decide_eq_true g8, hk, Int.toNat_natCast]; rfl)
 obtain ⟨PS, hPS⟩ : ∃ z, z = psum p.da := ⟨_, rfl⟩
 have HPS := Lib.hid hPS
 rw [← hPS] at HV2
 clear hPS g5 g6 g1
 rw [hk] at e5 e6 e6'
 go_enter Tryz.func81, Tryz.ntmps81
 go_wp2_with (first
  | ((with_reducible show OpW 1); refine wpList_box _ rfl 48 (.tmp 0) rfl (peC p A n c B m d) rfl ?_; intro w1 y1 y2 y3; have HB1 := Lib.hid y2; have q0 := y1.get (j := 0) rfl; have q1 := y1.get (j := 1) rfl; have q2 := y1.get (j := 2) rfl; have q3 := y1.get (j := 3) rfl; clear y1 y2 y3)
  | fail)
 rw [hk] at q1
 go_loop [46] (fun i => ∃ j : Nat, j ≤ m ∧ i = .int .i64 (j : Int) ∧ Hid (∀ i, i < j → (gR p.sm i).length = 32)) (fun i => m - (intOf i).toNat)
 case atStart => exact ⟨0, by omega, rfl, Lib.hid (fun j hj => by omega)⟩
 case round =>
  obtain ⟨j, hj, rfl, ha⟩ := hrel
  by_cases hlt : j < m
  ·
   obtain ⟨gs, os, ea, c9⟩ := (HTS.out.kept HB1.out).2.2.2 j hlt
   subst ea
   by_cases hl : (gR p.sm j).length = 32
   ·
    have ht : (((strB (gR p.sm j)).size : Int) != 32) = false := by rw [strB_size, hl]; rfl
    have HL := Lib.hid hl
    clear hl
    go_wp2_with fail
    go_round
    case rel => exact ⟨j + 1, by omega, by go_num, Lib.hid (fun i hi => by
     rcases Nat.lt_or_ge i j with h1 | h1
     ·
      exact ha.out i h1
     ·
      obtain rfl : i = j := by omega
      exact HL.out)⟩
    case measure => simp [intOf]; omega
   ·
    have ht : (((strB (gR p.sm j)).size : Int) != 32) = true := by rw [strB_size]; simp only [bne_iff_ne, ne_eq]; omega
    have HF : Hid (verP p = false) := Lib.hid (HVS.out (by
     unfold smB
     have hj9 : j < p.sm.length := by rw [HML.out]; exact hlt
     rw [List.all_eq_false]
     exact ⟨p.sm[j], List.getElem_mem hj9, by rw [gR_eq hj9] at hl; simpa using hl⟩))
    clear hl
    go_wp2_with fail
    go_ret
    exact ⟨ret_bool HF.out.symm, HB1.out⟩
  ·
   obtain rfl : m = j := by omega
   have hsm : smB p.sm = true := by
    unfold smB
    rw [List.all_eq_true]
    intro x hx
    obtain ⟨i, hi, rfl⟩ := List.getElem_of_mem hx
    have h9 := ha.out i (by rw [← HML.out]; exact hi)
    rw [gR_eq hi] at h9
    exact decide_eq_true h9
   have HV3 := Lib.hid (HV2.out hsm)
   have HLV := Lib.hid (sm_lv hsm)
   clear hsm
   obtain ⟨gs, os, ea, c9⟩ := (HTS.out.kept HB1.out).2.2.2 k hkm
   have HTS1 := Lib.hid (HTS.out.kept HB1.out)
   subst ea
   go_wp2_with fail
   by_cases g9 : PS = gR p.sm k
   ·
    have e9 : ((strB (gR p.sm k)).toList == (strB PS).toList) = true := by rw [strB_eq, decide_eq_true g9.symm]
    by_cases ga : rt p.sm = p.id
    ·
     have ea : ((strB (rt p.sm)).toList == (strB p.id).toList) = true := by rw [strB_eq, decide_eq_true ga]
     have HF : Hid (verP p = true) := Lib.hid (by rw [HV3.out, decide_eq_true g9, decide_eq_true ga]; rfl)
     clear g9 ga
     refine Text.wp_region_text (fun w' => w'.cell? ⟨w.heap.size, 0, none⟩ = some (.string (strB p.id)) ∧ w'.cell? ⟨w.heap.size, 1, none⟩ = some (.int .i64 (k : Int)) ∧ w'.cell? ⟨w.heap.size, 2, none⟩ = some (.slice A n c) ∧ w'.cell? ⟨w.heap.size, 3, none⟩ = some (.slice (some ⟨gs, os, none⟩) m d) ∧ w'.cell? ⟨gs, os + k, none⟩ = some (.string (strB (gR p.sm k)))) [(0, 4), (2, 4), (3, 4), (7, 4), (1, 0), (4, 0), (5, 4), (6, 0), (8, 0), (9, 2), (10, 4), (11, 4), (12, 4), (15, 4), (16, 4), (13, 0), (17, 0), (14, 2), (18, 4), (19, 4), (20, 4)] (by kernel_rfl) (by kernel_rfl) (fun _ _ _ _ _ h => h) (⟨q0, q1, q2, q3, c9⟩) ?_
     iterate 4 (refine Text.purek rfl rfl (fun K hK => ⟨_, fun w' => by go_simp <;> rfl, ?_⟩); go_simp; refine hK _ ?_; clear hK K)
     iterate 2 (refine Text.heldk rfl rfl (fun K hK => ⟨_, fun w' hw' => by go_simp <;> rfl, ?_⟩); go_simp; refine hK _ ?_; clear hK K)
     (refine Text.purek rfl rfl (fun K hK => ⟨_, fun w' => by go_simp <;> rfl, ?_⟩); go_simp; refine hK _ ?_; clear hK K)
     iterate 2 (refine Text.heldk rfl rfl (fun K hK => ⟨_, fun w' hw' => by go_simp <;> rfl, ?_⟩); go_simp; refine hK _ ?_; clear hK K)
     refine Text.eff rfl rfl (fun K hK => ?_)
     go_simp
     refine (rpsum_any A n c p.da _ ((HBS.out.kept HB1.out).kept (Below.refl _ _).drew) ((HT.out.kept HB1.out).kept (Below.refl _ _).drew) (by omega) (by omega)).mono ?_
     rintro e9 w9 ⟨rfl, r9⟩
     rw [← HPS.out]
     have HX9 : Hid (Below w1.heap.size w1 w9) := Lib.hid (below_then (Below.refl _ _).drew r9)
     have HB9 := Lib.hid (below_then HB1.out HX9.out)
     have q0 := cell_kept HX9.out q0
     have q1 := cell_kept HX9.out q1
     have q2 := cell_kept HX9.out q2
     have q3 := cell_kept HX9.out q3
     have c9 := cell_kept HX9.out c9
     refine hK _ _ ⟨q0, q1, q2, q3, c9⟩ ?_
     clear hK K r9
     iterate 5 (refine Text.purek rfl rfl (fun K hK => ⟨_, fun w' => by go_simp <;> rfl, ?_⟩); go_simp; refine hK _ ?_; clear hK K)
     iterate 2 (refine Text.heldk rfl rfl (fun K hK => ⟨_, fun w' hw' => by go_simp <;> rfl, ?_⟩); go_simp; refine hK _ ?_; clear hK K)
     refine Text.effw rfl rfl (fun K hK => ?_)
     go_simp
     refine (rroot_any m m _ d p.sm _ (Nat.le_refl _) (HTS1.out.kept HX9.out) (by omega) (by omega) HLV.out).mono ?_
     rintro e9 w10 ⟨rfl, r10⟩
     have HB10 := Lib.hid (below_then HB9.out r10)
     refine hK _ _ ⟨cell_kept r10 q0, cell_kept r10 q1, cell_kept r10 q2, cell_kept r10 q3, cell_kept r10 c9⟩ ?_
     clear hK K r10
     iterate 3 (refine Text.purek rfl rfl (fun K hK => ⟨_, fun w' => by go_simp <;> rfl, ?_⟩); go_simp; refine hK _ ?_; clear hK K)
     refine Text.done ?_
     go_wp2_with fail
     go_ret
     exact ⟨ret_bool HF.out.symm, HB10.out⟩
    ·
     have ea : ((strB (rt p.sm)).toList == (strB p.id).toList) = false := by rw [strB_eq, decide_eq_false ga]
     have HF : Hid (verP p = false) := Lib.hid (by rw [HV3.out, decide_eq_true g9, decide_eq_false ga]; rfl)
     clear g9 ga
     refine Text.wp_region_text (fun w' => w'.cell? ⟨w.heap.size, 0, none⟩ = some (.string (strB p.id)) ∧ w'.cell? ⟨w.heap.size, 1, none⟩ = some (.int .i64 (k : Int)) ∧ w'.cell? ⟨w.heap.size, 2, none⟩ = some (.slice A n c) ∧ w'.cell? ⟨w.heap.size, 3, none⟩ = some (.slice (some ⟨gs, os, none⟩) m d) ∧ w'.cell? ⟨gs, os + k, none⟩ = some (.string (strB (gR p.sm k)))) [(0, 4), (2, 4), (3, 4), (7, 4), (1, 0), (4, 0), (5, 4), (6, 0), (8, 0), (9, 2), (10, 4), (11, 4), (12, 4), (15, 4), (16, 4), (13, 0), (17, 0), (14, 2), (18, 4), (19, 4), (20, 4)] (by kernel_rfl) (by kernel_rfl) (fun _ _ _ _ _ h => h) (⟨q0, q1, q2, q3, c9⟩) ?_
     iterate 4 (refine Text.purek rfl rfl (fun K hK => ⟨_, fun w' => by go_simp <;> rfl, ?_⟩); go_simp; refine hK _ ?_; clear hK K)
     iterate 2 (refine Text.heldk rfl rfl (fun K hK => ⟨_, fun w' hw' => by go_simp <;> rfl, ?_⟩); go_simp; refine hK _ ?_; clear hK K)
     (refine Text.purek rfl rfl (fun K hK => ⟨_, fun w' => by go_simp <;> rfl, ?_⟩); go_simp; refine hK _ ?_; clear hK K)
     iterate 2 (refine Text.heldk rfl rfl (fun K hK => ⟨_, fun w' hw' => by go_simp <;> rfl, ?_⟩); go_simp; refine hK _ ?_; clear hK K)
     refine Text.eff rfl rfl (fun K hK => ?_)
     go_simp
     refine (rpsum_any A n c p.da _ ((HBS.out.kept HB1.out).kept (Below.refl _ _).drew) ((HT.out.kept HB1.out).kept (Below.refl _ _).drew) (by omega) (by omega)).mono ?_
     rintro e9 w9 ⟨rfl, r9⟩
     rw [← HPS.out]
     have HX9 : Hid (Below w1.heap.size w1 w9) := Lib.hid (below_then (Below.refl _ _).drew r9)
     have HB9 := Lib.hid (below_then HB1.out HX9.out)
     have q0 := cell_kept HX9.out q0
     have q1 := cell_kept HX9.out q1
     have q2 := cell_kept HX9.out q2
     have q3 := cell_kept HX9.out q3
     have c9 := cell_kept HX9.out c9
     refine hK _ _ ⟨q0, q1, q2, q3, c9⟩ ?_
     clear hK K r9
     iterate 5 (refine Text.purek rfl rfl (fun K hK => ⟨_, fun w' => by go_simp <;> rfl, ?_⟩); go_simp; refine hK _ ?_; clear hK K)
     iterate 2 (refine Text.heldk rfl rfl (fun K hK => ⟨_, fun w' hw' => by go_simp <;> rfl, ?_⟩); go_simp; refine hK _ ?_; clear hK K)
     refine Text.effw rfl rfl (fun K hK => ?_)
     go_simp
     refine (rroot_any m m _ d p.sm _ (Nat.le_refl _) (HTS1.out.kept HX9.out) (by omega) (by omega) HLV.out).mono ?_
     rintro e9 w10 ⟨rfl, r10⟩
     have HB10 := Lib.hid (below_then HB9.out r10)
     refine hK _ _ ⟨cell_kept r10 q0, cell_kept r10 q1, cell_kept r10 q2, cell_kept r10 q3, cell_kept r10 c9⟩ ?_
     clear hK K r10
     iterate 3 (refine Text.purek rfl rfl (fun K hK => ⟨_, fun w' => by go_simp <;> rfl, ?_⟩); go_simp; refine hK _ ?_; clear hK K)
     refine Text.done ?_
     go_wp2_with fail
     go_ret
     exact ⟨ret_bool HF.out.symm, HB10.out⟩
   ·
    have e9 : ((strB (gR p.sm k)).toList == (strB PS).toList) = false := by rw [strB_eq, decide_eq_false (fun h => g9 h.symm)]
    have HF : Hid (verP p = false) := Lib.hid (by rw [HV3.out, decide_eq_false g9]; rfl)
    clear g9
    refine Text.wp_region_text (fun w' => w'.cell? ⟨w.heap.size, 0, none⟩ = some (.string (strB p.id)) ∧ w'.cell? ⟨w.heap.size, 1, none⟩ = some (.int .i64 (k : Int)) ∧ w'.cell? ⟨w.heap.size, 2, none⟩ = some (.slice A n c) ∧ w'.cell? ⟨w.heap.size, 3, none⟩ = some (.slice (some ⟨gs, os, none⟩) m d) ∧ w'.cell? ⟨gs, os + k, none⟩ = some (.string (strB (gR p.sm k)))) [(0, 4), (2, 4), (3, 4), (7, 4), (1, 0), (4, 0), (5, 4), (6, 0), (8, 0), (9, 2), (10, 4), (11, 4), (12, 4), (13, 4), (14, 4), (15, 4), (16, 4), (17, 4), (18, 4), (19, 4), (20, 4)] (by kernel_rfl) (by kernel_rfl) (fun _ _ _ _ _ h => h) (⟨q0, q1, q2, q3, c9⟩) ?_
    iterate 4 (refine Text.purek rfl rfl (fun K hK => ⟨_, fun w' => by go_simp <;> rfl, ?_⟩); go_simp; refine hK _ ?_; clear hK K)
    iterate 2 (refine Text.heldk rfl rfl (fun K hK => ⟨_, fun w' hw' => by go_simp <;> rfl, ?_⟩); go_simp; refine hK _ ?_; clear hK K)
    (refine Text.purek rfl rfl (fun K hK => ⟨_, fun w' => by go_simp <;> rfl, ?_⟩); go_simp; refine hK _ ?_; clear hK K)
    iterate 2 (refine Text.heldk rfl rfl (fun K hK => ⟨_, fun w' hw' => by go_simp <;> rfl, ?_⟩); go_simp; refine hK _ ?_; clear hK K)
    refine Text.eff rfl rfl (fun K hK => ?_)
    go_simp
    refine (rpsum_any A n c p.da _ ((HBS.out.kept HB1.out).kept (Below.refl _ _).drew) ((HT.out.kept HB1.out).kept (Below.refl _ _).drew) (by omega) (by omega)).mono ?_
    rintro e9 w9 ⟨rfl, r9⟩
    rw [← HPS.out]
    have HX9 : Hid (Below w1.heap.size w1 w9) := Lib.hid (below_then (Below.refl _ _).drew r9)
    have HB9 := Lib.hid (below_then HB1.out HX9.out)
    have q0 := cell_kept HX9.out q0
    have q1 := cell_kept HX9.out q1
    have q2 := cell_kept HX9.out q2
    have q3 := cell_kept HX9.out q3
    have c9 := cell_kept HX9.out c9
    refine hK _ _ ⟨q0, q1, q2, q3, c9⟩ ?_
    clear hK K r9
    iterate 2 (refine Text.purek rfl rfl (fun K hK => ⟨_, fun w' => by go_simp <;> rfl, ?_⟩); go_simp; refine hK _ ?_; clear hK K)
    iterate 7 (refine Text.skipk (.inr (.inr rfl)) rfl rfl (fun K hK => ?_); go_simp; refine hK _ ?_; clear hK K)
    iterate 2 (refine Text.purek rfl rfl (fun K hK => ⟨_, fun w' => by go_simp <;> rfl, ?_⟩); go_simp; refine hK _ ?_; clear hK K)
    refine Text.done ?_
    go_wp2_with fail
    go_ret
    exact ⟨ret_bool HF.out.symm, HB9.out⟩
end
end Go.Proofs.YtfcakjpljjnjnaaGreatDoor
