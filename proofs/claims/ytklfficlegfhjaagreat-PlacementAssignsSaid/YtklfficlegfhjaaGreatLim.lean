/- The reference's Without. -/
import Derived.Test.YtklfficlegfhjaaGreatLpm
namespace Go.Proofs.YtklfficlegfhjaaGreat
open Go Go.RowKit Gf Sha

abbrev rngI (k : Nat) : List Int := (List.range k).map (fun k : Nat => (k : Int))
theorem rng_filter (f : Int → Bool) (k : Nat) : (rngI (k + 1)).filter f = (rngI k).filter f ++ (if f (k : Int) = true then [(k : Int)] else []) := by
 unfold rngI
 rw [List.range_succ, List.map_append, List.filter_append]
 cases h : f (k : Int) <;> simp [h]
theorem OwnI.nilB {w : World} {base g : Nat} (h : BL w g 3 []) (hg : base ≤ g) : OwnI w base (.slice (some ⟨g, 0, none⟩) 0 0) [] := ⟨RW.of_blk h (by simp [iL]) (by decide), fun b hb => by cases hb; exact hg⟩
theorem OwnI.ls {w : World} {base : Nat} {v : Value} {L : List Int} (h : OwnI w base v L) (hok : ∀ x ∈ L, wfI x) (hl : L.length * 8 ≤ lim) : ∃ A c, v = .slice A L.length c ∧ LS rInt 1 8 w A L.length c L ∧ ∀ a, A = some a → base ≤ a.block ∧ a.block < w.heap.size := by
 obtain ⟨A, c, rfl, _⟩ := h.1.form
 refine ⟨A, c, rfl, ints_ls h.1 rfl hok hl, fun a ha => ?_⟩
 subst ha
 have h1 : (Value.slice (some a) L.length c).ownBlock = some a.block := rfl
 exact ⟨h.2 _ h1, h.1.lt h1⟩
set_option maxRecDepth 100000 in
set_option maxHeartbeats 4000000 in
theorem rwithout_any (y : Wt) (B : Option Addr) (m d : Nat) (ps : List Pl) (w : World) (hy : wtB y = true) (hp : LS rPl 3 32 w B m d ps) :
  Calls Tryz.prog 19 #[.agg (wtL y).toArray, .slice B m d] w fun e w' => ∃ A' c', e = .returned (.slice A' (withoutL y ps).length c') ∧ LS rInt 1 8 w' A' (withoutL y ps).length c' (withoutL y ps) ∧ Below w.heap.size w w' ∧ ∀ a, A' = some a → w.heap.size ≤ a.block ∧ a.block < w'.heap.size := by
 have hm := hp.len_le
 have HP := Lib.hid hp
 have HL := Lib.hid hp.1
 have hrg : 1 ≤ y.sz ∧ y.sz ≤ 65536 ∧ 1 ≤ y.da ∧ y.da ≤ 8 ∧ y.da ≤ y.to ∧ y.to ≤ 16 := by simpa [wtB] using hy
 obtain ⟨t, ht⟩ : ∃ t : Nat, (t : Int) = y.to := ⟨y.to.toNat, by omega⟩
 have ht16 : t ≤ 16 := by omega
 have HT := Lib.hid ht
 have HWO : Hid (withoutL y ps = (rngI t).filter (fun i => !hasIx ps y.st i)) := Lib.hid (by unfold withoutL upI; rw [← ht, Int.toNat_natCast])
 clear hp hy ht hrg
 go_enter Tryz.func19, Tryz.ntmps19
 go_wp2_with (first
  | ((with_reducible show OpW 2); refine wpList_box _ rfl 42 (.tmp 0) rfl (wtL y) rfl ?_; intro w1 a1 a2 a3; have HV1 := Lib.hid a1; have HX1 := Lib.hid a2; clear a1 a2 a3)
  | ((with_reducible show OpW 9); refine wpList_bslice _ rfl 39 3 0 _ rfl #[] (by rw [List.map_toArray]; rfl) [] (bslI0 _) ?_; intro w2 a1 a2 a3; have HG2 := Lib.hid a1; have HX2 := Lib.hid (below_then HX1.out a2); have HV2 := Lib.hid (HV1.out.kept a2); have HO2 : Hid (OwnI w2 (w.heap.size + 1) (.slice (some ⟨w1.heap.size, 0, none⟩) 0 0) []) := Lib.hid (OwnI.nilB a1 HV1.out.lt); clear a1 a2 a3))
 go_loopw [5, 6] (fun v iv wr => ∃ k : Nat, iv = .int .i64 (k : Int) ∧ k ≤ t ∧ Hid (OwnI wr (w.heap.size + 1) v ((rngI k).filter (fun i => !hasIx ps y.st i))) ∧ Hid (Below w.heap.size w wr) ∧ Hid (BL wr w.heap.size 42 (wtL y))) (fun _ iv _ => t - (intOf iv).toNat)
 case atStart => exact ⟨0, rfl, by omega, HO2, HX2, HV2⟩
 case round =>
  obtain ⟨k, rfl, hk, ho, hb, hv⟩ := hrel
  obtain ⟨wx, hwx⟩ : ∃ x, x = wr := ⟨_, rfl⟩
  rw [← hwx] at ho hb hv ⊢
  clear hwx
  have p3 : wx.cell? ⟨w.heap.size, 3, none⟩ = some (.int .i64 (t : Int)) := by rw [HT.out]; exact hv.out.get (j := 3) rfl
  by_cases hlt : k < t
  ·
   have HN := Lib.hid (rng_filter (fun i => !hasIx ps y.st i) k)
   go_wp2_with fail
   go_loopw [7, 8] (fun bv jv wr => ∃ (j : Nat) (b : Bool), j ≤ m ∧ jv = .int .i64 (j : Int) ∧ bv = .bool b ∧ Hid (b = !hasIx (ps.take j) y.st (k : Int)) ∧ Hid (Below wx.heap.size wx wr)) (fun _ jv _ => m - (intOf jv).toNat)
   case atStart => exact ⟨0, true, by omega, rfl, rfl, Lib.hid (by simp [hasIx]), Lib.hid (Below.refl _ _)⟩
   case round =>
    obtain ⟨j, b, hj, rfl, rfl, hbb, hb1⟩ := hrel
    obtain ⟨wy, hwy⟩ : ∃ x, x = wr := ⟨_, rfl⟩
    rw [← hwy] at hb1 ⊢
    clear hwy
    have HB1 := Lib.hid (below_thenB hb.out hb.out.size hb1.out)
    have HV4 := Lib.hid (hv.out.kept hb1.out)
    by_cases hlt2 : j < m
    ·
     obtain ⟨x, g, o, hx, ea, hat, _⟩ := HP.out.pl_at HB1.out hlt2
     subst ea
     have HNX := Lib.hid (hasIx_next hx y.st (k : Int))
     have q0 : wy.cell? ⟨g, o + j * 3, none⟩ = some (.string (strB x.st)) := hat 0 _ rfl
     have q1 : wy.cell? ⟨g, o + j * 3 + 1, none⟩ = some (.int .i64 x.ix) := hat 1 _ rfl
     have q2 : wy.cell? ⟨w.heap.size, 0, none⟩ = some (.string (strB y.st)) := HV4.out.get (j := 0) rfl
     clear hat hx
     by_cases h1 : x.st = y.st
     ·
      have e1 : ((strB x.st).toList == (strB y.st).toList) = true := by rw [strB_eq, decide_eq_true h1]
      by_cases h2 : x.ix = (k : Int)
      ·
       have e2 : (x.ix == (k : Int)) = true := by rw [beq_iff_eq]; exact h2
       have HF : Hid (false = !hasIx (ps.take (j + 1)) y.st (k : Int)) := Lib.hid (by rw [HNX.out, decide_eq_true ⟨h1, h2⟩, Bool.or_true]; rfl)
       clear h1 h2
       go_wp2_with fail
       refine Text.wp_region_text (fun _ => True) [(0, 4), (1, 4), (2, 4), (3, 4), (4, 4), (6, 4), (5, 1), (7, 1), (8, 4), (9, 4), (10, 4), (11, 4), (12, 4), (13, 4), (14, 4), (16, 4), (15, 1), (17, 4), (18, 4)] (by kernel_rfl) (by kernel_rfl) (fun _ _ _ _ _ h => h) (trivial) ?_
       iterate 6 (refine Text.purek rfl rfl (fun K hK => ⟨_, fun w' => by go_simp <;> rfl, ?_⟩); go_simp; refine hK _ ?_; clear hK K)
       iterate 2 (refine Text.readk rfl rfl (fun K hK => ⟨_, by go_simp <;> rfl, ?_⟩); go_simp; refine hK _ ?_; clear hK K)
       iterate 8 (refine Text.purek rfl rfl (fun K hK => ⟨_, fun w' => by go_simp <;> rfl, ?_⟩); go_simp; refine hK _ ?_; clear hK K)
       (refine Text.readk rfl rfl (fun K hK => ⟨_, by go_simp <;> rfl, ?_⟩); go_simp; refine hK _ ?_; clear hK K)
       iterate 2 (refine Text.purek rfl rfl (fun K hK => ⟨_, fun w' => by go_simp <;> rfl, ?_⟩); go_simp; refine hK _ ?_; clear hK K)
       refine Text.done ?_
       go_wp2_with fail
       go_roundw
       case rel => exact ⟨j + 1, false, by omega, by go_num, rfl, HF, Lib.hid hb1.out.drew⟩
       case measure => simp [intOf]; omega
      ·
       have e2 : (x.ix == (k : Int)) = false := by rw [beq_eq_false_iff_ne]; exact h2
       have HF : Hid (b = !hasIx (ps.take (j + 1)) y.st (k : Int)) := Lib.hid (by rw [HNX.out, decide_eq_false (fun h => h2 h.2), Bool.or_false]; exact hbb.out)
       clear h1 h2
       go_wp2_with fail
       refine Text.wp_region_text (fun _ => True) [(0, 4), (1, 4), (2, 4), (3, 4), (4, 4), (6, 4), (5, 1), (7, 1), (8, 4), (9, 4), (10, 4), (11, 4), (12, 4), (13, 4), (14, 4), (16, 4), (15, 1), (17, 4), (18, 4)] (by kernel_rfl) (by kernel_rfl) (fun _ _ _ _ _ h => h) (trivial) ?_
       iterate 6 (refine Text.purek rfl rfl (fun K hK => ⟨_, fun w' => by go_simp <;> rfl, ?_⟩); go_simp; refine hK _ ?_; clear hK K)
       iterate 2 (refine Text.readk rfl rfl (fun K hK => ⟨_, by go_simp <;> rfl, ?_⟩); go_simp; refine hK _ ?_; clear hK K)
       iterate 8 (refine Text.purek rfl rfl (fun K hK => ⟨_, fun w' => by go_simp <;> rfl, ?_⟩); go_simp; refine hK _ ?_; clear hK K)
       (refine Text.readk rfl rfl (fun K hK => ⟨_, by go_simp <;> rfl, ?_⟩); go_simp; refine hK _ ?_; clear hK K)
       iterate 2 (refine Text.purek rfl rfl (fun K hK => ⟨_, fun w' => by go_simp <;> rfl, ?_⟩); go_simp; refine hK _ ?_; clear hK K)
       refine Text.done ?_
       go_wp2_with fail
       go_roundw
       case rel => exact ⟨j + 1, b, by omega, by go_num, rfl, HF, Lib.hid hb1.out.drew⟩
       case measure => simp [intOf]; omega
     ·
      have e1 : ((strB x.st).toList == (strB y.st).toList) = false := by rw [strB_eq, decide_eq_false h1]
      have HF : Hid (b = !hasIx (ps.take (j + 1)) y.st (k : Int)) := Lib.hid (by rw [HNX.out, decide_eq_false (fun h => h1 h.1), Bool.or_false]; exact hbb.out)
      clear h1
      go_wp2_with fail
      refine Text.wp_region_text (fun _ => True) [(0, 4), (1, 4), (2, 4), (3, 4), (4, 4), (6, 4), (5, 1), (7, 1), (8, 4), (9, 4), (10, 4), (11, 4), (12, 4), (13, 4), (14, 4), (15, 4), (16, 4), (17, 4), (18, 4)] (by kernel_rfl) (by kernel_rfl) (fun _ _ _ _ _ h => h) (trivial) ?_
      iterate 6 (refine Text.purek rfl rfl (fun K hK => ⟨_, fun w' => by go_simp <;> rfl, ?_⟩); go_simp; refine hK _ ?_; clear hK K)
      iterate 2 (refine Text.readk rfl rfl (fun K hK => ⟨_, by go_simp <;> rfl, ?_⟩); go_simp; refine hK _ ?_; clear hK K)
      iterate 2 (refine Text.purek rfl rfl (fun K hK => ⟨_, fun w' => by go_simp <;> rfl, ?_⟩); go_simp; refine hK _ ?_; clear hK K)
      iterate 8 (refine Text.skipk (.inr (.inr rfl)) rfl rfl (fun K hK => ?_); go_simp; refine hK _ ?_; clear hK K)
      (refine Text.purek rfl rfl (fun K hK => ⟨_, fun w' => by go_simp <;> rfl, ?_⟩); go_simp; refine hK _ ?_; clear hK K)
      refine Text.done ?_
      go_wp2_with fail
      go_roundw
      case rel => exact ⟨j + 1, b, by omega, by go_num, rfl, HF, Lib.hid hb1.out.drew⟩
      case measure => simp [intOf]; omega
    ·
     obtain rfl : j = m := by omega
     rw [take_end HL.out] at hbb
     have HO4 := Lib.hid (ho.out.kept hb1.out)
     cases b with
     | false =>
      have HF : Hid ((rngI (k + 1)).filter (fun i => !hasIx ps y.st i) = (rngI k).filter (fun i => !hasIx ps y.st i)) := Lib.hid (by rw [HN.out, ← hbb.out]; simp)
      go_wp2_with fail
      go_roundw
      case rel => exact ⟨k + 1, by go_num, by omega, by rw [HF.out]; exact HO4, HB1, HV4⟩
      case measure => simp [intOf]; omega
     | true =>
      have HF : Hid ((rngI (k + 1)).filter (fun i => !hasIx ps y.st i) = (rngI k).filter (fun i => !hasIx ps y.st i) ++ [(k : Int)]) := Lib.hid (by rw [HN.out, ← hbb.out]; simp)
      have HLN : Hid (((rngI k).filter (fun i => !hasIx ps y.st i)).length ≤ k) := Lib.hid (by
       refine Nat.le_trans (List.length_filter_le _ _) ?_
       simp [rngI])
      obtain ⟨L, hL⟩ : ∃ L, L = (rngI k).filter (fun i => !hasIx ps y.st i) := ⟨_, rfl⟩
      rw [← hL] at HF HLN HO4
      clear hL
      go_wp2_with (first
       | ((with_reducible show OpW 44); refine wpList_bslice _ rfl 39 3 1 _ rfl #[(0, .int .i64 (k : Int))] (by rw [List.map_toArray]; rfl) [.int .i64 (k : Int)] (bslI _ _) ?_; intro w6 a1 a2 a3; have HG6 := Lib.hid a1; have HX6 : Hid (Below wy.heap.size wy w6) := Lib.hid a2; clear a1 a2 a3)
       | ((with_reducible show OpW 45); refine wpList_pushI rfl (.tmp 42) (.tmp 44) rfl (w.heap.size + 1) _ _ rfl (HO4.out.kept HX6.out) (by have := HV4.out.lt; have := HX6.out.size; omega) wy.heap.size (k : Int) rfl HG6.out (by have := HLN.out; omega) ?_; intro v' w7 a1 a2; have HO7 := Lib.hid a1; have HB7 : Hid (Below w.heap.size w w7) := Lib.hid (low_kp (below_thenB HB1.out HB1.out.size HX6.out) a2.kp (fun i hi e => by have := HO4.out.2 i e; omega)); have HV7 : Hid (BL w7 w.heap.size 42 (wtL y)) := Lib.hid (a2.kp.bl (HV4.out.kept HX6.out) (fun e => by have := HO4.out.2 _ e; omega)); clear a1 a2))
      go_roundw
      case rel => exact ⟨k + 1, by go_num, by omega, by rw [HF.out]; exact HO7, HB7, HV7⟩
      case measure => simp [intOf]; omega
  ·
   obtain rfl : k = t := by omega
   rw [← HWO.out] at ho
   obtain ⟨A', c', rfl, hls, hfr⟩ := ho.out.ls (fun x hx => by
    have h9 := (without_mem.1 hx).1
    rw [← HT.out] at h9
    exact wfI_of (by omega) (by omega)) (by
    have h9 : (withoutL y ps).length ≤ k := by
     rw [HWO.out]
     refine Nat.le_trans (List.length_filter_le _ _) ?_
     simp [rngI]
    unfold lim; omega)
   have HLS := Lib.hid hls
   have HFR := Lib.hid hfr
   obtain ⟨N, hN⟩ : ∃ N, N = (withoutL y ps).length := ⟨_, rfl⟩
   rw [← hN] at HLS ⊢
   have HNN := Lib.hid hN
   clear hls hN hfr
   go_wp2_with fail
   go_ret
   exact ⟨A', c', by rw [← HNN.out]; rfl, by rw [← HNN.out]; exact HLS.out, hb.out, fun a ha => ⟨by have := (HFR.out a ha).1; omega, (HFR.out a ha).2⟩⟩
end Go.Proofs.YtklfficlegfhjaaGreat
