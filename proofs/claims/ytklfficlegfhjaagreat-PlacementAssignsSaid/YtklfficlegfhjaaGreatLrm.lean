/- The reference's Sorted. -/
import Derived.Test.YtklfficlegfhjaaGreatLim
namespace Go.Proofs.YtklfficlegfhjaaGreat
open Go Go.RowKit Gf Sha

abbrev ixP (ps : List Pl) (s : List UInt8) (i : Int) : List Pl := ps.filter (fun p => decide (p.st = s ∧ p.ix = i))
theorem sorted_next {ws : List Wt} {ps : List Pl} {k : Nat} {w : Wt} {t : Nat} (h : ws[k]? = some w) (ht : (t : Int) = w.to) : sortedL (ws.take (k + 1)) ps = sortedL (ws.take k) ps ++ (rngI t).flatMap (ixP ps w.st) := by
 unfold sortedL
 rw [flat_next h]
 unfold upI
 rw [← ht, Int.toNat_natCast]
theorem rng_flat (f : Int → List Pl) (t : Nat) : (rngI (t + 1)).flatMap f = (rngI t).flatMap f ++ f (t : Int) := by
 unfold rngI
 rw [List.range_succ, List.map_append, List.flatMap_append]
 simp
theorem ix_next {ps : List Pl} {k : Nat} {x : Pl} (h : ps[k]? = some x) (s : List UInt8) (i : Int) : ixP (ps.take (k + 1)) s i = ixP (ps.take k) s i ++ (if x.st = s ∧ x.ix = i then [x] else []) := by
 unfold ixP
 rw [take_next h, List.filter_append]
 by_cases h1 : x.st = s ∧ x.ix = i
 ·
  rw [if_pos h1]; simp [h1]
 ·
  rw [if_neg h1]
  congr 1
  rw [List.filter_cons, if_neg (by rw [decide_eq_false h1]; decide)]; rfl
theorem sorted_in {ws : List Wt} {ps : List Pl} : ∀ x ∈ sortedL ws ps, x ∈ ps := fun x hx => by
 unfold sortedL at hx
 obtain ⟨w, _, h1⟩ := List.mem_flatMap.1 hx
 obtain ⟨i, _, h2⟩ := List.mem_flatMap.1 h1
 exact (List.mem_filter.1 h2).1
set_option maxRecDepth 100000 in
set_option maxHeartbeats 8000000 in
theorem rsorted_any (A : Option Addr) (n c : Nat) (ws : List Wt) (B : Option Addr) (m d : Nat) (ps : List Pl) (w : World) (h : LS rWt 4 40 w A n c ws) (hp : LS rPl 3 32 w B m d ps) (hw : wantsB ws = true) (hmm : m ≤ 1000) :
  Calls Tryz.prog 22 #[.slice A n c, .slice B m d] w fun e w' => ∃ A' c', e = .returned (.slice A' (sortedL ws ps).length c') ∧ LS rPl 3 32 w' A' (sortedL ws ps).length c' (sortedL ws ps) ∧ Below w.heap.size w w' := by
 have hn := h.len_le
 have hm := hp.len_le
 have H := Lib.hid h
 have HP := Lib.hid hp
 have HL := Lib.hid h.1
 have HLP := Lib.hid hp.1
 have HW := Lib.hid hw
 have HN8 : Hid (n ≤ 8) := Lib.hid (by rw [← h.1]; exact wants_8 hw)
 have HMM := Lib.hid hmm
 have HOK : Hid (∀ x ∈ ps, okPl x) := Lib.hid (LS.okPl hp)
 clear h hp hw hmm
 go_enter Tryz.func22, Tryz.ntmps22
 go_wp2_with (first
  | ((with_reducible show OpW 9); refine wpList_bslice _ rfl 34 80 0 _ rfl #[] (by rw [List.map_toArray]; rfl) [] (bsl0_rpl _) ?_; intro w1 a1 a2 a3; have HB1 := Lib.hid a2; have HO1 : Hid (OwnC plL 3 80 w1 w.heap.size (.slice (some ⟨w.heap.size, 0, none⟩) 0 0) []) := Lib.hid (OwnC.nil' a1 (Nat.le_refl _)); clear a1 a2 a3))
 go_loopw [5, 6] (fun v iv wr => ∃ (i : Nat) (L : List Pl), i ≤ n ∧ iv = .int .i64 (i : Int) ∧ Hid (OwnC plL 3 80 wr w.heap.size v L) ∧ Hid (L = sortedL (ws.take i) ps ∧ L.length ≤ i * 16000) ∧ Hid (Below w.heap.size w wr)) (fun _ iv _ => n - (intOf iv).toNat)
 case atStart => exact ⟨0, [], by omega, rfl, HO1, Lib.hid ⟨rfl, Nat.zero_le _⟩, HB1⟩
 case round =>
  obtain ⟨i, L, hi, rfl, ho, hL, hb⟩ := hrel
  obtain ⟨wx, hwx⟩ : ∃ x, x = wr := ⟨_, rfl⟩
  rw [← hwx] at ho hb ⊢
  clear hwx
  by_cases hlt : i < n
  ·
   obtain ⟨y, g, o, cs, hs, ea, hat, hr⟩ := H.out.at_ stay_wt (Below.refl _ w) hlt
   obtain ⟨rfl, _⟩ := hr
   have hrg := wants_all HW.out (List.mem_of_getElem? hs)
   obtain ⟨t, ht⟩ : ∃ t : Nat, (t : Int) = y.to := ⟨y.to.toNat, by omega⟩
   have ht16 : t ≤ 16 := by omega
   have HNX := Lib.hid (sorted_next (ps := ps) hs ht)
   have HT := Lib.hid ht
   have HA := Lib.hid hat
   subst ea
   clear hs hat hrg ht
   go_wp2_with fail
   go_loopw [5, 7] (fun v uv wr => ∃ (u : Nat) (L1 : List Pl), u ≤ t ∧ uv = .int .i64 (u : Int) ∧ Hid (OwnC plL 3 80 wr w.heap.size v L1) ∧ Hid (L1 = L ++ (rngI u).flatMap (ixP ps y.st) ∧ L1.length ≤ i * 16000 + u * 1000) ∧ Hid (Below w.heap.size w wr)) (fun _ uv _ => t - (intOf uv).toNat)
   case atStart => exact ⟨0, L, by omega, rfl, ho, Lib.hid ⟨by simp [rngI], by have := hL.out.2; omega⟩, hb⟩
   case round =>
    obtain ⟨u, L1, hu, rfl, ho1, hL1, hb1⟩ := hrel
    obtain ⟨wy, hwy⟩ : ∃ x, x = wr := ⟨_, rfl⟩
    rw [← hwy] at ho1 hb1 ⊢
    clear hwy
    have HAy := Lib.hid (At.kept HA.out hb1.out)
    have p3 : wy.cell? ⟨g, o + i * 4 + 3, none⟩ = some (.int .i64 (t : Int)) := by rw [HT.out]; exact HAy.out 3 _ rfl
    have hiI : (i : Int) < (n : Int) := by omega
    by_cases hlt1 : u < t
    ·
     have HNU := Lib.hid (rng_flat (ixP ps y.st) u)
     go_wp2_with fail
     go_loopw [5, 8] (fun v jv wr => ∃ (j : Nat) (L2 : List Pl), j ≤ m ∧ jv = .int .i64 (j : Int) ∧ Hid (OwnC plL 3 80 wr w.heap.size v L2) ∧ Hid (L2 = L1 ++ ixP (ps.take j) y.st (u : Int) ∧ L2.length ≤ i * 16000 + u * 1000 + j) ∧ Hid (Below w.heap.size w wr)) (fun _ jv _ => m - (intOf jv).toNat)
     case atStart => exact ⟨0, L1, by omega, rfl, ho1, Lib.hid ⟨by simp [ixP], by have := hL1.out.2; omega⟩, hb1⟩
     case round =>
      obtain ⟨j, L2, hj, rfl, ho2, hL2, hb2⟩ := hrel
      obtain ⟨wz, hwz⟩ : ∃ x, x = wr := ⟨_, rfl⟩
      rw [← hwz] at ho2 hb2 ⊢
      clear hwz
      by_cases hlt2 : j < m
      ·
       obtain ⟨x, g', o', hx, ea, hat, _⟩ := HP.out.pl_at hb2.out hlt2
       subst ea
       have HNJ := Lib.hid (ix_next hx y.st (u : Int))
       have HAx := Lib.hid hat
       have HAz := Lib.hid (At.kept HA.out hb2.out)
       have q0 : wz.cell? ⟨g', o' + j * 3, none⟩ = some (.string (strB x.st)) := hat 0 _ rfl
       have q1 : wz.cell? ⟨g', o' + j * 3 + 1, none⟩ = some (.int .i64 x.ix) := hat 1 _ rfl
       have q2 : wz.cell? ⟨g, o + i * 4, none⟩ = some (.string (strB y.st)) := HAz.out 0 _ rfl
       have HBW := Lib.hid hb2.out.drew
       have HOW := Lib.hid (ho2.out.kept (Below.refl _ wz).drew)
       clear hat hx
       by_cases h1 : x.st = y.st
       ·
        have e1 : ((strB x.st).toList == (strB y.st).toList) = true := by rw [strB_eq, decide_eq_true h1]
        by_cases h2 : x.ix = (u : Int)
        ·
         have e2 : (x.ix == (u : Int)) = true := by rw [beq_iff_eq]; exact h2
         have HF : Hid (L2 ++ [x] = L1 ++ ixP (ps.take (j + 1)) y.st (u : Int) ∧ (L2 ++ [x]).length ≤ i * 16000 + u * 1000 + (j + 1)) := Lib.hid ⟨by rw [HNJ.out, if_pos ⟨h1, h2⟩, ← List.append_assoc, ← hL2.out.1], by rw [List.length_append]; have := hL2.out.2; simp; omega⟩
         have HLL : Hid (L2.length ≤ 200000) := Lib.hid (by have h8 := hL2.out.2; have h9 := HMM.out; have h7 := HN8.out; omega)
         clear h1 h2
         go_wp2_with fail
         refine Text.wp_region_text (fun _ => True) [(0, 4), (1, 4), (2, 4), (3, 4), (4, 4), (6, 4), (7, 4), (8, 4), (9, 4), (5, 1), (10, 1), (11, 4), (12, 4), (13, 4), (14, 4), (15, 4), (16, 4), (17, 4), (19, 4), (18, 1), (20, 4), (21, 4)] (by kernel_rfl) (by kernel_rfl) (fun _ _ _ _ _ h => h) (trivial) ?_
         iterate 9 (refine Text.purek rfl rfl (fun K hK => ⟨_, fun w' => by go_simp <;> rfl, ?_⟩); go_simp; refine hK _ ?_; clear hK K)
         iterate 2 (refine Text.readk rfl rfl (fun K hK => ⟨_, by go_simp <;> rfl, ?_⟩); go_simp; refine hK _ ?_; clear hK K)
         iterate 8 (refine Text.purek rfl rfl (fun K hK => ⟨_, fun w' => by go_simp <;> rfl, ?_⟩); go_simp; refine hK _ ?_; clear hK K)
         (refine Text.readk rfl rfl (fun K hK => ⟨_, by go_simp <;> rfl, ?_⟩); go_simp; refine hK _ ?_; clear hK K)
         iterate 2 (refine Text.purek rfl rfl (fun K hK => ⟨_, fun w' => by go_simp <;> rfl, ?_⟩); go_simp; refine hK _ ?_; clear hK K)
         refine Text.done ?_
         go_wp2_with (first
          | ((with_reducible show OpW 57); refine wpList_loadv _ rfl 80 (.tmp 56) rfl 3 (by kernel_rfl) g' (o' + j * 3) (plL x) (by go_simp) (At.kept HAx.out (Below.refl _ wz).drew) rfl ?_)
          | ((with_reducible show OpW 58); refine wpList_bslice _ rfl 34 80 1 _ rfl #[(0, .agg (plL x).toArray)] (by rw [List.map_toArray]; rfl) (plL x) (bsl1_rpl x _) ?_; intro w2 a1 a2 a3; have HG2 := Lib.hid a1; have HB2 := Lib.hid a2; clear a1 a2 a3)
          | ((with_reducible show OpW 59); obtain ⟨iS, i1, i2, i3, i4⟩ := info_some info_rpl; refine wpList_appRW _ rfl (.tmp 53) (.tmp 58) 34 80 3 iS _ rfl Tryz.underlying34 i1 i2 i3 rfl _ _ _ rfl (HOW.out.kept HB2.out).1 wz.drew.heap.size (plL x) rfl HG2.out rfl (one_pl x) (by rw [i4]; have := HLL.out; omega) (by have := HLL.out; omega) ?_; intro v' w3 ap; have HO3 := Lib.hid ((HOW.out.kept HB2.out).push ap (Nat.le_trans HBW.out.size HB2.out.size)); have HB3 := Lib.hid (low_kp (below_thenB HBW.out HBW.out.size HB2.out) ap.kp (fun i hi e => by have := HOW.out.2 i e; omega)); clear ap i1 i2 i3 i4))
         go_roundw
         case rel => exact ⟨j + 1, L2 ++ [x], by omega, by go_num, HO3, HF, HB3⟩
         case measure => simp [intOf]; omega
        ·
         have e2 : (x.ix == (u : Int)) = false := by rw [beq_eq_false_iff_ne]; exact h2
         have HF : Hid (L2 = L1 ++ ixP (ps.take (j + 1)) y.st (u : Int) ∧ L2.length ≤ i * 16000 + u * 1000 + (j + 1)) := Lib.hid ⟨by rw [HNJ.out, if_neg (fun h => h2 h.2), List.append_nil]; exact hL2.out.1, by have := hL2.out.2; omega⟩
         clear h1 h2
         go_wp2_with fail
         refine Text.wp_region_text (fun _ => True) [(0, 4), (1, 4), (2, 4), (3, 4), (4, 4), (6, 4), (7, 4), (8, 4), (9, 4), (5, 1), (10, 1), (11, 4), (12, 4), (13, 4), (14, 4), (15, 4), (16, 4), (17, 4), (19, 4), (18, 1), (20, 4), (21, 4)] (by kernel_rfl) (by kernel_rfl) (fun _ _ _ _ _ h => h) (trivial) ?_
         iterate 9 (refine Text.purek rfl rfl (fun K hK => ⟨_, fun w' => by go_simp <;> rfl, ?_⟩); go_simp; refine hK _ ?_; clear hK K)
         iterate 2 (refine Text.readk rfl rfl (fun K hK => ⟨_, by go_simp <;> rfl, ?_⟩); go_simp; refine hK _ ?_; clear hK K)
         iterate 8 (refine Text.purek rfl rfl (fun K hK => ⟨_, fun w' => by go_simp <;> rfl, ?_⟩); go_simp; refine hK _ ?_; clear hK K)
         (refine Text.readk rfl rfl (fun K hK => ⟨_, by go_simp <;> rfl, ?_⟩); go_simp; refine hK _ ?_; clear hK K)
         iterate 2 (refine Text.purek rfl rfl (fun K hK => ⟨_, fun w' => by go_simp <;> rfl, ?_⟩); go_simp; refine hK _ ?_; clear hK K)
         refine Text.done ?_
         go_wp2_with fail
         go_roundw
         case rel => exact ⟨j + 1, L2, by omega, by go_num, HOW, HF, HBW⟩
         case measure => simp [intOf]; omega
       ·
        have e1 : ((strB x.st).toList == (strB y.st).toList) = false := by rw [strB_eq, decide_eq_false h1]
        have HF : Hid (L2 = L1 ++ ixP (ps.take (j + 1)) y.st (u : Int) ∧ L2.length ≤ i * 16000 + u * 1000 + (j + 1)) := Lib.hid ⟨by rw [HNJ.out, if_neg (fun h => h1 h.1), List.append_nil]; exact hL2.out.1, by have := hL2.out.2; omega⟩
        clear h1
        go_wp2_with fail
        refine Text.wp_region_text (fun _ => True) [(0, 4), (1, 4), (2, 4), (3, 4), (4, 4), (6, 4), (7, 4), (8, 4), (9, 4), (5, 1), (10, 1), (11, 4), (12, 4), (13, 4), (14, 4), (15, 4), (16, 4), (17, 4), (18, 4), (19, 4), (20, 4), (21, 4)] (by kernel_rfl) (by kernel_rfl) (fun _ _ _ _ _ h => h) (trivial) ?_
        iterate 9 (refine Text.purek rfl rfl (fun K hK => ⟨_, fun w' => by go_simp <;> rfl, ?_⟩); go_simp; refine hK _ ?_; clear hK K)
        iterate 2 (refine Text.readk rfl rfl (fun K hK => ⟨_, by go_simp <;> rfl, ?_⟩); go_simp; refine hK _ ?_; clear hK K)
        iterate 2 (refine Text.purek rfl rfl (fun K hK => ⟨_, fun w' => by go_simp <;> rfl, ?_⟩); go_simp; refine hK _ ?_; clear hK K)
        iterate 8 (refine Text.skipk (.inr (.inr rfl)) rfl rfl (fun K hK => ?_); go_simp; refine hK _ ?_; clear hK K)
        (refine Text.purek rfl rfl (fun K hK => ⟨_, fun w' => by go_simp <;> rfl, ?_⟩); go_simp; refine hK _ ?_; clear hK K)
        refine Text.done ?_
        go_wp2_with fail
        go_roundw
        case rel => exact ⟨j + 1, L2, by omega, by go_num, HOW, HF, HBW⟩
        case measure => simp [intOf]; omega
      ·
       obtain rfl : j = m := by omega
       have HF : Hid (L2 = L ++ (rngI (u + 1)).flatMap (ixP ps y.st) ∧ L2.length ≤ i * 16000 + (u + 1) * 1000) := Lib.hid ⟨by rw [HNU.out, ← List.append_assoc, ← hL1.out.1, hL2.out.1, take_end HLP.out], by have := hL2.out.2; have := HMM.out; omega⟩
       go_wp2_with fail
       go_roundw
       case rel => exact ⟨u + 1, L2, by omega, by go_num, ho2, HF, hb2⟩
       case measure => simp [intOf]; omega
    ·
     obtain rfl : u = t := by omega
     have HF : Hid (L1 = sortedL (ws.take (i + 1)) ps ∧ L1.length ≤ (i + 1) * 16000) := Lib.hid ⟨by rw [HNX.out, ← hL.out.1]; exact hL1.out.1, by have := hL1.out.2; omega⟩
     go_wp2_with fail
     go_roundw
     case rel => exact ⟨i + 1, L1, by omega, by go_num, ho1, HF, hb1⟩
     case measure => simp [intOf]; omega
  ·
   obtain rfl : i = n := by omega
   have HF : Hid (L = sortedL ws ps) := Lib.hid (by rw [hL.out.1, take_end HL.out])
   obtain ⟨A', c', rfl, hls⟩ := ho.out.ls (R := rPl) (b := 32) plL_len' (fun x hx => ⟨rfl, HOK.out x (sorted_in x (by rw [← HF.out]; exact hx))⟩) (by have h8 := hL.out.2; have h9 := HN8.out; unfold lim; omega)
   have HLS := Lib.hid hls
   obtain ⟨N, hN⟩ : ∃ N, N = L.length := ⟨_, rfl⟩
   rw [← hN] at HLS ⊢
   have HNN := Lib.hid hN
   clear hls hN
   go_wp2_with fail
   go_ret
   exact ⟨A', c', by rw [← HF.out, ← HNN.out]; rfl, by rw [← HF.out, ← HNN.out]; exact HLS.out, hb.out⟩
end Go.Proofs.YtklfficlegfhjaaGreat
