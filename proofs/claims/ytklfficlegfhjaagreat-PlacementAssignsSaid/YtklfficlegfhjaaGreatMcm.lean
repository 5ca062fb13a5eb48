/- The reference's Choices: the walk. -/
import Derived.Test.YtklfficlegfhjaaGreatMbm
namespace Go.Proofs.YtklfficlegfhjaaGreat
open Go Go.RowKit Gf Sha

theorem OC.kpT {S : Nat → Prop} {w w' : World} {base : Nat} {v : Value} {L : List (List Int)} (h : OC w base v L) (hk : Kp S w w') (h1 : ∀ b, v.ownBlock = some b → ¬ S b) (h2 : ∀ b cs, BL w b 3 cs → ¬ S b) : OC w' base v L :=
 let ⟨css, k1, k2, k3, k4⟩ := h; ⟨css, k1, k2.kp hk h1, k3, fun k a b => (k4 k a b).kp hk (fun b' hb => let ⟨_, hc⟩ := (k4 k a b).1.ty hb; h2 b' _ hc)⟩
theorem OC.lt {w : World} {base : Nat} {A : Option Addr} {n c : Nat} {L : List (List Int)} (h : OC w base (.slice A n c) L) : ∀ a, A = some a → base ≤ a.block ∧ a.block < w.heap.size := fun a ha => by
 subst ha
 obtain ⟨css, k1, k2, k3, k4⟩ := h
 exact ⟨k3 a.block rfl, k2.lt rfl⟩
set_option maxRecDepth 100000 in
set_option maxHeartbeats 8000000 in
theorem rchoi_any : ∀ (k : Nat) (A : Option Addr) (n c : Nat) (L : List Int) (w : World), LS rInt 1 8 w A n c L → n ≤ 12 → k ≤ 100 →
  Calls Tryz.prog 75 #[.slice A n c, .int .i64 (k : Int)] w fun e w' => ∃ v, e = .returned v ∧ OC w' w.heap.size v (combos L k) ∧ Below w.heap.size w w' := by
 intro k
 induction k with
 | zero =>
  intro A n c L w _ _ _
  show Calls Tryz.prog 75 #[.slice A n c, .int .i64 0] w _
  go_enter Tryz.func75, Tryz.ntmps75
  go_wp2_with (first
   | ((with_reducible show OpW 11); refine wpList_bslice _ rfl 39 3 0 _ rfl #[] (by rw [List.map_toArray]; rfl) [] (bslI0 _) ?_; intro w1 a1 a2 a3; have HG1 := Lib.hid a1; have HX1 := Lib.hid a2; clear a1 a2 a3)
   | ((with_reducible show OpW 12); refine wpList_bslice _ rfl 97 39 1 _ rfl #[(0, .slice (some ⟨w.heap.size, 0, none⟩) 0 0)] (by rw [List.map_toArray]; rfl) [.slice (some ⟨w.heap.size, 0, none⟩) 0 0] (bslIs1 _ _ _ _) ?_; intro w2 a1 a2 a3; have HG2 := Lib.hid a1; have HX2 := Lib.hid (below_then HX1.out a2); have HG12 := Lib.hid (HG1.out.kept a2); clear a1 a2 a3))
  go_ret
  refine ⟨_, rfl, ?_, HX2.out⟩
  rw [combos_zero]
  exact OC.oneB HG2.out HX1.out.size (OwnI.nilB HG12.out (Nat.le_refl _))
 | succ k ih =>
  intro A n c L w hL hn12 hk100
  have hn := hL.len_le
  have H := Lib.hid hL
  have HLL := Lib.hid hL.1
  have IH := Lib.hid ih
  have HOK : Hid (∀ i ∈ L, wfI i) := Lib.hid (int_ok hL)
  have H4 : Hid ((combos L (k + 1)).length ≤ 4096) := Lib.hid (combos_4096 _ (by rw [hL.1]; exact hn12))
  obtain ⟨K, hK⟩ : ∃ K, K = k + 1 := ⟨_, rfl⟩
  have hKI : ((k + 1 : Nat) : Int) = (K : Int) := by rw [hK]
  rw [hKI]
  have f1 : ((K : Int) == 0) = false := by rw [beq_eq_false_iff_ne]; omega
  have hsub : IntKind.i64.wrap ((K : Int) - 1) = (k : Int) := by rw [IntWalk.i64_in _ (by omega)]; omega
  clear hL ih hKI hK
  go_enter Tryz.func75, Tryz.ntmps75
  go_wp2_with (first
   | ((with_reducible show OpW 13); refine wpList_bslice _ rfl 97 39 0 _ rfl #[] (by rw [List.map_toArray]; rfl) [] (bslIs0 _) ?_; intro w1 a1 a2 a3; have HX1 := Lib.hid a2; have HO1 : Hid (OC w1 w.heap.size (.slice (some ⟨w.heap.size, 0, none⟩) 0 0) []) := Lib.hid (OC.nilB a1 (Nat.le_refl _)); clear a1 a2 a3))
  go_loopw [5, 6] (fun ov iv wr => ∃ (i : Nat) (v : Value) (M : List (List Int)), i ≤ n ∧ iv = .int .i64 (i : Int) ∧ v = ov ∧ Hid (OC wr w.heap.size v M) ∧ Hid (M ++ combos (L.drop i) (k + 1) = combos L (k + 1)) ∧ Hid (Below w.heap.size w wr)) (fun _ iv _ => n - (intOf iv).toNat)
  case atStart => exact ⟨0, _, [], by omega, rfl, rfl, HO1, Lib.hid (by simp), HX1⟩
  case round =>
   obtain ⟨i, v, M, hi, rfl, rfl, ho, hM, hb⟩ := hrel
   obtain ⟨wx, hwx⟩ : ∃ x, x = wr := ⟨_, rfl⟩
   rw [← hwx] at ho hb ⊢
   clear hwx
   by_cases hlt : i < n
   ·
    obtain ⟨x, g, o, hx, ea, qw⟩ := H.out.int_at (Below.refl _ w) hlt
    have HQW := Lib.hid qw
    subst ea
    clear qw
    have hwi : IntKind.i64.wrap ((i : Int) + 1) = (i : Int) + 1 := IntWalk.i64_in _ (by omega)
    have HLx := Lib.hid (H.out.kept stay_int hb.out)
    have HCD := Lib.hid (combos_drop hx k)
    have HXL : Hid (x ∈ L) := Lib.hid (List.mem_of_getElem? hx)
    obtain ⟨R, hR⟩ : ∃ R, R = combos (L.drop (i + 1)) k := ⟨_, rfl⟩
    obtain ⟨N, hN⟩ : ∃ N, N = R.length := ⟨_, rfl⟩
    have HRE := Lib.hid hR
    have HNE := Lib.hid hN
    have hN4 : (N : Int) ≤ 4096 := by
     have h9 : (combos (L.drop (i + 1)) k).length ≤ 4096 := combos_4096 _ (by rw [List.length_drop, HLL.out]; omega)
     rw [hN, hR]; omega
    have HRM : Hid (∀ y ∈ R, (∀ z ∈ y, wfI z) ∧ y.length ≤ 1000) := Lib.hid (fun y hy => by
     rw [hR] at hy
     obtain ⟨h1, h2⟩ := combos_sub _ _ _ hy
     exact ⟨fun z hz => HOK.out z (List.mem_of_mem_drop (h1.subset hz)), by omega⟩)
    have hl2 := HLx.out.cutM (k := i + 1) (by omega)
    obtain ⟨A2, hA2⟩ : ∃ a, a = cutM (some ⟨g, o, none⟩) c (i + 1) 1 := ⟨_, rfl⟩
    obtain ⟨n2, hn2⟩ : ∃ a, a = n - (i + 1) := ⟨_, rfl⟩
    obtain ⟨c2, hc2⟩ : ∃ a, a = c - (i + 1) := ⟨_, rfl⟩
    rw [← hA2, ← hn2, ← hc2] at hl2
    have HL2 := Lib.hid hl2
    have HA2 := Lib.hid hA2
    have HN2 := Lib.hid hn2
    have HC2 := Lib.hid hc2
    have HN12 : Hid (n2 ≤ 12) := Lib.hid (by omega)
    have HK100 : Hid (k ≤ 100) := Lib.hid (by omega)
    clear hx hR hN hl2 hA2 hn2 hc2
    go_wp2_with (first
     | ((with_reducible show OpW 23); refine wpList_cutM rfl (.tmp 20) (.tmp 22) 39 3 1 rfl Tryz.underlying39 (szI _) (some ⟨g, o, none⟩) n c (i + 1) rfl (congrArg (Value.int .i64) (by omega)) (by omega) A2 n2 c2 HA2.out HN2.out HC2.out ?_)
     | (go_at_call 75; refine (IH.out A2 n2 c2 (L.drop (i + 1)) wx HL2.out HN12.out HK100.out).mono ?_; rintro e w3 ⟨v3, rfl, r1, r2⟩; rw [← HRE.out] at r1; obtain ⟨A3, c3, e3⟩ := r1.form; rw [← HNE.out] at e3; subst e3; have HR3 := Lib.hid (r1.low hb.out.size); have HB3 := Lib.hid (below_then hb.out r2); have HO3 := Lib.hid (ho.out.kept r2); have HF3 : Hid (∀ a, A3 = some a → wx.heap.size ≤ a.block ∧ a.block < w3.heap.size) := Lib.hid r1.lt; clear r1 r2))
    have HE3 : Hid (∀ b, v.ownBlock = some b → ∀ a, A3 = some a → b ≠ a.block) := Lib.hid (fun b hb' a ha => by
     obtain ⟨css, k1, k2, k3, k4⟩ := ho.out
     have h8 := k2.lt hb'
     have h9 := (HF3.out a ha).1
     omega)
    have HAL3 : Hid (∀ a, A3 = some a → a.block < w3.heap.size) := Lib.hid (fun a ha => (HF3.out a ha).2)
    go_loopw [5, 8] (fun ov jv wr => ∃ (j : Nat) (v : Value) (M1 : List (List Int)), j ≤ N ∧ jv = .int .i64 (j : Int) ∧ v = ov ∧ Hid (OC wr w.heap.size v M1) ∧ Hid (M1 = M ++ (R.take j).map (x :: ·)) ∧ Hid (Below w.heap.size w wr) ∧ Hid (OC wr w.heap.size (.slice A3 N c3) R) ∧ Hid (∀ b, v.ownBlock = some b → ∀ a, A3 = some a → b ≠ a.block) ∧ Hid (∀ a, A3 = some a → a.block < wr.heap.size)) (fun _ jv _ => N - (intOf jv).toNat)
    case atStart => exact ⟨0, v, M, by omega, rfl, rfl, HO3, Lib.hid (by simp), HB3, HR3, HE3, HAL3⟩
    case round =>
     obtain ⟨j, v1, M1, hj, rfl, rfl, ho1, hM1, hb1, hr1, he1, hal1⟩ := hrel
     obtain ⟨wz, hwz⟩ : ∃ x, x = wr := ⟨_, rfl⟩
     rw [← hwz] at ho1 hb1 hr1 hal1 ⊢
     clear hwz
     by_cases hlt2 : j < N
     ·
      have hjR : j < R.length := by rw [← HNE.out]; exact hlt2
      obtain ⟨y, hy⟩ : ∃ y, R[j]? = some y := ⟨_, List.getElem?_eq_getElem hjR⟩
      obtain ⟨g3, o3, c3', u, e3, q3, hu⟩ := hr1.out.at_ hy
      have hym := HRM.out y (List.mem_of_getElem? hy)
      obtain ⟨A4, c4, e4, hsr⟩ := int_src hu hym.1 hym.2
      obtain ⟨len, hlen⟩ : ∃ l, l = y.length := ⟨_, rfl⟩
      have HLEN : Hid (len ≤ 1000) := Lib.hid (by rw [hlen]; exact hym.2)
      rw [← hlen] at e4 hsr
      subst e4
      have HSR := Lib.hid hsr
      have HLN := Lib.hid hlen
      have eA : A3 = some ⟨g3, o3, none⟩ := by cases e3; rfl
      subst eA
      have HQ3 := Lib.hid q3
      have HNJ : Hid (M ++ (R.take (j + 1)).map (x :: ·) = M1 ++ [x :: y]) := Lib.hid (by rw [take_next hy, List.map_append, ← List.append_assoc, ← hM1.out]; rfl)
      have HL1 : Hid (M1.length ≤ 4096) := Lib.hid (by
       have h8 := congrArg List.length hM.out
       have h9 := H4.out
       rw [HCD.out, ← HRE.out, List.length_append, List.length_append, List.length_map] at h8
       rw [hM1.out, List.length_append, List.length_map, List.length_take]
       omega)
      have q0 : wz.drew.cell? ⟨g, o + i, none⟩ = some (.int .i64 x) := cell_kept hb1.out.drew HQW.out
      have q3d : wz.drew.cell? ⟨g3, o3 + j, none⟩ = some (.slice A4 len c4) := q3
      have hiI : (i : Int) < (n : Int) := by omega
      have hb0 := hb1.out.size
      clear hy e3 hu hym hsr hlen q3 hjR
      go_wp2_with fail
      refine Text.wp_region_text (fun w' => w'.cell? ⟨g3, o3 + j, none⟩ = some (.slice A4 len c4)) [(0, 4), (1, 4), (2, 4), (3, 4), (6, 4), (7, 4), (8, 4), (9, 0), (4, 1), (5, 2), (10, 2), (11, 2), (12, 3), (13, 4)] (by kernel_rfl) (by kernel_rfl) (fun _ _ _ _ _ h => h) (q3d) ?_
      iterate 7 (refine Text.purek rfl rfl (fun K hK => ⟨_, fun w' => by go_simp <;> rfl, ?_⟩); go_simp; refine hK _ ?_; clear hK K)
      (refine Text.heldk rfl rfl (fun K hK => ⟨_, fun w' hw' => by go_simp <;> rfl, ?_⟩); go_simp; refine hK _ ?_; clear hK K)
      (refine Text.readk rfl rfl (fun K hK => ⟨_, by go_simp <;> rfl, ?_⟩); go_simp; refine hK _ ?_; clear hK K)
      refine Text.eff rfl rfl (fun K hK => ?_)
      refine wp_bslice 39 3 1 _ rfl #[(0, .int .i64 x)] (by rw [List.map_toArray]; rfl) [.int .i64 x] (bslI _ _) ?_
      intro w5 a1 a2 a3
      have HG5 := Lib.hid a1
      have HX5 : Hid (Below wz.heap.size wz w5) := Lib.hid ((Below.refl _ wz).drew.trans a2)
      clear a1 a2 a3
      refine hK _ _ (cell_kept HX5.out HQ3.out) ?_
      clear hK K
      refine Text.eff rfl rfl (fun K hK => ?_)
      obtain ⟨iS, i1, i2, i3, i4⟩ := info_some infoI
      refine wp_appX _ (.tmp 38) (.tmp 42) 39 3 1 iS _ rfl Tryz.underlying39 i1 i2 i3 rfl _ 1 [.int .i64 x] rfl (RW.of_blk (n := 1) HG5.out (by simp) (by decide)) _ len (iL y) rfl (HSR.out _ HX5.out) (by rw [i4]; have := HLEN.out; omega) (by have := HLEN.out; omega) ?_
      intro v6 w6 ap
      have HX6 : Hid (Below wz.heap.size wz w6) := Lib.hid (low_kp HX5.out ap.kp (fun i hi e => by have e' : wz.heap.size = i := Option.some.inj e; omega))
      have HU6 : Hid (OwnI w6 w.heap.size v6 (x :: y)) := Lib.hid ⟨by
       have h9 := ap.row
       rw [Nat.add_comm, HLN.out] at h9
       exact h9, fun b e => (ap.own b e).elim (fun e => by have e' : wz.heap.size = b := Option.some.inj e; omega) (fun h => by have := HX5.out.size; omega)⟩
      obtain ⟨A6, n6, c6, e6⟩ : ∃ A n c, v6 = .slice A n c := by
       obtain ⟨A, c, e, _⟩ := ap.row.form
       exact ⟨_, _, _, e⟩
      clear ap i1 i2 i3 i4
      subst e6
      refine hK _ _ (cell_kept HX6.out HQ3.out) ?_
      clear hK K
      refine Text.eff rfl rfl (fun K hK => ?_)
      refine wp_bslice 97 39 1 _ rfl #[(0, .slice A6 n6 c6)] (by rw [List.map_toArray]; rfl) [.slice A6 n6 c6] (bslIs1 _ _ _ _) ?_
      intro w7 a1 a2 a3
      have HG7 := Lib.hid a1
      have HX7 : Hid (Below wz.heap.size wz w7) := Lib.hid (below_thenB HX6.out HX6.out.size a2)
      have HU7 := Lib.hid (HU6.out.kept a2)
      clear a1 a2 a3
      refine hK _ _ (cell_kept HX7.out HQ3.out) ?_
      clear hK K
      refine Text.last rfl rfl (fun K hK => ?_)
      obtain ⟨css, g1, g2, g4, g5⟩ := (ho1.out.kept HX7.out)
      obtain ⟨iS, i1, i2, i3, i4⟩ := info_some infoIs
      refine wp_appRW _ (.tmp 33) (.tmp 44) 97 39 1 iS _ rfl Tryz.underlying97 i1 i2 i3 rfl _ _ _ rfl g2 _ _ rfl HG7.out rfl (fun u hu => by rw [List.mem_singleton.1 hu]; rfl) (by rw [i4]; have := HL1.out; omega) (by have := HL1.out; omega) ?_
      intro v8 w8 ap
      have hsz := HX7.out.size
      have HO8 : Hid (OC w8 w.heap.size v8 (M1 ++ [x :: y])) := Lib.hid (OC.push g1 g2 g4 g5 HU7.out (by omega) ap)
      have HB8 : Hid (Below w.heap.size w w8) := Lib.hid (low_kp (below_thenB hb1.out hb1.out.size HX7.out) ap.kp (fun i hi e => by have := g4 i e; omega))
      have HR8 : Hid (OC w8 w.heap.size (.slice (some ⟨g3, o3, none⟩) N c3) R) := Lib.hid ((hr1.out.kept HX7.out).kpT ap.kp (fun b hb e => he1.out b e _ rfl (by cases hb; rfl)) (fun b cs hc e => g2.ne_bl hc (by decide) b e rfl))
      have HE8 : Hid (∀ b, v8.ownBlock = some b → ∀ a, (some ⟨g3, o3, none⟩ : Option Addr) = some a → b ≠ a.block) := Lib.hid (fun b hb a ha => (ap.own b hb).elim (fun e => he1.out b e a ha) (fun e => by have h8 := hal1.out a ha; omega))
      have HAL8 : Hid (∀ a, (some ⟨g3, o3, none⟩ : Option Addr) = some a → a.block < w8.heap.size) := Lib.hid (fun a ha => by have h8 := hal1.out a ha; have h7 := ap.kp.size; omega)
      clear ap i1 i2 i3 i4 g1 g2 g4 g5 hsz
      refine hK _ _ ?_
      clear hK K
      (refine Text.purek rfl rfl (fun K hK => ⟨_, fun w' => by go_simp <;> rfl, ?_⟩); go_simp; refine hK _ ?_; clear hK K)
      refine Text.done ?_
      go_wp2_with fail
      go_roundw
      case rel => exact ⟨j + 1, v8, M1 ++ [x :: y], by omega, by go_num, rfl, HO8, Lib.hid HNJ.out.symm, HB8, HR8, HE8, HAL8⟩
      case measure => simp [intOf]; omega
     ·
      obtain rfl : j = N := by omega
      have HF : Hid (M1 ++ combos (L.drop (i + 1)) (k + 1) = combos L (k + 1)) := Lib.hid (by rw [hM1.out, take_end HNE.out.symm, ← hM.out, HCD.out, ← HRE.out, List.append_assoc])
      go_wp2_with fail
      go_roundw
      case rel => exact ⟨i + 1, v1, M1, by omega, by go_num, rfl, ho1, HF, hb1⟩
      case measure => simp [intOf]; omega
   ·
    obtain rfl : i = n := by omega
    have HF : Hid (M = combos L (k + 1)) := Lib.hid (by
     have := hM.out
     rw [List.drop_eq_nil_of_le (by rw [HLL.out]; exact Nat.le_refl _)] at this
     simpa [combos] using this)
    go_wp2_with fail
    go_ret
    exact ⟨_, rfl, by rw [← HF.out]; exact ho.out, hb.out⟩
end Go.Proofs.YtklfficlegfhjaaGreat
