/- The reference's Add. -/
import Derived.Test.YtklfficlegfhjaaGreatLrm
namespace Go.Proofs.YtklfficlegfhjaaGreat
open Go Go.RowKit Gf Sha

theorem bslRpA (p : Pl) (w : World) : (Instr.buildSlice 34 1 #[(0, .agg #[.string (strB p.st), .int .i64 p.ix, .int .i64 p.dv])]).run Tryz.prog w = .ok (.slice (some ⟨w.heap.size, 0, none⟩) 1 1) (w.alloc (.cells (plL p).toArray 80)) := by kernel_rfl
theorem bldRpA (s : List UInt8) (i d : Int) (w : World) : (Instr.build 80 #[(0, .agg #[.string (strB s), .int .i64 i]), (1, .int .i64 d)]).run Tryz.prog w = .ok (.agg #[.string (strB s), .int .i64 i, .int .i64 d]) w := by kernel_rfl
abbrev zipA (y : Wt) (ps : List Pl) (ds : List Int) : List Pl := ((withoutL y ps).zip ds).map (fun x => ⟨y.st, x.1, x.2⟩)
theorem zip_at {y : Wt} {ps : List Pl} {ds : List Int} {i : Nat} {a b : Int} (h1 : (withoutL y ps)[i]? = some a) (h2 : ds[i]? = some b) : (zipA y ps ds)[i]? = some ⟨y.st, a, b⟩ := by
 unfold zipA
 rw [List.getElem?_map, show ((withoutL y ps).zip ds)[i]? = some (a, b) from by rw [List.getElem?_zip_eq_some]; exact ⟨h1, h2⟩]; rfl
theorem int_ok {w : World} {A : Option Addr} {n c : Nat} {L : List Int} (h : LS rInt 1 8 w A n c L) : ∀ x ∈ L, wfI x := fun x hx => by
 obtain ⟨k, hk, rfl⟩ := List.getElem_of_mem hx
 obtain ⟨g, o, cs, _, _, h3⟩ := h.2.2.2 k hk
 exact h3.2
set_option maxRecDepth 100000 in
set_option maxHeartbeats 4000000 in
theorem radd_any (y : Wt) (B : Option Addr) (m d : Nat) (ps : List Pl) (D : Option Addr) (k e : Nat) (ds : List Int) (w : World) (hy : wtB y = true) (hoy : okWt y) (hp : LS rPl 3 32 w B m d ps) (hd : LS rInt 1 8 w D k e ds) (hkk : k ≤ (withoutL y ps).length) (hmm : m ≤ 100000) :
  Calls Tryz.prog 20 #[.agg (wtL y).toArray, .slice B m d, .slice D k e] w fun e w' => ∃ A' c', e = .returned (.slice A' (addL y ps ds).length c') ∧ LS rPl 3 32 w' A' (addL y ps ds).length c' (addL y ps ds) ∧ Below w.heap.size w w' ∧ ∀ a, A' = some a → w.heap.size < a.block := by
 have hm := hp.len_le
 have hk9 := hd.len_le
 have HP := Lib.hid hp
 have HD := Lib.hid hd
 have HY := Lib.hid hy
 have HL := Lib.hid hp.1
 obtain ⟨css, s1, s2, s3, s4⟩ := hp.src (P := Tryz.prog) (len_pl (w := w)) ones_pl Tryz.underlying34
 have HCP := Lib.hid (css_pl s1 s3)
 have HSP := Lib.hid s4
 have HMM := Lib.hid hmm
 have HOK : Hid (∀ x ∈ addL y ps ds, okPl x) := Lib.hid (add_okPl hoy hy (LS.okPl hp) (int_ok hd))
 have HZL : Hid ((zipA y ps ds).length = k) := Lib.hid (by unfold zipA; rw [List.length_map, List.length_zip, hd.1]; omega)
 obtain ⟨N, hN⟩ : ∃ N, N = (withoutL y ps).length := ⟨_, rfl⟩
 have hkN : k ≤ N := by rw [hN]; exact hkk
 have HNN := Lib.hid hN
 have HK16 : Hid (k ≤ 16) := Lib.hid (by
  have h9 : (withoutL y ps).length ≤ y.to.toNat := by
   unfold withoutL
   refine Nat.le_trans (List.length_filter_le _ _) ?_
   rw [upI_length]; exact Nat.le_refl _
  have : 1 ≤ y.sz ∧ y.sz ≤ 65536 ∧ 1 ≤ y.da ∧ y.da ≤ 8 ∧ y.da ≤ y.to ∧ y.to ≤ 16 := by simpa [wtB] using hy
  omega)
 clear hp hd hy hoy hkk hmm s1 s2 s3 s4 hN
 go_enter Tryz.func20, Tryz.ntmps20
 go_wp2_with (first
  | ((with_reducible show OpW 3); refine wpList_box _ rfl 42 (.tmp 0) rfl (wtL y) rfl ?_; intro w1 a1 a2 a3; have HV1 := Lib.hid a1; have HX1 := Lib.hid a2; clear a1 a2 a3)
  | ((with_reducible show OpW 10); refine wpList_bslice _ rfl 34 80 0 _ rfl #[] (by rw [List.map_toArray]; rfl) [] (bsl0_rpl _) ?_; intro w2 a1 a2 a3; have HG2 := Lib.hid a1; have HX2 := Lib.hid (below_then HX1.out a2); have HV2 := Lib.hid (HV1.out.kept a2); clear a1 a2 a3)
  | ((with_reducible show OpW 12); obtain ⟨iS, i1, i2, i3, i4⟩ := info_some info_rpl; refine wpList_appX _ rfl (.tmp 10) (.tmp 11) 34 80 3 iS _ rfl Tryz.underlying34 i1 i2 i3 rfl _ 0 [] rfl (RW.of_blk (n := 0) HG2.out (by simp) (by decide)) _ m _ rfl (HSP.out _ HX2.out) (by rw [i4]; have := HMM.out; omega) (by have := HMM.out; omega) ?_; intro v3 w3 ap; have HB3 := Lib.hid (low_kp HX2.out ap.kp (fun i hi e => by have e' : w1.heap.size = i := Option.some.inj e; have := HX1.out.size; omega)); have HV3 : Hid (BL w3 w.heap.size 42 (wtL y)) := Lib.hid (ap.kp.bl HV2.out (fun e => by have e' : w1.heap.size = w.heap.size := Option.some.inj e; have := HV1.out.lt; omega)); have HO3 : Hid (OwnC plL 3 80 w3 (w.heap.size + 1) v3 ps) := Lib.hid ⟨by have h9 := ap.row; rw [HCP.out, List.nil_append, Nat.zero_add] at h9; rw [HL.out]; exact h9, fun b hb => (ap.own b hb).elim (fun e => by cases e; exact HV1.out.lt) (fun e => by have := HV2.out.lt; omega)⟩; clear ap i1 i2 i3 i4)
  | ((with_reducible show OpW 13); refine wpList_loadv _ rfl 42 (.tmp 3) rfl 4 (by kernel_rfl) w.heap.size 0 (wtL y) rfl (BL.all HV3.out) rfl ?_)
  | (go_at_call 19; refine (rwithout_any y B m d ps w3 HY.out (HP.out.kept stay_pl HB3.out)).mono ?_; rintro e w4 ⟨A4, c4, rfl, r1, r2, r3⟩; rw [← HNN.out] at r1 ⊢; have HW4 := Lib.hid r1; have HE4 : Hid (∀ b, v3.ownBlock = some b → ∀ a, A4 = some a → b ≠ a.block) := Lib.hid (fun b hb a ha => by have h8 := (r3 a ha).1; have h9 := HO3.out.1.lt hb; omega); have HA4 : Hid (∀ a, A4 = some a → a.block < w4.heap.size) := Lib.hid (fun a ha => (r3 a ha).2); have HB4 := Lib.hid (below_then HB3.out r2); have HV4 := Lib.hid (HV3.out.kept r2); have HO4 := Lib.hid (HO3.out.kept r2); clear r1 r2 r3))
 go_loopw [7, 9] (fun v iv wr => ∃ i : Nat, i ≤ k ∧ iv = .int .i64 (i : Int) ∧ Hid (OwnC plL 3 80 wr (w.heap.size + 1) v (ps ++ (zipA y ps ds).take i)) ∧ Hid (Below w.heap.size w wr) ∧ Hid (BL wr w.heap.size 42 (wtL y)) ∧ Hid (LS rInt 1 8 wr A4 N c4 (withoutL y ps)) ∧ Hid (∀ b, v.ownBlock = some b → ∀ a, A4 = some a → b ≠ a.block) ∧ Hid (∀ a, A4 = some a → a.block < wr.heap.size)) (fun _ iv _ => k - (intOf iv).toNat)
 case atStart => exact ⟨0, by omega, rfl, Lib.hid (by simpa using HO4.out), HB4, HV4, HW4, HE4, HA4⟩
 case round =>
  obtain ⟨i, hi, rfl, ho, hb, hv, hw, he, hal⟩ := hrel
  obtain ⟨wx, hwx⟩ : ∃ x, x = wr := ⟨_, rfl⟩
  rw [← hwx] at ho hb hv hw hal ⊢
  clear hwx
  by_cases hlt : i < k
  ·
   obtain ⟨a, ga, oa, ha, ea, q1⟩ := hw.out.int_at (Below.refl _ wx).drew (k := i) (by omega)
   obtain ⟨b, gb, ob, hb', eb, q2⟩ := HD.out.int_at hb.out.drew hlt
   have HN : Hid (ps ++ (zipA y ps ds).take (i + 1) = ps ++ (zipA y ps ds).take i ++ [⟨y.st, a, b⟩]) := Lib.hid (by rw [take_next (zip_at ha hb'), List.append_assoc])
   have HLN : Hid ((ps ++ (zipA y ps ds).take i).length ≤ 100016) := Lib.hid (by rw [List.length_append, HL.out, List.length_take]; have := HK16.out; have := HMM.out; omega)
   have q0 : wx.drew.cell? ⟨w.heap.size, 0, none⟩ = some (.string (strB y.st)) := hv.out.drew.get (j := 0) rfl
   have hiN : i < N := by omega
   have hiNI : (i : Int) < (N : Int) := by omega
   have HHW := Lib.hid hw.out
   subst ea eb
   clear ha hb'
   go_wp2_with fail
   refine Text.wp_region_text (fun _ => True) [(0, 4), (1, 4), (3, 4), (4, 4), (5, 4), (8, 4), (9, 4), (10, 4), (2, 1), (6, 1), (7, 0), (11, 1), (12, 0), (13, 2), (14, 3), (15, 4)] (by kernel_rfl) (by kernel_rfl) (fun _ _ _ _ _ h => h) (trivial) ?_
   iterate 8 (refine Text.purek rfl rfl (fun K hK => ⟨_, fun w' => by go_simp <;> rfl, ?_⟩); go_simp; refine hK _ ?_; clear hK K)
   iterate 2 (refine Text.readk rfl rfl (fun K hK => ⟨_, by go_simp <;> rfl, ?_⟩); go_simp; refine hK _ ?_; clear hK K)
   refine Text.heldk rfl rfl (fun K hK => ?_)
   refine ⟨_, fun w' hw' => exec_bld rfl (ps := #[(0, .string (strB y.st)), (1, .int .i64 a)]) (by rw [List.map_toArray]; rfl) (bldPic _ _ _), ?_⟩
   refine hK _ ?_
   clear hK K
   (refine Text.readk rfl rfl (fun K hK => ⟨_, by go_simp <;> rfl, ?_⟩); go_simp; refine hK _ ?_; clear hK K)
   refine Text.heldk rfl rfl (fun K hK => ?_)
   refine ⟨_, fun w' hw' => exec_bld rfl (ps := #[(0, .agg #[.string (strB y.st), .int .i64 a]), (1, .int .i64 b)]) (by rw [List.map_toArray]; rfl) (bldRpA _ _ _ _), ?_⟩
   refine hK _ ?_
   clear hK K
   refine Text.eff rfl rfl (fun K hK => ?_)
   refine wp_bslice 34 80 1 _ rfl #[(0, .agg #[.string (strB y.st), .int .i64 a, .int .i64 b])] (by rw [List.map_toArray]; rfl) (plL ⟨y.st, a, b⟩) (bslRpA ⟨y.st, a, b⟩ _) ?_
   intro w5 a1 a2 a3
   have HG5 := Lib.hid a1
   have HX5 : Hid (Below wx.heap.size wx w5) := Lib.hid ((Below.refl _ wx).drew.trans a2)
   have HB5 := Lib.hid (below_thenB hb.out hb.out.size HX5.out)
   have HV5 := Lib.hid (hv.out.kept HX5.out)
   have HO5 := Lib.hid (ho.out.kept HX5.out)
   have HW5 := Lib.hid (HHW.out.kept stay_int HX5.out)
   clear a1 a2 a3
   refine hK _ _ trivial ?_
   clear hK K
   refine Text.last rfl rfl (fun K hK => ?_)
   obtain ⟨iS, i1, i2, i3, i4⟩ := info_some info_rpl
   refine wp_appRW _ (.tmp 22) (.tmp 35) 34 80 3 iS _ rfl Tryz.underlying34 i1 i2 i3 rfl _ _ _ rfl HO5.out.1 _ _ rfl HG5.out rfl (one_pl _) (by rw [i4]; have := HLN.out; omega) (by have := HLN.out; omega) ?_
   intro v' w6 ap
   have HO6 : Hid (OwnC plL 3 80 w6 (w.heap.size + 1) v' (ps ++ (zipA y ps ds).take i ++ [⟨y.st, a, b⟩])) := Lib.hid (HO5.out.push (C := plL) (x := ⟨y.st, a, b⟩) ap HV5.out.lt)
   have HV6 : Hid (BL w6 w.heap.size 42 (wtL y)) := Lib.hid (ap.kp.bl HV5.out (fun e => by have := HO5.out.2 _ e; omega))
   have HB6 : Hid (Below w.heap.size w w6) := Lib.hid (low_kp HB5.out ap.kp (fun b hb e => by have := HO5.out.2 b e; omega))
   have HW6 : Hid (LS rInt 1 8 w6 (some ⟨ga, oa, none⟩) N c4 (withoutL y ps)) := Lib.hid (LS.kpI HW5.out ap.kp (fun a ha e => he.out _ e a ha rfl))
   have HE6 : Hid (∀ b, v'.ownBlock = some b → ∀ a, (some ⟨ga, oa, none⟩ : Option Addr) = some a → b ≠ a.block) := Lib.hid (fun b hb a ha => (ap.own b hb).elim (fun e => he.out b e a ha) (fun e => by have h8 := hal.out a ha; have h9 := HX5.out.size; omega))
   have HAL6 : Hid (∀ a, (some ⟨ga, oa, none⟩ : Option Addr) = some a → a.block < w6.heap.size) := Lib.hid (fun a ha => by have h8 := hal.out a ha; have h9 := HX5.out.size; have h7 := ap.kp.size; omega)
   clear ap i1 i2 i3 i4
   refine hK _ _ ?_
   clear hK K
   (refine Text.purek rfl rfl (fun K hK => ⟨_, fun w' => by go_simp <;> rfl, ?_⟩); go_simp; refine hK _ ?_; clear hK K)
   refine Text.done ?_
   go_wp2_with fail
   go_roundw
   case rel => exact ⟨i + 1, by omega, by go_num, by rw [HN.out]; exact HO6, HB6, HV6, HW6, HE6, HAL6⟩
   case measure => simp [intOf]; omega
  ·
   obtain rfl : i = k := by omega
   have e1 : ps ++ (zipA y ps ds).take i = addL y ps ds := by rw [take_end HZL.out]; rfl
   rw [e1] at ho
   have HOWN := Lib.hid ho.out.2
   obtain ⟨A', c', rfl, hls⟩ := ho.out.ls (R := rPl) (b := 32) plL_len' (fun x hx => ⟨rfl, HOK.out x hx⟩) (by rw [← e1, List.length_append, HL.out, List.length_take, HZL.out]; have := HK16.out; have := HMM.out; unfold lim; omega)
   have HLS := Lib.hid hls
   obtain ⟨M, hM⟩ : ∃ M, M = (addL y ps ds).length := ⟨_, rfl⟩
   rw [← hM] at HLS ⊢
   have HMN := Lib.hid hM
   clear hls hM
   go_wp2_with fail
   go_ret
   exact ⟨A', c', by rw [← HMN.out]; rfl, by rw [← HMN.out]; exact HLS.out, hb.out, fun a ha => by subst ha; exact HOWN.out a.block rfl⟩
end Go.Proofs.YtklfficlegfhjaaGreat
