/- The reference's Whole. -/
import Derived.Test.YtfcakjpljjnjnaaGreatDoorBlm
namespace Go.Proofs.YtfcakjpljjnjnaaGreatDoor
open Go Go.RowKit Go.Shelf Gf Sha

theorem tkR_full {s : Sp} {st : List Int × List (List UInt8)} (h : (st.2.length : Int) = s.d) : ∀ r, tkR s st r = st
 | [] => rfl
 | p :: r => by unfold tkR; rw [if_pos h]
theorem tkR_skip {s : Sp} {st : List Int × List (List UInt8)} {p : Pe} {r : List Pe} (h : tkS s st p = st ∨ (st.2.length : Int) = s.d) : tkR s st (p :: r) = tkR s st r := by
 by_cases hf : (st.2.length : Int) = s.d
 ·
  rw [tkR_full hf, tkR_full hf]
 ·
  rw [tkR, if_neg hf]
  rcases h with h | h
  ·
   rw [h]
  ·
   exact absurd h hf
theorem zerB_eq (x : List UInt8) : zerB x = decide (x = zeros x.length) := by
 unfold zerB zeros
 rw [Bool.eq_iff_iff, List.all_eq_true, decide_eq_true_eq, List.eq_replicate_iff]
 simp
theorem cont_take {l : List Int} {j : Nat} {x y : Int} (h : l[j]? = some y) : (l.take (j + 1)).contains x = ((l.take j).contains x || (y == x)) := by
 rw [List.take_add_one, h, Bool.eq_iff_iff]
 simp only [List.contains_iff_mem, Bool.or_eq_true, beq_iff_eq, Option.toList_some, List.mem_append, List.mem_singleton]
 constructor
 ·
  rintro (h | h)
  ·
   exact .inl h
  ·
   exact .inr h.symm
 ·
  rintro (h | h)
  ·
   exact .inl h
  ·
   exact .inr h.symm
def WhoR (s : Sp) (ps : List Pe) (w : World) (e : Ending) (w' : World) : Prop := ∃ v, e = .returned (.tuple #[v, .int .i64 (resE s ps).1]) ∧ ((resE s ps).1 = 0 → OLn rPe 4 48 w.heap.size w' v (resE s ps).2) ∧ Below w.heap.size w w'
section
set_option maxRecDepth 100000
set_option maxHeartbeats 16000000
theorem rwhole_any (cs : List Value) (s : Sp) (A : Option Addr) (n c : Nat) (ps : List Pe) (w : World) (hs : rSp w cs s) (hv : spB s = true) (hp : LS rPe 4 72 w A n c ps) (hT : Tabs w) (hn : n ≤ 1000) :
  Calls Tryz.prog 28 #[.agg cs.toArray, .slice A n c] w (WhoR s ps w) := by
 have HSP := Lib.hid hs
 have HVB := Lib.hid hv
 have HCD := Lib.hid (spB_spec hv).2.1
 have HP := Lib.hid hp
 have HPL := Lib.hid hp.1
 have HT := Lib.hid hT
 obtain ⟨R, rn, e, rfl, hrf, _⟩ := hs
 have HRN : Hid (s.refs.length = rn ∧ (rn : Int) ≤ s.d) := Lib.hid ⟨hrf.1, by rw [← hrf.1]; exact (spB_spec hv).2.2.2⟩
 have HD8 : Hid (0 ≤ s.d ∧ s.d ≤ 8) := Lib.hid (by have h9 := (spB_spec hv).2.1; unfold cdB at h9; simp only [Bool.and_eq_true, decide_eq_true_eq] at h9; omega)
 obtain ⟨FIN, hFIN⟩ : ∃ z, z = tkR s ([], []) ps := ⟨_, rfl⟩
 have HFIN := Lib.hid hFIN.symm
 have HOK9 : Hid (TkOk s FIN) := Lib.hid (by rw [hFIN]; exact TkOk.run ps (TkOk.nil HD8.out.1))
 clear hv hp hT hrf hFIN
 go_enter Tryz.func28, Tryz.ntmps28
 go_wp2_with (first
  | ((with_reducible show OpW 2); refine wpList_box _ rfl 26 (.tmp 0) rfl (spC s R rn e) rfl ?_; intro w1 y1 y2 y3; have HV1 := Lib.hid y1; have HB1 := Lib.hid y2; clear y1 y2 y3))
 have HP1 := Lib.hid (HP.out.kept stay_pe HB1.out)
 go_loopw [6, 7, 19] (fun vi vg iv wr => ∃ (k : Nat) (st : List Int × List (List UInt8)), k ≤ n ∧ iv = .int .i64 (k : Int) ∧ Hid (OL rInt 1 3 w1 wr vi st.1) ∧ Hid (OL rBs 1 39 w1 wr vg st.2) ∧ Hid (Below w1.heap.size w1 wr) ∧ Hid (tkR s st (ps.drop k) = FIN) ∧ Hid (TkOk s st)) (fun _ _ iv _ => n - (intOf iv).toNat)
 case atStart => exact ⟨0, ([], []), by omega, rfl, Lib.hid (OL.nil _ _ _ _ _), Lib.hid (OL.nil _ _ _ _ _), Lib.hid (Below.refl _ _), HFIN, Lib.hid (TkOk.nil HD8.out.1)⟩
 case round =>
  obtain ⟨k, st, hk, rfl, hli, hlg, hb, hfn, hok⟩ := hrel
  obtain ⟨wx, hwx⟩ : ∃ x, x = wr := ⟨_, rfl⟩
  rw [← hwx] at hli hlg hb ⊢
  clear hwx
  obtain ⟨Ai, ci, evi, hls⟩ := hli.out.ls (b := 8) stay_int hb.out (by have h8 := hok.out.len; have h9 := hok.out.le; have h7 := HD8.out; unfold lim; omega)
  obtain ⟨Ag, cg, evg, hlb⟩ := hlg.out.ls (b := 24) stay_bs hb.out (by have h9 := hok.out.le; have h7 := HD8.out; unfold lim; omega)
  obtain ⟨ng, hng⟩ : ∃ z, z = st.2.length := ⟨_, rfl⟩
  have hni : st.1.length = ng := by rw [hng]; exact hok.out.len
  rw [hni] at evi hls
  rw [← hng] at evg hlb
  subst evi
  subst evg
  have HLS := Lib.hid hls
  have HLB := Lib.hid hlb
  have HNG := Lib.hid hng
  have HNI := Lib.hid hni
  have hngd : (ng : Int) ≤ s.d := by rw [hng]; exact hok.out.le
  have hng8 : ng ≤ 8 := by have := HD8.out; omega
  clear hls hlb hng hni
  by_cases hlt : k < n
  ·
   obtain ⟨p, g, o, cs9, hpk, ea, hat0, hrw⟩ := HP1.out.at_ stay_pe (Below.refl _ _) hlt
   have HA := Lib.hid (At.kept hat0 hb.out)
   have HRW := Lib.hid hrw
   obtain ⟨A', n', c', B', m', d', rfl, hbs, _, _, hix⟩ := hrw
   have HBS0 : Hid (rBs w1 [.slice A' n' c'] p.da) := Lib.hid ⟨A', n', c', rfl, hbs⟩
   have HIX := Lib.hid hix
   have HDR := Lib.hid (drop_atP hpk)
   have hfn9 := hfn.out
   rw [HDR.out] at hfn9
   have HFN := Lib.hid hfn9
   subst ea
   clear hat0 hbs hix hpk hfn9
   obtain ⟨fb, hfb⟩ : ∃ b, b = sfiB s p := ⟨_, rfl⟩
   have HFB := Lib.hid hfb.symm
   clear hfb
   go_wp2_with (first
    | ((with_reducible show OpW 22); refine wpList_loadv _ rfl 48 (.tmp 21) rfl 4 (by kernel_rfl) g (o + k * 4) (peC p A' n' c' B' m' d') (by go_simp) HA.out rfl ?_)
    | ((with_reducible show OpW 9); refine wpList_alloc _ rfl 48 rfl peZ peZero ?_; intro w3 a1 a2 a3; have HV3 := Lib.hid a1; have HX3 := Lib.hid a2; clear a1 a2 a3)
    | ((with_reducible show OpN); refine wpList_storev _ rfl 48 (.tmp 9) (.tmp 22) rfl 4 (by kernel_rfl) wx.heap.size 0 _ peZ (peC p A' n' c' B' m' d') rfl rfl HV3.out rfl (one_pe p A' n' c' B' m' d') (by decide) ?_; intro w4 a1 a2 a3; have HV4 : Hid (BL w4 wx.heap.size 48 (peC p A' n' c' B' m' d')) := Lib.hid a1; have HX4 : Hid (Below wx.heap.size wx w4) := Lib.hid (((Kp.of_below (S := fun _ => False) HX3.out).after a2 (fun i hi e => by omega)).below (Nat.le_refl _) (fun _ h => h.elim)); clear a1 a2 a3; have HB4 := Lib.hid (below_then hb.out HX4.out); have HW4 := Lib.hid (HV1.out.kept HB4.out))
    | ((with_reducible show OpW 23); refine wpList_loadv _ rfl 26 (.tmp 2) rfl 6 (by kernel_rfl) w.heap.size 0 (spC s R rn e) rfl (BL.all HW4.out) rfl ?_)
    | ((with_reducible show OpW 24); refine wpList_loadv _ rfl 48 (.tmp 9) rfl 4 (by kernel_rfl) wx.heap.size 0 (peC p A' n' c' B' m' d') rfl (BL.all HV4.out) rfl ?_)
    | (go_at_call 50; refine (rsfits_any _ s _ p w4 (stay_sp _ _ _ _ HSP.out (below_then HB1.out HB4.out)) (stay_pe _ _ _ _ HRW.out HB4.out) (HT.out.kept (below_then HB1.out HB4.out)) HVB.out).mono ?_; rintro e9 w5 ⟨rfl, r2⟩; rw [HFB.out]; have HX5 := Lib.hid (below_then HX4.out r2); have HB5 := Lib.hid (below_then HB4.out r2); have HP5 := Lib.hid (HV4.out.kept r2); have HW5 := Lib.hid (HW4.out.kept r2); have q1 := BL.get (j := 1) HP5.out rfl; have q2 := BL.get (j := 2) HP5.out rfl; have p3 := BL.get (j := 3) HW5.out rfl; clear r2))
   go_loop [10, 29] (fun kv iv => ∃ j : Nat, j ≤ ng ∧ iv = .int .i64 (j : Int) ∧ kv = .bool (!fb || (st.1.take j).contains p.ix)) (fun _ iv => ng - (intOf iv).toNat)
   case atStart => exact ⟨0, by omega, rfl, by simp⟩
   case round =>
    obtain ⟨j, hj, rfl, rfl⟩ := hrel
    obtain ⟨kb, hkb⟩ : ∃ b, b = (!fb || (st.1.take j).contains p.ix) := ⟨_, rfl⟩
    rw [← hkb]
    have HKB := Lib.hid hkb
    clear hkb
    by_cases hl2 : j < ng
    ·
     obtain ⟨x, gx, ox, hx, ex, cx⟩ := HLS.out.int_at HX5.out hl2
     have HCT := Lib.hid (cont_take (x := p.ix) hx)
     subst ex
     cases kb with
     | true =>
      have HN : Hid ((!fb || (st.1.take (j + 1)).contains p.ix) = true) := Lib.hid (by rw [HCT.out, ← Bool.or_assoc, ← HKB.out]; rfl)
      clear hx
      go_wp2_with fail
      go_round
      case rel => exact ⟨j + 1, by omega, by go_num, by rw [HN.out]⟩
      case measure => simp [intOf]; omega
     | false =>
      have HN : Hid ((!fb || (st.1.take (j + 1)).contains p.ix) = (x == p.ix)) := Lib.hid (by rw [HCT.out, ← Bool.or_assoc, ← HKB.out]; rfl)
      clear hx
      go_wp2_with fail
      go_round
      case rel => exact ⟨j + 1, by omega, by go_num, by rw [HN.out]⟩
      case measure => simp [intOf]; omega
    ·
     obtain rfl : j = ng := by omega
     have hkb9 : kb = (!fb || st.1.contains p.ix) := by
      rw [HKB.out, List.take_of_length_le (by rw [HNI.out]; exact Nat.le_refl _)]
     have HTK : Hid (tkS s st p = if kb = true then st else (st.1 ++ [p.ix], st.2 ++ [p.da])) := Lib.hid (by
      unfold tkS
      rw [hkb9, HFB.out]
      cases fb <;> cases st.1.contains p.ix <;> rfl)
     clear hkb9 hl2
     cases kb with
     | true =>
      have HF2 : Hid (tkR s st (ps.drop (k + 1)) = FIN) := Lib.hid (by rw [← HFN.out]; exact (tkR_skip (.inl (by rw [HTK.out]; rfl))).symm)
      go_wp2_with fail
      go_roundw
      case rel => exact ⟨k + 1, st, by omega, by go_num, Lib.hid (hli.out.kept HX5.out), Lib.hid (hlg.out.kept HX5.out), HB5, HF2, hok⟩
      case measure => simp [intOf]; omega
     | false =>
      cases c5 : decide ((j : Int) < s.d) with
      | false =>
       have HF2 : Hid (tkR s st (ps.drop (k + 1)) = FIN) := Lib.hid (by rw [← HFN.out]; exact (tkR_skip (.inr (by have := of_decide_eq_false c5; rw [← HNG.out]; omega))).symm)
       go_wp2_with fail
       go_roundw
       case rel => exact ⟨k + 1, st, by omega, by go_num, Lib.hid (hli.out.kept HX5.out), Lib.hid (hlg.out.kept HX5.out), HB5, HF2, hok⟩
       case measure => simp [intOf]; omega
      | true =>
       have hnf : (st.2.length : Int) ≠ s.d := by have := of_decide_eq_true c5; rw [← HNG.out]; omega
       have HF2 : Hid (tkR s (st.1 ++ [p.ix], st.2 ++ [p.da]) (ps.drop (k + 1)) = FIN) := Lib.hid (by
        have h9 := HFN.out
        rw [tkR, if_neg hnf, HTK.out] at h9
        exact h9)
       have HOK2 : Hid (TkOk s (st.1 ++ [p.ix], st.2 ++ [p.da])) := Lib.hid (by
        have h9 := hok.out.step (p := p) hnf
        rw [HTK.out] at h9
        exact h9)
       have HLI5 := Lib.hid (hli.out.kept HX5.out)
       have HLG5 := Lib.hid (hlg.out.kept HX5.out)
       clear hnf
       go_wp2_with (first
        | ((with_reducible show OpW 55); refine wpList_bslice _ rfl 52 3 1 _ rfl #[(0, .int .i64 p.ix)] (by rw [List.map_toArray]; rfl) [.int .i64 p.ix] (bslI1 _ _) ?_; intro w6 a1 a2 a3; have HN6 := Lib.hid a1; have HB6 := Lib.hid (below_then HB5.out a2); have HLI6 := Lib.hid (HLI5.out.kept a2); have HLG6 := Lib.hid (HLG5.out.kept a2); have HP6 := Lib.hid (HP5.out.kept a2); clear a1 a2 a3)
        | ((with_reducible show OpW 56); refine wpList_pushOI rfl (.tmp 51) (.tmp 55) rfl _ _ rfl HLI6.out HB6.out.size w5.heap.size (.int .i64 p.ix) p.ix rfl HN6.out rfl ⟨rfl, HIX.out⟩ (by rw [HNI.out]; omega) ?_; intro vi' w7 a1 a2; have HLI7 := Lib.hid a1; have HLG7 := Lib.hid (HLG6.out.kp a2 (HLG6.out.ne_ol HLI6.out (by decide))); have HP7 := Lib.hid (a2.bl HP6.out (fun e => HLI6.out.ne_bl HP6.out (by decide) wx.heap.size e rfl)); have q2 := BL.get (j := 2) HP7.out rfl; have HB7 : Hid (Below w1.heap.size w1 w7) := Lib.hid (low_kp HB6.out a2 (fun i hi e => by have := HLI6.out.own i e; omega)); clear a1 a2)
        | ((with_reducible show OpW 60); refine wpList_bslice _ rfl 45 39 1 _ rfl #[(0, .slice A' n' c')] (by rw [List.map_toArray]; rfl) [.slice A' n' c'] (by exact bslBs _ _ _ _) ?_; intro w8 a1 a2 a3; have HN8 := Lib.hid a1; have HB8 : Hid (Below w1.heap.size w1 w8) := Lib.hid (below_then HB7.out a2); have HLI8 := Lib.hid (HLI7.out.kept a2); have HLG8 := Lib.hid (HLG7.out.kept a2); clear a1 a2 a3)
        | ((with_reducible show OpW 61); refine wpList_pushOB rfl (.tmp 57) (.tmp 60) rfl _ _ rfl HLG8.out HB8.out.size w7.heap.size (.slice A' n' c') p.da rfl HN8.out rfl HBS0.out (by rw [← HNG.out]; omega) ?_; intro vg' w9 a1 a2; have HLG9 := Lib.hid a1; have HLI9 := Lib.hid (HLI8.out.kp a2 (HLI8.out.ne_ol HLG8.out (by decide))); have HB9 : Hid (Below w1.heap.size w1 w9) := Lib.hid (low_kp HB8.out a2 (fun i hi e => by have := HLG8.out.own i e; omega)); clear a1 a2))
       go_roundw
       case rel => exact ⟨k + 1, (st.1 ++ [p.ix], st.2 ++ [p.da]), by omega, by go_num, HLI9, HLG9, HB9, HF2, HOK2⟩
       case measure => simp [intOf]; omega
  ·
   obtain rfl : k = n := by omega
   have hst : st = FIN := by
    have h9 := hfn.out
    rwa [List.drop_eq_nil_of_le (by rw [HPL.out]; exact Nat.le_refl _)] at h9
   obtain rfl : FIN = st := hst.symm
   have HW1 := Lib.hid (HV1.out.kept hb.out)
   have p0 := BL.get (j := 0) HW1.out rfl
   have p3 := BL.get (j := 3) HW1.out rfl
   have p4 := BL.get (j := 4) HW1.out rfl
   have p5 := BL.get (j := 5) HW1.out rfl
   have HBw := Lib.hid (below_then HB1.out hb.out)
   cases c1 : decide ((ng : Int) < s.d) with
   | true =>
    have HR : Hid (resE s ps = (10, [])) := Lib.hid (by
     unfold resE
     simp only [HFIN.out]
     rw [if_pos (by rw [← HNG.out]; exact of_decide_eq_true c1)])
    go_wp2_with fail
    go_ret2
    exact ⟨_, by rw [HR.out]; rfl, fun h9 => by rw [HR.out] at h9; exact absurd h9 (by decide), HBw.out⟩
   | false =>
    have hnd : (ng : Int) = s.d := by have := of_decide_eq_false c1; omega
    obtain ⟨hz9, hd9, ht9, hb9, GV⟩ := HOK9.out.gvn HCD.out (by rw [← HNG.out]; exact hnd)
    obtain ⟨d, hd⟩ : ∃ d, d = s.d.toNat := ⟨_, rfl⟩
    obtain ⟨t, ht⟩ : ∃ t, t = s.t.toNat := ⟨_, rfl⟩
    obtain ⟨L, hL⟩ : ∃ L, L = s.b.toNat := ⟨_, rfl⟩
    obtain ⟨z, hz⟩ : ∃ z, z = FIN.1.map Int.toNat := ⟨_, rfl⟩
    rw [← hd] at hd9 GV
    rw [← ht] at ht9 GV
    rw [← hL] at hb9 GV
    rw [← hz] at hz9 GV
    obtain ⟨M, hM⟩ : ∃ M, M = recM d z FIN.2 L := ⟨_, rfl⟩
    have hMl : M.length = d := by rw [hM, recM_length]
    have hMr : Rect M L := by rw [hM]; exact recM_rect GV.rect (by rw [GV.zl]; exact Nat.le_refl _) (by rw [GV.ml]; exact Nat.le_refl _)
    have HRS : Hid (resE s ps = if (M.drop s.refs.length).all zerB then (if rt (sumsL (encM d t M L)) = s.id then (0, pcsL (encM d t M L)) else (9, [])) else (9, [])) := Lib.hid (by
     unfold resE
     simp only [HFIN.out]
     rw [if_neg (by rw [← HNG.out, hnd]; omega), ← hd, ← ht, ← hL, ← hz, ← hM])
    have hngd2 : ng = d := by omega
    subst hngd2
    have HIS : Hid (IS wx Ai ng ci (ints z)) := Lib.hid (by rw [← hz9]; exact HLS.out.to_is)
    have HRC := Lib.hid (rrec_any ng Ai Ag ng ci ng cg z FIN.2 L wx HIS.out HLB.out.to_ms GV.rect GV.L1 GV.L6 GV.d1 GV.d8 (Nat.le_refl _) (Nat.le_refl _) GV.z16)
    rw [GV.eq, ← hM] at HRC
    have hg18 : 1 ≤ ng ∧ ng ≤ 8 ∧ ng ≤ t ∧ t ≤ 16 := ⟨GV.d1, GV.d8, GV.dt, GV.t16⟩
    have hL16 : 1 ≤ L ∧ L ≤ 65536 := ⟨GV.L1, GV.L6⟩
    have hrn : rn ≤ ng := by have := HRN.out.2; rw [hd9] at this; omega
    have HMl := Lib.hid hMl
    have HMr := Lib.hid hMr
    rw [hd9] at p3 c1
    rw [ht9] at p4
    rw [hd9] at hnd
    clear GV hM hMl hMr hz9 hz hd ht hL hngd
    obtain ⟨nc, hnc⟩ : ∃ z, z = ng - rn := ⟨_, rfl⟩
    have hnc9 : nc ≤ 8 := by omega
    go_wp2_with (first
     | (go_at_call 51; refine HRC.out.mono ?_; rintro e9 w5 ⟨A5, c5, rfl, hm5, b5⟩; have HM5 := Lib.hid hm5; have HB5 := Lib.hid (below_then HBw.out b5); have HW5 := Lib.hid (HW1.out.kept b5); have p0 := cell_kept b5 p0; have p3 := cell_kept b5 p3; have p4 := cell_kept b5 p4; have p5 := cell_kept b5 p5; clear hm5 b5)
     | ((with_reducible show OpW 77); obtain ⟨g5, o5, e5⟩ : ∃ g o, A5 = some ⟨g, o, none⟩ := (by obtain ⟨g, o, _, _, _, e, _⟩ := HM5.out.2.2.2 0 (by omega); exact ⟨g, o, e⟩); subst e5; obtain ⟨AC, hAC⟩ : ∃ z, z = cutM (some ⟨g5, o5, none⟩) c5 rn 1 := ⟨_, rfl⟩; obtain ⟨cc, hcc⟩ : ∃ z, z = c5 - rn := ⟨_, rfl⟩; have HMC : Hid (MS w5 AC nc cc (M.drop rn)) := Lib.hid (by rw [hAC, hnc, hcc]; exact HM5.out.cutM hrn); refine wpList_cutM rfl (.tmp 73) (.tmp 76) 45 39 1 rfl Tryz.underlying45 (size1 szB1 _) (some ⟨g5, o5, none⟩) ng c5 rn rfl rfl hrn AC nc cc hAC hnc hcc ?_; clear hAC))
    go_loopw [79] (fun iv wr => ∃ j : Nat, j ≤ nc ∧ iv = .int .i64 (j : Int) ∧ Hid (((M.drop rn).take j).all zerB = true) ∧ Hid (Below w5.heap.size w5 wr)) (fun iv _ => nc - (intOf iv).toNat)
    case atStart => exact ⟨0, by omega, rfl, Lib.hid rfl, Lib.hid (Below.refl _ _)⟩
    case round =>
     obtain ⟨j, hj, rfl, hall, hb2⟩ := hrel
     obtain ⟨wu, hwu⟩ : ∃ x, x = wr := ⟨_, rfl⟩
     rw [← hwu] at hb2 ⊢
     clear hwu
     have p0 := cell_kept hb2.out p0
     have p3 := cell_kept hb2.out p3
     have p4 := cell_kept hb2.out p4
     have p5 := cell_kept hb2.out p5
     by_cases hlj : j < nc
     ·
      obtain ⟨g8, o8, A8, n8, c8, e8, q8, hb8⟩ := (HMC.out.kept hb2.out).2.2.2 j hlj
      have HBS8 := Lib.hid hb8
      have hjd : j < (M.drop rn).length := by rw [HMC.out.1]; exact hlj
      have HNX : Hid (((M.drop rn).take (j + 1)).all zerB = (((M.drop rn).take j).all zerB && zerB (gR (M.drop rn) j))) := Lib.hid (by
       rw [List.take_add_one, List.getElem?_eq_getElem hjd, gR_eq hjd, List.all_append]
       simp)
      have HMEM : Hid (gR (M.drop rn) j ∈ M.drop rn) := Lib.hid (by rw [gR_eq hjd]; exact List.getElem_mem hjd)
      obtain ⟨X, hX⟩ : ∃ X, X = gR (M.drop rn) j := ⟨_, rfl⟩
      have HX := Lib.hid hX
      rw [← hX] at HBS8 HNX HMEM
      subst e8
      clear hb8 hjd hX
      have hXl : X.length = n8 := HBS8.out.1
      go_wp2_with fail
      have cv := conv_str HBS8.out.drew
      have hn8 : n8 ≤ 140737488355328 := by have h9 := HBS8.out.2.2.1; unfold lim at h9; omega
      have mk : ∀ w : World, (Instr.makeSlice 39 (.int .i64 (n8 : Int)) (.int .i64 (n8 : Int))).run Tryz.prog w = .ok (.slice (some ⟨w.heap.size, 0, none⟩) n8 n8) (w.alloc (.cells (row (zeros n8)) 5)) := fun w => make_bytes n8 hn8 w
      cases hz0 : zerB X with
      | true =>
       have ez : ((strB X).toList == (strB (zeros n8)).toList) = true := by rw [strB_eq, ← hXl, ← zerB_eq, hz0]
       rw [hz0] at HNX
       have HALL : Hid (((M.drop rn).take (j + 1)).all zerB = true) := Lib.hid (by rw [HNX.out, hall.out]; rfl)
       clear hz0 HNX
       refine Text.wp_region_text (fun w' => (convert 39 9 (.slice A8 n8 c8)).run Tryz.prog w' = .ok (.string (strB X)) w') [(0, 4), (2, 4), (3, 4), (1, 0), (4, 2), (5, 1), (6, 4)] (by kernel_rfl) (by kernel_rfl) (fun _ _ _ _ _ h => h) (cv) ?_
       iterate 3 (refine Text.purek rfl rfl (fun K hK => ⟨_, fun w' => by go_simp <;> rfl, ?_⟩); go_simp; refine hK _ ?_; clear hK K)
       (refine Text.heldk rfl rfl (fun K hK => ⟨_, fun w' hw' => by go_simp <;> rfl, ?_⟩); go_simp; refine hK _ ?_; clear hK K)
       refine Text.eff rfl rfl (fun K hK => ?_)
       go_simp
       obtain ⟨w6, hw6⟩ : ∃ x, x = (wu.alloc (.cells (row (zeros n8)) 5)).drew := ⟨_, rfl⟩
       have HX6 : Hid (Below wu.heap.size wu w6) := Lib.hid (by rw [hw6]; exact ((Below.refl _ _).alloc (Nat.le_refl _) _).drew)
       have cz : (convert 39 9 (.slice (some ⟨wu.heap.size, 0, none⟩) n8 n8)).run Tryz.prog w6 = .ok (.string (strB (zeros n8))) w6 := conv_str (by rw [hw6]; exact BS.drew (BS.of_blk (Blk.new _ _ _) (by simp [zeros]) (by unfold lim; omega)))
       rw [← hw6]
       clear hw6
       refine hK _ _ (conv_str (HBS8.out.kept HX6.out)) ?_
       clear hK K
       (refine Text.readk rfl rfl (fun K hK => ⟨_, by go_simp <;> rfl, ?_⟩); go_simp; refine hK _ ?_; clear hK K)
       (refine Text.purek rfl rfl (fun K hK => ⟨_, fun w' => by go_simp <;> rfl, ?_⟩); go_simp; refine hK _ ?_; clear hK K)
       refine Text.done ?_
       go_wp2_with fail
       go_roundw
       case rel => exact ⟨j + 1, by omega, by go_num, HALL, Lib.hid (below_then hb2.out HX6.out)⟩
       case measure => simp [intOf]; omega
      | false =>
       have ez : ((strB X).toList == (strB (zeros n8)).toList) = false := by rw [strB_eq, ← hXl, ← zerB_eq, hz0]
       have HR : Hid (resE s ps = (9, [])) := Lib.hid (by
        rw [HRS.out, HRN.out.1, if_neg]
        intro h9
        have h8 := List.all_eq_true.1 h9 _ HMEM.out
        rw [hz0] at h8
        cases h8)
       clear hz0 HNX
       refine Text.wp_region_text (fun w' => (convert 39 9 (.slice A8 n8 c8)).run Tryz.prog w' = .ok (.string (strB X)) w') [(0, 4), (2, 4), (3, 4), (1, 0), (4, 2), (5, 1), (6, 4)] (by kernel_rfl) (by kernel_rfl) (fun _ _ _ _ _ h => h) (cv) ?_
       iterate 3 (refine Text.purek rfl rfl (fun K hK => ⟨_, fun w' => by go_simp <;> rfl, ?_⟩); go_simp; refine hK _ ?_; clear hK K)
       (refine Text.heldk rfl rfl (fun K hK => ⟨_, fun w' hw' => by go_simp <;> rfl, ?_⟩); go_simp; refine hK _ ?_; clear hK K)
       refine Text.eff rfl rfl (fun K hK => ?_)
       go_simp
       obtain ⟨w6, hw6⟩ : ∃ x, x = (wu.alloc (.cells (row (zeros n8)) 5)).drew := ⟨_, rfl⟩
       have HX6 : Hid (Below wu.heap.size wu w6) := Lib.hid (by rw [hw6]; exact ((Below.refl _ _).alloc (Nat.le_refl _) _).drew)
       have cz : (convert 39 9 (.slice (some ⟨wu.heap.size, 0, none⟩) n8 n8)).run Tryz.prog w6 = .ok (.string (strB (zeros n8))) w6 := conv_str (by rw [hw6]; exact BS.drew (BS.of_blk (Blk.new _ _ _) (by simp [zeros]) (by unfold lim; omega)))
       rw [← hw6]
       clear hw6
       refine hK _ _ (conv_str (HBS8.out.kept HX6.out)) ?_
       clear hK K
       (refine Text.readk rfl rfl (fun K hK => ⟨_, by go_simp <;> rfl, ?_⟩); go_simp; refine hK _ ?_; clear hK K)
       (refine Text.purek rfl rfl (fun K hK => ⟨_, fun w' => by go_simp <;> rfl, ?_⟩); go_simp; refine hK _ ?_; clear hK K)
       refine Text.done ?_
       go_wp2_with fail
       go_ret2
       exact ⟨_, by rw [HR.out]; rfl, fun h9 => by rw [HR.out] at h9; exact absurd h9 (by decide), below_then HB5.out (below_then hb2.out HX6.out)⟩
     ·
      obtain rfl : nc = j := by omega
      have hall' : (M.drop rn).all zerB = true := by
       have h9 := hall.out
       rwa [List.take_of_length_le (by rw [HMC.out.1]; exact Nat.le_refl _)] at h9
      obtain ⟨rows, hrows⟩ : ∃ z, z = encM ng t M L := ⟨_, rfl⟩
      obtain ⟨RT, hRT⟩ : ∃ z, z = rt (sumsL rows) := ⟨_, rfl⟩
      have HRS2 : Hid (resE s ps = if RT = s.id then (0, pcsL rows) else (9, [])) := Lib.hid (by
       rw [HRS.out, HRN.out.1, if_pos hall', ← hrows, ← hRT])
      have HMu := Lib.hid (HM5.out.kept hb2.out)
      have HBu := Lib.hid (below_then HB5.out hb2.out)
      have hrl : rows.length = t := by rw [hrows, encM_length]
      have HC9 := Lib.hid (rpcs_any ng t c5 (some ⟨g5, o5, none⟩) M L wu (by omega) (by omega) (by omega) (by omega) HMu.out HMr.out (by omega) (by omega) (HT.out.kept HBu.out))
      rw [← hrows] at HC9
      have HP0 : Hid ((pcsL rows)[0]? = some (pieN rows 0)) := Lib.hid (by
       unfold pcsL
       rw [List.getElem?_map, List.getElem?_range (by omega)]
       rfl)
      have HPl : Hid ((pcsL rows).length = t) := Lib.hid (by unfold pcsL; rw [List.length_map, List.length_range]; exact hrl)
      have hpid : (pieN rows 0).id = RT := hRT.symm
      clear hall' hrows hlj hRT hrl
      go_wp2_with (first
       | (go_at_call 52; refine HC9.out.mono ?_; rintro e9 w7 ⟨v7, rfl, r1, r2⟩; obtain ⟨A7, c7, e7, l7⟩ := r1.ls (b := 72) (by rw [HPl.out]; unfold lim; omega); rw [HPl.out] at e7 l7; subst e7; obtain ⟨y, g7, o7, cy, hy, ea, hat, hry⟩ := l7.at_ stay_pe (Below.refl _ _) (by omega : 0 < t); obtain rfl : pieN rows 0 = y := Option.some.inj (HP0.out.symm.trans hy); obtain ⟨A9, n9, c9, B9, m9, d9, rfl, _⟩ := hry; have z0 : w7.cell? ⟨g7, o7, none⟩ = some (.string (strB RT)) := (by have h9 := hat 0 _ rfl; rw [Nat.zero_mul] at h9; rw [hpid] at h9; exact h9); subst ea; have HO7 := Lib.hid r1; have HB7 := Lib.hid (below_then HBu.out r2); have p0 := cell_kept r2 p0; clear r1 r2 l7 hat hy))
      have h0t : 0 < t := by omega
      by_cases hid9 : RT = s.id
      ·
       have HR : Hid (resE s ps = (0, pcsL rows)) := Lib.hid (by rw [HRS2.out, if_pos hid9])
       have e6 : ((strB RT).toList == (strB s.id).toList) = true := by rw [strB_eq, decide_eq_true hid9]
       clear hid9
       refine Text.wp_region_text (fun w' => w'.cell? ⟨g7, o7, none⟩ = some (.string (strB RT)) ∧ w'.cell? ⟨w.heap.size, 0, none⟩ = some (.string (strB s.id))) [(0, 4), (1, 4), (2, 4), (3, 4), (5, 4), (4, 0), (6, 0), (7, 4)] (by kernel_rfl) (by kernel_rfl) (fun _ _ _ _ _ h => h) (⟨z0, p0⟩) ?_
       iterate 5 (refine Text.purek rfl rfl (fun K hK => ⟨_, fun w' => by go_simp <;> rfl, ?_⟩); go_simp; refine hK _ ?_; clear hK K)
       iterate 2 (refine Text.heldk rfl rfl (fun K hK => ⟨_, fun w' hw' => by go_simp <;> rfl, ?_⟩); go_simp; refine hK _ ?_; clear hK K)
       (refine Text.purek rfl rfl (fun K hK => ⟨_, fun w' => by go_simp <;> rfl, ?_⟩); go_simp; refine hK _ ?_; clear hK K)
       refine Text.done ?_
       go_wp2_with fail
       go_ret2
       exact ⟨_, by rw [HR.out]; rfl, fun _ => by rw [HR.out]; exact OLn.low (HO7.out.kept (Below.refl _ _).drew) HBu.out.size, HB7.out.drew⟩
      ·
       have HR : Hid (resE s ps = (9, [])) := Lib.hid (by rw [HRS2.out, if_neg hid9])
       have e6 : ((strB RT).toList == (strB s.id).toList) = false := by rw [strB_eq, decide_eq_false hid9]
       clear hid9
       refine Text.wp_region_text (fun w' => w'.cell? ⟨g7, o7, none⟩ = some (.string (strB RT)) ∧ w'.cell? ⟨w.heap.size, 0, none⟩ = some (.string (strB s.id))) [(0, 4), (1, 4), (2, 4), (3, 4), (5, 4), (4, 0), (6, 0), (7, 4)] (by kernel_rfl) (by kernel_rfl) (fun _ _ _ _ _ h => h) (⟨z0, p0⟩) ?_
       iterate 5 (refine Text.purek rfl rfl (fun K hK => ⟨_, fun w' => by go_simp <;> rfl, ?_⟩); go_simp; refine hK _ ?_; clear hK K)
       iterate 2 (refine Text.heldk rfl rfl (fun K hK => ⟨_, fun w' hw' => by go_simp <;> rfl, ?_⟩); go_simp; refine hK _ ?_; clear hK K)
       (refine Text.purek rfl rfl (fun K hK => ⟨_, fun w' => by go_simp <;> rfl, ?_⟩); go_simp; refine hK _ ?_; clear hK K)
       refine Text.done ?_
       go_wp2_with fail
       go_ret2
       exact ⟨_, by rw [HR.out]; rfl, fun h9 => by rw [HR.out] at h9; exact absurd h9 (by decide), HB7.out.drew⟩
end
end Go.Proofs.YtfcakjpljjnjnaaGreatDoor
