/- Several texts in one: Bh. -/
import Derived.Test.YtfcakjpljjnjnaaGreatDoorC39
/- stripe.restore, Rebuild. -/
namespace Go.Proofs.YtfcakjpljjnjnaaGreatDoor
open Go Go.RowKit Go.Shelf Gf Sha

theorem bsl0M (w : World) : (Instr.buildSlice 45 0 #[]).run Tryz.prog w = .ok (.slice (some ⟨w.heap.size, 0, none⟩) 0 0) (w.alloc (.cells ([] : List Value).toArray 39)) := by kernel_rfl
theorem eqNilM (g o n c : Nat) (w : World) : (binOp .eql 45 (.slice (some ⟨g, o, none⟩) n c) (.slice none 0 0)).run Tryz.prog w = .ok (.bool false) w := by kernel_rfl
theorem MS.ps {w : World} {g o n c : Nat} {m : List (List UInt8)} (h : MS w (some ⟨g, o, none⟩) n c m) : ∃ ps : List Value, ps.length = n ∧ Cells w (some ⟨g, o, none⟩) n (fun k => ps.getD k undef) ∧ ∀ u ∈ ps, u.oneCell' = true := by
 refine ⟨(List.range n).map (fun k => (w.cell? ⟨g, o + k, none⟩).getD undef), by simp, fun k hk => ?_, fun u hu => ?_⟩
 ·
  obtain ⟨g', o', A', n', c', e, h1, _⟩ := h.2.2.2 k hk
  cases e
  refine ⟨g, o, rfl, ?_⟩
  show _ = some (((List.range n).map (fun k => (w.cell? ⟨g, o + k, none⟩).getD undef)).getD k undef)
  rw [List.getD_eq_getElem?_getD, List.getElem?_map, List.getElem?_range hk]
  simp [h1]
 ·
  obtain ⟨k, hk, rfl⟩ := List.mem_map.1 hu
  obtain ⟨g', o', A', n', c', e, h1, _⟩ := h.2.2.2 k (List.mem_range.1 hk)
  cases e
  rw [h1]; rfl
section
set_option maxRecDepth 100000
set_option maxHeartbeats 16000000
theorem cloneM_any (g o n c : Nat) (m : List (List UInt8)) (w : World) (h : MS w (some ⟨g, o, none⟩) n c m) (hn : n ≤ 1000) :
  Calls Tryz.prog 77 #[.slice (some ⟨g, o, none⟩) n c] w fun e w' => (∃ v', e = .returned v') ∧ Below w.heap.size w w' := by
 have H := Lib.hid h
 have hen := eqNilM g o n c
 clear h
 go_enter Tryz.func77, Tryz.ntmps77
 go_wp2_with (first
  | ((with_reducible show OpW 5); refine wpList_bslice _ rfl 45 39 0 _ rfl #[] (by rw [List.map_toArray]; rfl) [] (bsl0M _) ?_; intro w1 a1 a2 a3; have HG1 := Lib.hid a1; have HB1 := Lib.hid a2; clear a1 a2 a3; have HO : Hid (w1.ownsRow w.heap.size 39 1 (.slice (some ⟨w.heap.size, 0, none⟩) 0 0) 0 []) := Lib.hid (BL.own HG1.out (Nat.le_refl _) rfl (by decide)); obtain ⟨ps, y1, y2, y3⟩ := (H.out.kept HB1.out).ps; have P1 := Lib.hid y1; have P2 := Lib.hid y2; have P3 := Lib.hid y3; clear y1 y2 y3)
  | ((with_reducible show OpW 7); refine wpList_app _ rfl (.tmp 5) (.tmp 6) 45 rfl w.heap.size 39 (.slice none 0 0) 24 Tryz.underlying45 infoByts rfl _ 0 [] rfl HO.out _ n c ps rfl P1.out P2.out P3.out (by omega) (by omega) HB1.out.size ?_; intro v6 w6 hp; have HB6 := Lib.hid (hp.below HO.out HB1.out (Nat.le_refl _) HB1.out.size); clear hp))
 go_ret
 exact ⟨⟨_, rfl⟩, HB6.out⟩
theorem nilInts : (Tryz.prog.info? 52).map (·.zero) = some (some (.slice none 0 0)) := by kernel_rfl
theorem nilByts : (Tryz.prog.info? 45).map (·.zero) = some (some (.slice none 0 0)) := by kernel_rfl
theorem drop_atP {α : Type} {l : List α} {i : Nat} {x : α} (h : l[i]? = some x) : l.drop i = x :: l.drop (i + 1) := by
 obtain ⟨hlt, hx⟩ := List.getElem?_eq_some_iff.1 h
 rw [← hx]
 exact List.drop_eq_getElem_cons hlt
theorem spB_spec {s : Sp} (h : spB s = true) : s.id.length = 32 ∧ cdB s.d s.t = true ∧ 1 ≤ s.refs.length ∧ (s.refs.length : Int) ≤ s.d := by
 unfold spB at h
 simp only [Bool.and_eq_true, decide_eq_true_eq] at h
 exact ⟨h.1, h.2.2.2.1, h.2.2.2.2.1, h.2.2.2.2.2.1⟩
def RstR (s : Sp) (ps : List Pe) (w : World) (e : Ending) (w' : World) : Prop := ∃ v1 v2, e = .returned (.tuple #[v1, v2, .int .i64 (resE s ps).1]) ∧ ((resE s ps).1 = 0 → OLn rPe 4 48 w.heap.size w' v2 (resE s ps).2) ∧ Below w.heap.size w w'
theorem MS.preM {n c : Nat} {w : World} {A : Option Addr} {m : List (List UInt8)} (h : MS w A n c m) {k : Nat} (hk : k ≤ n) : MS w A k c (m.take k) := by
 have hl := h.1
 refine ⟨by rw [List.length_take]; omega, by have := h.2.1; omega, Nat.le_trans (Nat.mul_le_mul_right _ hk) h.2.2.1, fun j hj => ?_⟩
 obtain ⟨g', o', A', n', c', e, h1, h2⟩ := h.2.2.2 j (by omega)
 refine ⟨g', o', A', n', c', e, h1, ?_⟩
 have e9 : gR (m.take k) j = gR m j := by
  rw [gR_eq (by rw [List.length_take]; omega), gR_eq (by omega), List.getElem_take]
 rw [e9]; exact h2
theorem restore_any (cs : List Value) (s : Sp) (A : Option Addr) (n c : Nat) (ps : List Pe) (w : World) (hs : rSp w cs s) (hv : spB s = true) (hp : LS rPe 4 72 w A n c ps) (hT : Tabs w) (hn : n ≤ 1000) :
  Calls Tryz.prog 46 #[.agg cs.toArray, .slice A n c] w (RstR s ps w) := by
 have hmf : ∀ (fn : Fn) (first cap : Array Value) (w : World), (Instr.makeFunc fn first cap).run Tryz.prog w = .ok (.func fn first cap) w := fun _ _ _ _ => rfl
 have HSP := Lib.hid hs
 have HCK : Hid (chkE (spB s) = 0) := Lib.hid (by rw [hv]; rfl)
 have HSS := Lib.hid (spB_spec hv)
 have HCD := Lib.hid (spB_spec hv).2.1
 have HP := Lib.hid hp
 have HPL := Lib.hid hp.1
 have HT := Lib.hid hT
 obtain ⟨R, rn, e, rfl, hrf, _⟩ := hs
 have HRN : Hid (s.refs.length = rn ∧ (rn : Int) ≤ s.d) := Lib.hid ⟨hrf.1, by rw [← hrf.1]; exact (spB_spec hv).2.2.2⟩
 have EF : Hid (∀ args w, (callFunc 71 args).run Tryz.prog w = .ok (.enter 71 args) w) := Lib.hid (enters_of Tryz.func71 (by kernel_rfl) rfl)
 have HD8 : Hid (0 ≤ s.d ∧ s.d ≤ 8) := Lib.hid (by have h9 := (spB_spec hv).2.1; unfold cdB at h9; simp only [Bool.and_eq_true, decide_eq_true_eq] at h9; omega)
 obtain ⟨FIN, hFIN⟩ : ∃ z, z = tkR s ([], []) ps := ⟨_, rfl⟩
 have HFIN := Lib.hid hFIN.symm
 have HOK9 : Hid (TkOk s FIN) := Lib.hid (by rw [hFIN]; exact TkOk.run ps (TkOk.nil HD8.out.1))
 clear hv hp hT hrf hFIN
 go_enter Tryz.func46, Tryz.ntmps46
 go_wp2_with (first
  | ((with_reducible show OpW 2); refine wpList_box _ rfl 26 (.tmp 0) rfl (spC s R rn e) rfl ?_; intro w1 y1 y2 y3; have HV1 := Lib.hid y1; have HB1 := Lib.hid y2; clear y1 y2 y3)
  | ((with_reducible show OpW 18); refine wpList_loadv _ rfl 26 (.tmp 2) rfl 6 (by kernel_rfl) w.heap.size 0 (spC s R rn e) rfl (BL.all HV1.out) rfl ?_)
  | (go_at_call 45; refine (spCheck_any _ s w1 (stay_sp _ _ _ _ HSP.out HB1.out)).mono ?_; rintro e9 w2 ⟨rfl, r2⟩; rw [HCK.out]; have HB2 := Lib.hid (below_then HB1.out r2); have HV2 := Lib.hid (HV1.out.kept r2); clear r2)
  | ((with_reducible show OpW 7); refine wpList_alloc1 _ rfl 52 rfl (.slice none 0 0) nilInts rfl ?_; intro w3 a1 a2 a3; have HI3 := Lib.hid a1; have HB3 := Lib.hid (below_then HB2.out a2); have HV3 := Lib.hid (HV2.out.kept a2); clear a1 a2 a3)
  | ((with_reducible show OpW 8); refine wpList_alloc1 _ rfl 45 rfl (.slice none 0 0) nilByts rfl ?_; intro w4 a1 a2 a3; have HG4 := Lib.hid a1; have HI4 := Lib.hid (HI3.out.kept a2); have HB4 := Lib.hid (below_then HB3.out a2); have HV4 := Lib.hid (HV3.out.kept a2); clear a1 a2 a3))
 obtain ⟨gs, hgs⟩ : ∃ z, z = w.heap.size := ⟨_, rfl⟩
 obtain ⟨gi, hgi⟩ : ∃ z, z = w2.heap.size := ⟨_, rfl⟩
 obtain ⟨gg, hgg⟩ : ∃ z, z = w3.heap.size := ⟨_, rfl⟩
 have HTK4 : Hid (TK w w4 gs gi gg s R rn e ([], [])) := Lib.hid ⟨by rw [hgs]; exact HV4.out, ⟨_, by rw [hgi]; exact HI4.out, OL.nil _ _ _ _ _⟩, ⟨_, by rw [hgg]; exact HG4.out, OL.nil _ _ _ _ _⟩, HB4.out, by omega, by rw [hgi]; exact HB2.out.size, by rw [hgg]; exact HB3.out.size⟩
 rw [← hgs, ← hgi, ← hgg]
 clear hgs hgi hgg
 go_loopw [24] (fun iv wr => ∃ (k : Nat) (st : List Int × List (List UInt8)), k ≤ n ∧ iv = .int .i64 (k : Int) ∧ Hid (TK w wr gs gi gg s R rn e st) ∧ Hid (tkR s st (ps.drop k) = FIN) ∧ Hid (TkOk s st)) (fun iv _ => n - (intOf iv).toNat)
 case atStart => exact ⟨0, ([], []), by omega, rfl, HTK4, HFIN, Lib.hid (TkOk.nil HD8.out.1)⟩
 case round =>
  obtain ⟨k, st, hk, rfl, htk, hfn, hok⟩ := hrel
  obtain ⟨wx, hwx⟩ : ∃ x, x = wr := ⟨_, rfl⟩
  rw [← hwx] at htk ⊢
  clear hwx
  by_cases hlt : k < n
  ·
   obtain ⟨p, g, o, cs9, hpk, ea, hat0, hrw⟩ := HP.out.at_ stay_pe (Below.refl _ _) hlt
   have hat := At.kept hat0 htk.out.b
   have HRP := Lib.hid hrw
   obtain ⟨A', n', c', B', m', d', rfl, _⟩ := hrw
   have HDR := Lib.hid (drop_atP hpk)
   have HRW := HRP
   have HA := Lib.hid hat
   obtain ⟨vg, hg9, hlg9⟩ := htk.out.g
   obtain ⟨_, hrow⟩ := hlg9.row
   obtain ⟨ng, hng⟩ : ∃ z, z = st.2.length := ⟨_, rfl⟩
   rw [← hng] at hrow
   obtain ⟨Ag, cg, ev, _⟩ := hrow.form
   subst ev
   have HNG := Lib.hid hng
   have g0 := hg9.get (j := 0) rfl
   have p3 := BL.get (j := 3) htk.out.s rfl
   have hng8 : ng ≤ 8 := by have h8 := hok.out.le; have h7 := HD8.out; omega
   subst ea
   clear hat hat0 HRP hg9 hlg9 hrow hng hpk
   by_cases hfull : (ng : Int) = s.d
   ·
    have hst : st = FIN := by
     have h9 := hfn.out
     rw [HDR.out, tkR, if_pos (by rw [← HNG.out]; exact hfull)] at h9
     exact h9
    have f9 : ((ng : Int) == s.d) = true := by rw [beq_iff_eq]; exact hfull
    obtain rfl : FIN = st := hst.symm
    obtain ⟨wy, hwy⟩ : ∃ x, x = wx := ⟨_, rfl⟩
    have HTK9 := htk
    have hfull2 : ((FIN.2.length : Nat) : Int) = s.d := by rw [← HNG.out]; exact hfull
    rw [← hwy] at HTK9 HA ⊢
    clear hwy htk g0 p3 f9 hfull HNG hng8
    obtain ⟨vi, hi9, hli9⟩ := HTK9.out.i
    obtain ⟨vg, hg9, hlg9⟩ := HTK9.out.g
    obtain ⟨Ai, ci, ev, hls⟩ := hli9.ls (b := 8) stay_int HTK9.out.b (by have h8 := HOK9.out.len; have h9 := HOK9.out.le; have h7 := HD8.out; unfold lim; omega)
    obtain ⟨Ag, cg, ev2, hlb⟩ := hlg9.ls (b := 24) stay_bs HTK9.out.b (by have h9 := HOK9.out.le; have h7 := HD8.out; unfold lim; omega)
    obtain ⟨ng, hng⟩ : ∃ z, z = FIN.2.length := ⟨_, rfl⟩
    have hni : FIN.1.length = ng := by rw [hng]; exact HOK9.out.len
    rw [hni] at ev hls
    rw [← hng] at ev2 hlb
    subst ev
    subst ev2
    have HLS := Lib.hid hls.to_is
    have HLB := Lib.hid hlb.to_ms
    have HNG := Lib.hid hng
    have HSB := Lib.hid HTK9.out.s
    have HB9 := Lib.hid HTK9.out.b
    have i0 := hi9.get (j := 0) rfl
    have g0 := hg9.get (j := 0) rfl
    have p3 := BL.get (j := 3) HTK9.out.s rfl
    have p4 := BL.get (j := 4) HTK9.out.s rfl
    have p5 := BL.get (j := 5) HTK9.out.s rfl
    have hngd : (ng : Int) ≤ s.d := by rw [hng]; exact HOK9.out.le
    clear hi9 hg9 hli9 hlg9 hls hlb hng hni
    cases c1 : decide ((ng : Int) < s.d) with
    | true =>
     have HR : Hid (resE s ps = (10, [])) := Lib.hid (by
      unfold resE
      simp only [HFIN.out]
      rw [if_pos (by rw [← HNG.out]; exact of_decide_eq_true c1)])
     first
      | (exfalso; have h8 := HNG.out; have h9 := of_decide_eq_true c1; omega)
      | (go_wp2_with fail; go_ret3; exact ⟨_, _, by rw [HR.out]; rfl, fun h9 => by rw [HR.out] at h9; exact absurd h9 (by decide), HB9.out⟩)
    | false =>
     have hnd : (ng : Int) = s.d := by have := of_decide_eq_false c1; omega
     obtain ⟨hz9, hd9, ht9, hb9, GV⟩ := HOK9.out.gvn HCD.out (by rw [← HNG.out]; exact hnd)
     obtain ⟨d, hd⟩ : ∃ d, d = s.d.toNat := ⟨_, rfl⟩
     obtain ⟨t, ht⟩ : ∃ t, t = s.t.toNat := ⟨_, rfl⟩
     obtain ⟨L, hL⟩ : ∃ L, L = s.b.toNat := ⟨_, rfl⟩
     obtain ⟨z, hz⟩ : ∃ z, z = FIN.1.map Int.toNat := ⟨_, rfl⟩
     rw [← hd] at hd9 GV
     rw [← ht] at ht9 GV
     rw [← hL] at hb9 GV
     rw [← hz] at hz9 GV
     obtain ⟨M, hM⟩ : ∃ M, M = recM d z FIN.2 L := ⟨_, rfl⟩
     have hMl : M.length = d := by rw [hM, recM_length]
     have hMr : Rect M L := by rw [hM]; exact recM_rect GV.rect (by rw [GV.zl]; exact Nat.le_refl _) (by rw [GV.ml]; exact Nat.le_refl _)
     have HRS : Hid (resE s ps = if (M.drop s.refs.length).all zerB then (if rt (sumsL (encM d t M L)) = s.id then (0, pcsL (encM d t M L)) else (9, [])) else (9, [])) := Lib.hid (by
      unfold resE
      simp only [HFIN.out]
      rw [if_neg (by rw [← HNG.out, hnd]; omega), ← hd, ← ht, ← hL, ← hz, ← hM])
     have hngd2 : ng = d := by omega
     subst hngd2
     have HIS : Hid (IS wy Ai ng ci (ints z)) := Lib.hid (by rw [← hz9]; exact HLS.out)
     have HRC := Lib.hid (fun (wq : World) (hq : Below wy.heap.size wy wq) => reconstruct_ok ng t Ai Ag ng ci cg z FIN.2 L wq (HIS.out.kept hq) (HLB.out.kept hq) GV.gv GV.d1 GV.d8 GV.z16 (Nat.le_refl _) GV.rect GV.L6 GV.reg)
     rw [← hM] at HRC
     have HGV := Lib.hid GV
     have hg18 : 1 ≤ ng ∧ ng ≤ 8 ∧ ng ≤ t ∧ t ≤ 16 := ⟨GV.d1, GV.d8, GV.dt, GV.t16⟩
     have hL16 : 1 ≤ L ∧ L ≤ 65536 := ⟨GV.L1, GV.L6⟩
     have hrn : rn ≤ ng := by have := HRN.out.2; rw [hd9] at this; omega
     have HMl := Lib.hid hMl
     have HMr := Lib.hid hMr
     rw [hd9] at p3 c1
     rw [ht9] at p4
     rw [hd9] at hnd
     clear GV hM hMl hMr hz9 hz hd ht hL hngd
     obtain ⟨nc, hnc⟩ : ∃ z, z = ng - rn := ⟨_, rfl⟩
     have hnc9 : nc ≤ 8 := by omega
     have f8 : ((ng : Int) == (ng : Int)) = true := beq_self_eq_true _
     go_wp2_with (first
      | ((with_reducible show OpW 27); refine wpList_loadv _ rfl 48 (.tmp 26) rfl 4 (by kernel_rfl) g (o + k * 4) (peC p A' n' c' B' m' d') (by go_simp) HA.out rfl ?_) | ((with_reducible show OpW 11); refine wpList_alloc _ rfl 48 rfl peZ peZero ?_; intro w3 a1 a2 a3; have HV3 := Lib.hid a1; have HX3 := Lib.hid a2; clear a1 a2 a3) | ((with_reducible show OpN); refine wpList_storev _ rfl 48 (.tmp 11) (.tmp 27) rfl 4 (by kernel_rfl) wy.heap.size 0 _ peZ (peC p A' n' c' B' m' d') rfl rfl HV3.out rfl (one_pe p A' n' c' B' m' d') (by decide) ?_; intro w4 a1 a2 a3; have HX4 : Hid (Below wy.heap.size wy w4) := Lib.hid (low_kp HX3.out a2 (fun i hi e => by omega)); have g0 := cell_kept HX4.out g0; have i0 := cell_kept HX4.out i0; have p3 := cell_kept HX4.out p3; have p4 := cell_kept HX4.out p4; have p5 := cell_kept HX4.out p5; clear a1 a2 a3)
      | (go_at_call 74; refine (HRC.out w4 HX4.out).mono ?_; rintro e9 w5 ⟨v5, rfl, hnew⟩; obtain ⟨g5, n5, rfl, hn5, hm5, b5⟩ := hnew.ms (by rw [HMl.out]; unfold lim; omega); rw [HMl.out] at hn5; subst hn5; have HM5 := Lib.hid hm5; have HB5 := Lib.hid (below_then (below_then HB9.out HX4.out) b5); have HS5 := Lib.hid ((HSB.out.kept HX4.out).kept b5); have p0 := BL.get (j := 0) HS5.out rfl; have p3 := cell_kept b5 p3; have p4 := cell_kept b5 p4; have p5 := cell_kept b5 p5; clear hnew hm5 b5)
      | ((with_reducible show OpW 58); obtain ⟨AC, hAC⟩ : ∃ z, z = cutM (some ⟨g5, 0, none⟩) ng rn 1 := ⟨_, rfl⟩; have HMC : Hid (MS w5 AC nc nc (M.drop rn)) := Lib.hid (by rw [hAC, hnc]; exact HM5.out.cutM hrn); refine wpList_cutM rfl (.tmp 54) (.tmp 57) 45 39 1 rfl Tryz.underlying45 (size1 (by kernel_rfl) _) (some ⟨g5, 0, none⟩) ng ng rn rfl rfl hrn AC nc nc hAC hnc hnc ?_; clear hAC))
     go_loopw [60] (fun iv wr => ∃ j : Nat, j ≤ nc ∧ iv = .int .i64 (j : Int) ∧ Hid (((M.drop rn).take j).all zerB = true) ∧ Hid (Below w5.heap.size w5 wr)) (fun iv _ => nc - (intOf iv).toNat)
     case atStart => exact ⟨0, by omega, rfl, Lib.hid rfl, Lib.hid (Below.refl _ _)⟩
     case round =>
      obtain ⟨j, hj, rfl, hall, hb⟩ := hrel
      obtain ⟨wu, hwu⟩ : ∃ x, x = wr := ⟨_, rfl⟩
      rw [← hwu] at hb ⊢
      clear hwu
      have p0 := cell_kept hb.out p0
      have p3 := cell_kept hb.out p3
      have p4 := cell_kept hb.out p4
      have p5 := cell_kept hb.out p5
      by_cases hlj : j < nc
      ·
       obtain ⟨g8, o8, A8, n8, c8, e8, q8, hb8⟩ := (HMC.out.kept hb.out).2.2.2 j hlj
       have HBS8 := Lib.hid hb8
       have HAN : Hid ((List.range n8).any (fun k => !decide (gB (gR (M.drop rn) j) k = 0)) = !zerB (gR (M.drop rn) j)) := Lib.hid (by rw [← hb8.1]; exact any_nz _)
       have hjd : j < (M.drop rn).length := by rw [HMC.out.1]; exact hlj
       have HNX : Hid (((M.drop rn).take (j + 1)).all zerB = (((M.drop rn).take j).all zerB && zerB (gR (M.drop rn) j))) := Lib.hid (by
        rw [List.take_add_one, List.getElem?_eq_getElem hjd, gR_eq hjd, List.all_append]
        simp)
       have HMEM : Hid (gR (M.drop rn) j ∈ M.drop rn) := Lib.hid (by rw [gR_eq hjd]; exact List.getElem_mem hjd)
       subst e8
       clear hb8 hjd
       cases hz0 : zerB (gR (M.drop rn) j) with
       | true =>
        rw [hz0] at HAN HNX
        have HALL : Hid (((M.drop rn).take (j + 1)).all zerB = true) := Lib.hid (by rw [HNX.out, hall.out]; rfl)
        go_wp2_with (first
         | (go_at_call 75; refine (cont_nz A8 n8 c8 _ wu HBS8.out).mono ?_; rintro e9 w6 ⟨rfl, r2⟩; rw [HAN.out]; have HB6 := Lib.hid (below_then hb.out r2); clear r2))
        go_roundw
        case rel => exact ⟨j + 1, by omega, by go_num, HALL, HB6⟩
        case measure => simp [intOf]; omega
       | false =>
        rw [hz0] at HAN
        have HR : Hid (resE s ps = (9, [])) := Lib.hid (by
         rw [HRS.out, HRN.out.1, if_neg]
         intro h9
         have h8 := List.all_eq_true.1 h9 _ HMEM.out
         rw [hz0] at h8
         cases h8)
        go_wp2_with (first
         | (go_at_call 75; refine (cont_nz A8 n8 c8 _ wu HBS8.out).mono ?_; rintro e9 w6 ⟨rfl, r2⟩; rw [HAN.out]; have HB6 := Lib.hid (below_then hb.out r2); clear r2))
        go_ret3
        exact ⟨_, _, by rw [HR.out]; rfl, fun h9 => by rw [HR.out] at h9; exact absurd h9 (by decide), below_then HB5.out HB6.out⟩
      ·
       obtain rfl : j = nc := by omega
       have hall' : (M.drop rn).all zerB = true := by
        have h9 := hall.out
        rwa [List.take_of_length_le (by rw [HMC.out.1]; exact Nat.le_refl _)] at h9
       obtain ⟨rows, hrows⟩ : ∃ z, z = encM ng t M L := ⟨_, rfl⟩
       obtain ⟨RT, hRT⟩ : ∃ z, z = rt (sumsL rows) := ⟨_, rfl⟩
       have HRS2 : Hid (resE s ps = if RT = s.id then (0, pcsL rows) else (9, [])) := Lib.hid (by
        rw [HRS.out, HRN.out.1, if_pos hall', ← hrows, ← hRT])
       have HMu := Lib.hid (HM5.out.kept hb.out)
       have HBu := Lib.hid (below_then HB5.out hb.out)
       have hone : e8oneB M = true := oneB_true (fun i hi => by
        unfold okRow
        have h8 := HMr.out i hi
        have h9 := HMr.out 0 (by rw [HMl.out]; omega)
        exact decide_eq_true ⟨by omega, by omega, by omega⟩)
       have HC9 := Lib.hid (scode_any ng t ng ng (some ⟨g5, 0, none⟩) M L wu (by omega) (by omega) (by omega) (by omega) HMu.out (by omega) (Nat.le_refl _) hone HMr.out (HMr.out 0 (by rw [HMl.out]; omega)) (by omega) (by omega) (HT.out.kept HBu.out))
       rw [← hrows, ← hRT] at HC9
       clear hall' hone hrows hRT hlj
       by_cases hid9 : RT = s.id
       ·
        have HR : Hid (resE s ps = (0, pcsL rows)) := Lib.hid (by rw [HRS2.out, if_pos hid9])
        have e6 : ((strB RT).toList == (strB s.id).toList) = true := by rw [strB_eq, decide_eq_true hid9]
        clear hid9
        go_wp2_with (first
         | (go_at_call 34; refine HC9.out.mono ?_; rintro e9 w7 ⟨v7, rfl, r1, r2⟩; have HO7 := Lib.hid r1; have HB7 := Lib.hid (below_then HBu.out r2); have HM7 := Lib.hid (HMu.out.kept r2); have p0 := cell_kept r2 p0; have p5 := cell_kept r2 p5; clear r1 r2)
         | ((with_reducible show OpW 89); refine wpList_preM rfl (.tmp 85) (.tmp 88) 45 39 1 rfl Tryz.underlying45 (size1 (by kernel_rfl) _) (some ⟨g5, 0, none⟩) ng ng rn rfl rfl hrn (Nat.le_refl _) ?_)
         | (go_at_call 77; refine (cloneM_any g5 0 rn ng (M.take rn) w7 (MS.preM HM7.out hrn) (by omega)).mono ?_; rintro e9 w8 ⟨⟨v8, rfl⟩, r2⟩; have HB8 := Lib.hid (below_then HB7.out r2); have HO8 := Lib.hid (HO7.out.kept r2); clear r2))
        go_ret3
        exact ⟨_, _, by rw [HR.out]; rfl, fun _ => by rw [HR.out]; exact OLn.low HO8.out HBu.out.size, HB8.out⟩
       ·
        have HR : Hid (resE s ps = (9, [])) := Lib.hid (by rw [HRS2.out, if_neg hid9])
        have e6 : ((strB RT).toList == (strB s.id).toList) = false := by rw [strB_eq, decide_eq_false hid9]
        clear hid9
        go_wp2_with (first
         | (go_at_call 34; refine HC9.out.mono ?_; rintro e9 w7 ⟨v7, rfl, r1, r2⟩; have HB7 := Lib.hid (below_then HBu.out r2); have p0 := cell_kept r2 p0; clear r1 r2))
        go_ret3
        exact ⟨_, _, by rw [HR.out]; rfl, fun h9 => by rw [HR.out] at h9; exact absurd h9 (by decide), HB7.out⟩
   ·
    have f9 : ((ng : Int) == s.d) = false := by rw [beq_eq_false_iff_ne]; exact hfull
    have hne : (st.2.length : Int) ≠ s.d := by rw [← HNG.out]; exact hfull
    have HFN : Hid (tkR s (tkS s st p) (ps.drop (k + 1)) = FIN) := Lib.hid (by
     have h9 := hfn.out
     rw [HDR.out, tkR, if_neg hne] at h9
     exact h9)
    have HOKN := Lib.hid (hok.out.step (p := p) hne)
    have HLN : Hid (st.1.length ≤ 1000 ∧ st.2.length ≤ 1000) := Lib.hid (by have h9 := hok.out.len; have h8 := HNG.out; omega)
    clear hfull hne
    go_wp2_with (first
     | ((with_reducible show OpW 27); refine wpList_loadv _ rfl 48 (.tmp 26) rfl 4 (by kernel_rfl) g (o + k * 4) (peC p A' n' c' B' m' d') (by go_simp) HA.out rfl ?_)
     | ((with_reducible show OpW 11); refine wpList_alloc _ rfl 48 rfl peZ peZero ?_; intro w3 a1 a2 a3; have HV3 := Lib.hid a1; have HX3 := Lib.hid a2; clear a1 a2 a3)
     | ((with_reducible show OpN); refine wpList_storev _ rfl 48 (.tmp 11) (.tmp 27) rfl 4 (by kernel_rfl) wx.heap.size 0 _ peZ (peC p A' n' c' B' m' d') rfl rfl HV3.out rfl (one_pe p A' n' c' B' m' d') (by decide) ?_; intro w4 a1 a2 a3; have HV4 : Hid (BL w4 wx.heap.size 48 (peC p A' n' c' B' m' d')) := Lib.hid a1; have HX4 : Hid (Below wx.heap.size wx w4) := Lib.hid (((Kp.of_below (S := fun _ => False) HX3.out).after a2 (fun i hi e => by omega)).below (Nat.le_refl _) (fun _ h => h.elim)); clear a1 a2 a3; have g0 := cell_kept HX4.out g0; have p3 := cell_kept HX4.out p3; have HTK4 := Lib.hid (htk.out.kept HX4.out))
     | ((with_reducible show OpW 34); refine wpList_loadv _ rfl 48 (.tmp 11) rfl 4 (by kernel_rfl) wx.heap.size 0 (peC p A' n' c' B' m' d') rfl (BL.all HV4.out) rfl ?_)
     | ((with_reducible show OpW 35); refine wpList_plain rfl fun K hK => ?_; refine wp_callV (x := .tmp 33) (args := #[.agg (peC p A' n' c' B' m' d').toArray]) (lb := #[.pointer (some ⟨gi, 0, none⟩), .pointer (some ⟨gs, 0, none⟩), .pointer (some ⟨gg, 0, none⟩)]) (R := fun _ w9 => TK w w9 gs gi gg s R rn e (tkS s st p)) rfl rfl EF.out (by rw [List.map_toArray]; rfl) ((take_any w w4 gs gi gg s R rn e st p _ HTK4.out HSP.out HRW.out HT.out HLN.out.1 HLN.out.2).mono (fun e9 w9 h9 => by obtain ⟨⟨v, hv⟩, h8⟩ := h9; exact ⟨v, hv, h8⟩)) ?_; intro v9 w9 h9; have HTK9 := Lib.hid h9; clear h9; refine hK _ _ ?_; clear hK K))
    go_roundw
    case rel => exact ⟨k + 1, tkS s st p, by omega, by go_num, HTK9, HFN, HOKN⟩
    case measure => simp [intOf]; omega
  ·
   obtain rfl : k = n := by omega
   have hst : st = FIN := by
    have h9 := hfn.out
    rwa [List.drop_eq_nil_of_le (by rw [HPL.out]; exact Nat.le_refl _)] at h9
   obtain rfl : FIN = st := hst.symm
   obtain ⟨wy, hwy⟩ : ∃ x, x = wx := ⟨_, rfl⟩
   have HTK9 := htk
   rw [← hwy] at HTK9 ⊢
   clear hwy htk
   obtain ⟨vi, hi9, hli9⟩ := HTK9.out.i
   obtain ⟨vg, hg9, hlg9⟩ := HTK9.out.g
   obtain ⟨Ai, ci, ev, hls⟩ := hli9.ls (b := 8) stay_int HTK9.out.b (by have h8 := HOK9.out.len; have h9 := HOK9.out.le; have h7 := HD8.out; unfold lim; omega)
   obtain ⟨Ag, cg, ev2, hlb⟩ := hlg9.ls (b := 24) stay_bs HTK9.out.b (by have h9 := HOK9.out.le; have h7 := HD8.out; unfold lim; omega)
   obtain ⟨ng, hng⟩ : ∃ z, z = FIN.2.length := ⟨_, rfl⟩
   have hni : FIN.1.length = ng := by rw [hng]; exact HOK9.out.len
   rw [hni] at ev hls
   rw [← hng] at ev2 hlb
   subst ev
   subst ev2
   have HLS := Lib.hid hls.to_is
   have HLB := Lib.hid hlb.to_ms
   have HNG := Lib.hid hng
   have HSB := Lib.hid HTK9.out.s
   have HB9 := Lib.hid HTK9.out.b
   have i0 := hi9.get (j := 0) rfl
   have g0 := hg9.get (j := 0) rfl
   have p3 := BL.get (j := 3) HTK9.out.s rfl
   have p4 := BL.get (j := 4) HTK9.out.s rfl
   have p5 := BL.get (j := 5) HTK9.out.s rfl
   have hngd : (ng : Int) ≤ s.d := by rw [hng]; exact HOK9.out.le
   clear hi9 hg9 hli9 hlg9 hls hlb hng hni
   cases c1 : decide ((ng : Int) < s.d) with
   | true =>
    have HR : Hid (resE s ps = (10, [])) := Lib.hid (by
     unfold resE
     simp only [HFIN.out]
     rw [if_pos (by rw [← HNG.out]; exact of_decide_eq_true c1)])
    first
     | (exfalso; have h8 := HNG.out; have h9 := of_decide_eq_true c1; omega)
     | (go_wp2_with fail; go_ret3; exact ⟨_, _, by rw [HR.out]; rfl, fun h9 => by rw [HR.out] at h9; exact absurd h9 (by decide), HB9.out⟩)
   | false =>
    have hnd : (ng : Int) = s.d := by have := of_decide_eq_false c1; omega
    obtain ⟨hz9, hd9, ht9, hb9, GV⟩ := HOK9.out.gvn HCD.out (by rw [← HNG.out]; exact hnd)
    obtain ⟨d, hd⟩ : ∃ d, d = s.d.toNat := ⟨_, rfl⟩
    obtain ⟨t, ht⟩ : ∃ t, t = s.t.toNat := ⟨_, rfl⟩
    obtain ⟨L, hL⟩ : ∃ L, L = s.b.toNat := ⟨_, rfl⟩
    obtain ⟨z, hz⟩ : ∃ z, z = FIN.1.map Int.toNat := ⟨_, rfl⟩
    rw [← hd] at hd9 GV
    rw [← ht] at ht9 GV
    rw [← hL] at hb9 GV
    rw [← hz] at hz9 GV
    obtain ⟨M, hM⟩ : ∃ M, M = recM d z FIN.2 L := ⟨_, rfl⟩
    have hMl : M.length = d := by rw [hM, recM_length]
    have hMr : Rect M L := by rw [hM]; exact recM_rect GV.rect (by rw [GV.zl]; exact Nat.le_refl _) (by rw [GV.ml]; exact Nat.le_refl _)
    have HRS : Hid (resE s ps = if (M.drop s.refs.length).all zerB then (if rt (sumsL (encM d t M L)) = s.id then (0, pcsL (encM d t M L)) else (9, [])) else (9, [])) := Lib.hid (by
     unfold resE
     simp only [HFIN.out]
     rw [if_neg (by rw [← HNG.out, hnd]; omega), ← hd, ← ht, ← hL, ← hz, ← hM])
    have hngd2 : ng = d := by omega
    subst hngd2
    have HIS : Hid (IS wy Ai ng ci (ints z)) := Lib.hid (by rw [← hz9]; exact HLS.out)
    have HRC := Lib.hid (fun (wq : World) (hq : Below wy.heap.size wy wq) => reconstruct_ok ng t Ai Ag ng ci cg z FIN.2 L wq (HIS.out.kept hq) (HLB.out.kept hq) GV.gv GV.d1 GV.d8 GV.z16 (Nat.le_refl _) GV.rect GV.L6 GV.reg)
    rw [← hM] at HRC
    have HGV := Lib.hid GV
    have hg18 : 1 ≤ ng ∧ ng ≤ 8 ∧ ng ≤ t ∧ t ≤ 16 := ⟨GV.d1, GV.d8, GV.dt, GV.t16⟩
    have hL16 : 1 ≤ L ∧ L ≤ 65536 := ⟨GV.L1, GV.L6⟩
    have hrn : rn ≤ ng := by have := HRN.out.2; rw [hd9] at this; omega
    have HMl := Lib.hid hMl
    have HMr := Lib.hid hMr
    rw [hd9] at p3 c1
    rw [ht9] at p4
    rw [hd9] at hnd
    clear GV hM hMl hMr hz9 hz hd ht hL hngd
    obtain ⟨nc, hnc⟩ : ∃ z, z = ng - rn := ⟨_, rfl⟩
    have hnc9 : nc ≤ 8 := by omega
    have f8 : ((ng : Int) == (ng : Int)) = true := beq_self_eq_true _
    go_wp2_with (first
     
     | (go_at_call 74; refine (HRC.out wy (Below.refl _ _)).mono ?_; rintro e9 w5 ⟨v5, rfl, hnew⟩; obtain ⟨g5, n5, rfl, hn5, hm5, b5⟩ := hnew.ms (by rw [HMl.out]; unfold lim; omega); rw [HMl.out] at hn5; subst hn5; have HM5 := Lib.hid hm5; have HB5 := Lib.hid (below_then (below_then HB9.out (Below.refl _ _)) b5); have HS5 := Lib.hid ((HSB.out.kept (Below.refl _ _)).kept b5); have p0 := BL.get (j := 0) HS5.out rfl; have p3 := cell_kept b5 p3; have p4 := cell_kept b5 p4; have p5 := cell_kept b5 p5; clear hnew hm5 b5)
     | ((with_reducible show OpW 58); obtain ⟨AC, hAC⟩ : ∃ z, z = cutM (some ⟨g5, 0, none⟩) ng rn 1 := ⟨_, rfl⟩; have HMC : Hid (MS w5 AC nc nc (M.drop rn)) := Lib.hid (by rw [hAC, hnc]; exact HM5.out.cutM hrn); refine wpList_cutM rfl (.tmp 54) (.tmp 57) 45 39 1 rfl Tryz.underlying45 (size1 (by kernel_rfl) _) (some ⟨g5, 0, none⟩) ng ng rn rfl rfl hrn AC nc nc hAC hnc hnc ?_; clear hAC))
    go_loopw [60] (fun iv wr => ∃ j : Nat, j ≤ nc ∧ iv = .int .i64 (j : Int) ∧ Hid (((M.drop rn).take j).all zerB = true) ∧ Hid (Below w5.heap.size w5 wr)) (fun iv _ => nc - (intOf iv).toNat)
    case atStart => exact ⟨0, by omega, rfl, Lib.hid rfl, Lib.hid (Below.refl _ _)⟩
    case round =>
     obtain ⟨j, hj, rfl, hall, hb⟩ := hrel
     obtain ⟨wu, hwu⟩ : ∃ x, x = wr := ⟨_, rfl⟩
     rw [← hwu] at hb ⊢
     clear hwu
     have p0 := cell_kept hb.out p0
     have p3 := cell_kept hb.out p3
     have p4 := cell_kept hb.out p4
     have p5 := cell_kept hb.out p5
     by_cases hlj : j < nc
     ·
      obtain ⟨g8, o8, A8, n8, c8, e8, q8, hb8⟩ := (HMC.out.kept hb.out).2.2.2 j hlj
      have HBS8 := Lib.hid hb8
      have HAN : Hid ((List.range n8).any (fun k => !decide (gB (gR (M.drop rn) j) k = 0)) = !zerB (gR (M.drop rn) j)) := Lib.hid (by rw [← hb8.1]; exact any_nz _)
      have hjd : j < (M.drop rn).length := by rw [HMC.out.1]; exact hlj
      have HNX : Hid (((M.drop rn).take (j + 1)).all zerB = (((M.drop rn).take j).all zerB && zerB (gR (M.drop rn) j))) := Lib.hid (by
       rw [List.take_add_one, List.getElem?_eq_getElem hjd, gR_eq hjd, List.all_append]
       simp)
      have HMEM : Hid (gR (M.drop rn) j ∈ M.drop rn) := Lib.hid (by rw [gR_eq hjd]; exact List.getElem_mem hjd)
      subst e8
      clear hb8 hjd
      cases hz0 : zerB (gR (M.drop rn) j) with
      | true =>
       rw [hz0] at HAN HNX
       have HALL : Hid (((M.drop rn).take (j + 1)).all zerB = true) := Lib.hid (by rw [HNX.out, hall.out]; rfl)
       go_wp2_with (first
        | (go_at_call 75; refine (cont_nz A8 n8 c8 _ wu HBS8.out).mono ?_; rintro e9 w6 ⟨rfl, r2⟩; rw [HAN.out]; have HB6 := Lib.hid (below_then hb.out r2); clear r2))
       go_roundw
       case rel => exact ⟨j + 1, by omega, by go_num, HALL, HB6⟩
       case measure => simp [intOf]; omega
      | false =>
       rw [hz0] at HAN
       have HR : Hid (resE s ps = (9, [])) := Lib.hid (by
        rw [HRS.out, HRN.out.1, if_neg]
        intro h9
        have h8 := List.all_eq_true.1 h9 _ HMEM.out
        rw [hz0] at h8
        cases h8)
       go_wp2_with (first
        | (go_at_call 75; refine (cont_nz A8 n8 c8 _ wu HBS8.out).mono ?_; rintro e9 w6 ⟨rfl, r2⟩; rw [HAN.out]; have HB6 := Lib.hid (below_then hb.out r2); clear r2))
       go_ret3
       exact ⟨_, _, by rw [HR.out]; rfl, fun h9 => by rw [HR.out] at h9; exact absurd h9 (by decide), below_then HB5.out HB6.out⟩
     ·
      obtain rfl : j = nc := by omega
      have hall' : (M.drop rn).all zerB = true := by
       have h9 := hall.out
       rwa [List.take_of_length_le (by rw [HMC.out.1]; exact Nat.le_refl _)] at h9
      obtain ⟨rows, hrows⟩ : ∃ z, z = encM ng t M L := ⟨_, rfl⟩
      obtain ⟨RT, hRT⟩ : ∃ z, z = rt (sumsL rows) := ⟨_, rfl⟩
      have HRS2 : Hid (resE s ps = if RT = s.id then (0, pcsL rows) else (9, [])) := Lib.hid (by
       rw [HRS.out, HRN.out.1, if_pos hall', ← hrows, ← hRT])
      have HMu := Lib.hid (HM5.out.kept hb.out)
      have HBu := Lib.hid (below_then HB5.out hb.out)
      have hone : e8oneB M = true := oneB_true (fun i hi => by
       unfold okRow
       have h8 := HMr.out i hi
       have h9 := HMr.out 0 (by rw [HMl.out]; omega)
       exact decide_eq_true ⟨by omega, by omega, by omega⟩)
      have HC9 := Lib.hid (scode_any ng t ng ng (some ⟨g5, 0, none⟩) M L wu (by omega) (by omega) (by omega) (by omega) HMu.out (by omega) (Nat.le_refl _) hone HMr.out (HMr.out 0 (by rw [HMl.out]; omega)) (by omega) (by omega) (HT.out.kept HBu.out))
      rw [← hrows, ← hRT] at HC9
      clear hall' hone hrows hRT hlj
      by_cases hid9 : RT = s.id
      ·
       have HR : Hid (resE s ps = (0, pcsL rows)) := Lib.hid (by rw [HRS2.out, if_pos hid9])
       have e6 : ((strB RT).toList == (strB s.id).toList) = true := by rw [strB_eq, decide_eq_true hid9]
       clear hid9
       go_wp2_with (first
        | (go_at_call 34; refine HC9.out.mono ?_; rintro e9 w7 ⟨v7, rfl, r1, r2⟩; have HO7 := Lib.hid r1; have HB7 := Lib.hid (below_then HBu.out r2); have HM7 := Lib.hid (HMu.out.kept r2); have p0 := cell_kept r2 p0; have p5 := cell_kept r2 p5; clear r1 r2)
        | ((with_reducible show OpW 89); refine wpList_preM rfl (.tmp 85) (.tmp 88) 45 39 1 rfl Tryz.underlying45 (size1 (by kernel_rfl) _) (some ⟨g5, 0, none⟩) ng ng rn rfl rfl hrn (Nat.le_refl _) ?_)
        | (go_at_call 77; refine (cloneM_any g5 0 rn ng (M.take rn) w7 (MS.preM HM7.out hrn) (by omega)).mono ?_; rintro e9 w8 ⟨⟨v8, rfl⟩, r2⟩; have HB8 := Lib.hid (below_then HB7.out r2); have HO8 := Lib.hid (HO7.out.kept r2); clear r2))
       go_ret3
       exact ⟨_, _, by rw [HR.out]; rfl, fun _ => by rw [HR.out]; exact OLn.low HO8.out HBu.out.size, HB8.out⟩
      ·
       have HR : Hid (resE s ps = (9, [])) := Lib.hid (by rw [HRS2.out, if_neg hid9])
       have e6 : ((strB RT).toList == (strB s.id).toList) = false := by rw [strB_eq, decide_eq_false hid9]
       clear hid9
       go_wp2_with (first
        | (go_at_call 34; refine HC9.out.mono ?_; rintro e9 w7 ⟨v7, rfl, r1, r2⟩; have HB7 := Lib.hid (below_then HBu.out r2); have p0 := cell_kept r2 p0; clear r1 r2))
       go_ret3
       exact ⟨_, _, by rw [HR.out]; rfl, fun h9 => by rw [HR.out] at h9; exact absurd h9 (by decide), HB7.out⟩
end
end Go.Proofs.YtfcakjpljjnjnaaGreatDoor
