/- Rebalance. -/
import Derived.Test.YtklfficlegfhjaaGreatKkm
namespace Go.Proofs.YtklfficlegfhjaaGreat
open Go Go.RowKit Go.Shelf Go.WideMaps Go.ChangeMaps Gf Sha

theorem mg_ne {P : Program} {k : TypeId} {enc : Int → Value} {z : Value} {w : World} {b g : Nat} {f : Int → Value} {t : TypeId} {l : List Value} (h : MG P k enc z w b f) (hb : BL w g t l) : b ≠ g := fun e => by
  subst e
  obtain ⟨_, ⟨L, ⟨es, clock, h1, _⟩, _⟩, _⟩ := h
  have h9 := hb.symm.trans h1
  cases h9
theorem mg_far {P : Program} {k : TypeId} {enc : Int → Value} {z : Value} {w w' : World} {b : Nat} {f : Int → Value} {te' : TypeId} {m n j : Nat} {u u' : Value} {l xs : List Value} (h : MG P k enc z w b f) (h2 : RW w te' m u n l) (ap : AppR w te' m u n j l xs u' w') : MG P k enc z w' b f :=
  h.kp ap.kp (fun e => by
    obtain ⟨c, hb⟩ := h2.ty e
    exact mg_ne h hb rfl)
def rebalV (ws : List Wt) (hs : List Hd) (ps : List Pl) (gone : List Int) (bu : Int) : List Pl × Int :=
  if wantsB ws = true ∧ holdersB hs = true then assignV ws (stayH gone hs) (stayP gone ps) bu else ([], 1)
theorem stay_next {α : Type} {f : α → Int} {gone : List Int} {l : List α} {k : Nat} {x : α} (h : l[k]? = some x) : (l.take (k + 1)).filter (fun h => decide (f h ∉ gone)) = (l.take k).filter (fun h => decide (f h ∉ gone)) ++ (if f x ∈ gone then [] else [x]) := by
  rw [take_next h, List.filter_append]
  congr 1
  by_cases e : f x ∈ gone
  · rw [if_pos e, List.filter_cons_of_neg (by simp [e])]; rfl
  · rw [if_neg e, List.filter_cons_of_pos (by simp [e])]; rfl
section
set_option maxRecDepth 100000
set_option maxHeartbeats 4000000
theorem rebal_any (A : Option Addr) (n c : Nat) (ws : List Wt) (B : Option Addr) (m d : Nat) (hs : List Hd) (P : Option Addr) (p q : Nat) (ps : List Pl) (G : Option Addr) (gn gc : Nat) (gone : List Int) (bu : Int) (w : World) (h : LS rWt 4 40 w A n c ws) (hh : LS rHd 3 24 w B m d hs) (hp : LS rPl 3 32 w P p q ps) (hg : LS rInt 1 8 w G gn gc gone) (hpm : p ≤ 1000) :
    Calls Tryz.prog 30 #[.slice A n c, .slice B m d, .slice P p q, .slice G gn gc, .int .i64 bu] w fun e w' => ∃ A' n' c', e = .returned (.tuple #[.slice A' n' c', .int .i64 (rebalV ws hs ps gone bu).2]) ∧ LS rPl 3 32 w' A' n' c' (rebalV ws hs ps gone bu).1 ∧ Below w.heap.size w w' := by
  have hml := hh.len_le
  have hgn := hg.len_le
  have H := Lib.hid h
  have HH := Lib.hid hh
  have HP := Lib.hid hp
  have HG := Lib.hid hg
  have HLH := Lib.hid hh.1
  have HLP := Lib.hid hp.1
  have HLG := Lib.hid hg.1
  have HOH := Lib.hid (LS.okHd hh)
  have HOP := Lib.hid (LS.okPl hp)
  clear h hh hp hg
  cases f1 : wantsB ws with
  | false =>
    have HN : Hid (rebalV ws hs ps gone bu = ([], 1)) := Lib.hid (if_neg (fun h => by rw [f1] at h; cases h.1))
    go_enter Tryz.func30, Tryz.ntmps30
    go_wp2_with (first
      | (go_at_call 41; refine (wants_any A n c ws w H.out).mono ?_; rintro e va ⟨rfl, b1⟩; rw [f1]; have HBA := Lib.hid b1; clear b1))
    go_ret2
    exact ⟨none, 0, 0, by rw [HN.out]; rfl, by rw [HN.out]; exact LS.nil, HBA.out⟩
  | true =>
    cases f2 : holdersB hs with
    | false =>
      have HN : Hid (rebalV ws hs ps gone bu = ([], 1)) := Lib.hid (if_neg (fun h => by rw [f2] at h; cases h.2))
      go_enter Tryz.func30, Tryz.ntmps30
      go_wp2_with (first
        | (go_at_call 41; refine (wants_any A n c ws w H.out).mono ?_; rintro e va ⟨rfl, b1⟩; rw [f1]; have HBA := Lib.hid b1; clear b1)
        | (go_at_call 42; refine (holders_any B m d hs va (HH.out.kept stay_hd HBA.out)).mono ?_; rintro e vb ⟨rfl, b1⟩; rw [f2]; have HBB := Lib.hid (below_then HBA.out b1); clear b1))
      go_ret2
      exact ⟨none, 0, 0, by rw [HN.out]; rfl, by rw [HN.out]; exact LS.nil, HBB.out⟩
    | true =>
      have HN : Hid (rebalV ws hs ps gone bu = assignV ws (stayH gone hs) (stayP gone ps) bu) := Lib.hid (if_pos ⟨f1, f2⟩)
      go_enter Tryz.func30, Tryz.ntmps30
      go_wp2_with (first
        | (go_at_call 41; refine (wants_any A n c ws w H.out).mono ?_; rintro e va ⟨rfl, b1⟩; rw [f1]; have HBA := Lib.hid b1; clear b1)
        | (go_at_call 42; refine (holders_any B m d hs va (HH.out.kept stay_hd HBA.out)).mono ?_; rintro e vb ⟨rfl, b1⟩; rw [f2]; have HBB := Lib.hid (below_then HBA.out b1); clear b1)
        | ((with_reducible show wpList _ _ _ (⟨some 29, _, _, _, _, _⟩ :: _) _ _); refine wpList_makeG (enc := intV) _ rfl 110 3 rfl (.bool false) ?_; intro w1 a1 a2 a3; have HM1 := Lib.hid a1; have HB1 := Lib.hid (below_then HBB.out a2); clear a1 a2 a3))
      clear f1 f2
      go_loopw [32] (fun iv wr => ∃ k : Nat, k ≤ gn ∧ iv = .int .i64 (k : Int) ∧ Hid (MG Tryz.prog 3 intV (.bool false) wr vb.heap.size (fun y => .bool (decide (y ∈ gone.take k)))) ∧ Hid (Below w.heap.size w wr)) (fun iv _ => gn - (intOf iv).toNat)
      case atStart => exact ⟨0, by omega, rfl, Lib.hid (HM1.out.to (fun y => by simp)), HB1⟩
      case round =>
        obtain ⟨k, hk, rfl, hmb, hb⟩ := hrel
        obtain ⟨wx, hwx⟩ : ∃ x, x = wr := ⟨_, rfl⟩
        rw [← hwx] at hmb hb ⊢
        clear hwx
        by_cases hlt : k < gn
        · obtain ⟨z, gg, og, cs, hz, eg, hat, rfl, hwf⟩ := HG.out.at_ stay_int hb.out hlt
          subst eg
          rw [Nat.mul_one] at hat
          have q0 : wx.cell? ⟨gg, og + k, none⟩ = some (.int .i64 z) := hat 0 _ rfl
          have HK := Lib.hid (keyI z hwf)
          have HX := Lib.hid hz
          clear hat hz hwf
          go_wp2_with (first
            | ((with_reducible show wpList _ _ _ (⟨none, _, _, _, _, _⟩ :: _) _ _); refine wpList_updG _ intV_inj rfl (.tmp 36) (.tmp 37) (.const (.bool true)) 110 3 4 rfl devKeyed mapIB (.bool false) vb.heap.size _ rfl hmb.out z (.bool true) rfl rfl HK.out ?_; intro w5 y1 y2 y3; have HM5 := Lib.hid y1; have HK5 := Lib.hid y2; clear y1 y2 y3))
          go_roundw
          case rel =>
            refine ⟨k + 1, by omega, by go_num, Lib.hid (HM5.out.to (fun y => ?_)), Lib.hid ?_⟩
            · by_cases hy : y = z
              · subst hy; rw [if_pos rfl, decide_eq_true ((mem_next HX.out).2 (.inr rfl))]
              · rw [if_neg hy]
                congr 1
                exact decide_eq_decide.2 ((mem_next HX.out).trans (or_iff_left hy)).symm
            · exact ((Kp.of_below (S := fun i => i = vb.heap.size) hb.out).trans HK5.out).below (Nat.le_refl _) (fun i e => by have := HBB.out.size; omega)
          case measure => simp [intOf]; omega
        · obtain rfl : k = gn := by omega
          rw [take_end HLG.out] at hmb
          obtain ⟨mb, hmbe⟩ : ∃ b, b = vb.heap.size := ⟨_, rfl⟩
          rw [← hmbe] at hmb ⊢
          clear hmbe HM1 HB1
          have HMX := hmb
          have HBX := hb
          clear hmb hb
          go_wp2_with fail
          go_loopw [15, 41] (fun v iv wr => ∃ k : Nat, k ≤ m ∧ iv = .int .i64 (k : Int) ∧ Hid (OwnC (fun x => hdL x) 3 76 wr w.heap.size v ((hs.take k).filter (fun h => decide (h.dv ∉ gone)))) ∧ Hid (Below w.heap.size w wr) ∧ Hid (MG Tryz.prog 3 intV (.bool false) wr mb (fun y => .bool (decide (y ∈ gone))))) (fun _ iv _ => m - (intOf iv).toNat)
          case atStart => exact ⟨0, by omega, rfl, Lib.hid OwnC.nil, HBX, HMX⟩
          case round =>
            obtain ⟨k, hk, rfl, ho, hb, hmb⟩ := hrel
            obtain ⟨wx, hwx⟩ : ∃ x, x = wr := ⟨_, rfl⟩
            rw [← hwx] at ho hb hmb ⊢
            clear hwx
            by_cases hlt : k < m
            · obtain ⟨x, g, o, cs, hx, ea, hat, hr⟩ := HH.out.at_ stay_hd hb.out hlt
              obtain ⟨rfl, hok⟩ := hr
              subst ea
              have HX := Lib.hid hx
              have HA := Lib.hid hat
              have HK := Lib.hid (keyI x.dv hok.1)
              clear hx hat hok
              by_cases hin : x.dv ∈ gone
              · have f1 : decide (x.dv ∈ gone) = true := decide_eq_true hin
                have HF : Hid ((hs.take (k + 1)).filter (fun h => decide (h.dv ∉ gone)) = (hs.take k).filter (fun h => decide (h.dv ∉ gone))) := Lib.hid (by rw [stay_next (f := Hd.dv) HX.out, if_pos hin, List.append_nil])
                clear hin
                go_wp2_with (first
                  | ((with_reducible show wpList _ _ _ (⟨some 44, _, _, _, _, _⟩ :: _) _ _); refine wpList_loadv _ rfl 76 (.tmp 43) rfl 3 (by kernel_rfl) g (o + k * 3) (hdL x) (by go_simp) HA.out rfl ?_)
                  | ((with_reducible show wpList _ _ _ (⟨some 17, _, _, _, _, _⟩ :: _) _ _); refine wpList_alloc _ rfl 76 rfl hdZ hdZero ?_; intro w3 a1 a2 a3; have HV3 := Lib.hid a1; have HX3 := Lib.hid a2; clear a1 a2 a3)
                  | ((with_reducible show wpList _ _ _ (⟨none, _, _, _, _, _⟩ :: _) _ _); refine wpList_storev _ rfl 76 (.tmp 17) (.tmp 44) rfl 3 (by kernel_rfl) wx.heap.size 0 _ hdZ (hdL x) rfl rfl HV3.out rfl (one_hd x) (by decide) ?_; intro w4 a1 a2 a3; have HV4 : Hid (BL w4 wx.heap.size 76 (hdL x)) := Lib.hid a1; have HX4 : Hid (Below wx.heap.size wx w4) := Lib.hid (((Kp.of_below (S := fun _ => False) HX3.out).after a2 (fun i hi e => by omega)).below (Nat.le_refl _) (fun _ h => h.elim)); clear a1 a2 a3; have HB4 := Lib.hid (below_thenB hb.out hb.out.size HX4.out); have HM4 := Lib.hid (hmb.out.kept HX4.out); have HO4 := Lib.hid (ho.out.kept HX4.out);  have r1 := HV4.out.get (j := 0) rfl)
                  | ((with_reducible show wpList _ _ _ (⟨some 48, _, _, _, _, _⟩ :: _) _ _); refine wpList_lookGv _ rfl (.tmp 45) (.tmp 47) 110 3 4 rfl devKeyed mapIB (.bool false) boolZero mb _ rfl HM4.out x.dv rfl HK.out (.bool true) (by rw [f1]) ?_))
                go_roundw
                case rel => exact ⟨k + 1, by omega, by go_num, by rw [HF.out]; exact HO4, HB4, HM4 ⟩
                case measure => simp [intOf]; omega
              · have f1 : decide (x.dv ∈ gone) = false := decide_eq_false hin
                have HF : Hid ((hs.take (k + 1)).filter (fun h => decide (h.dv ∉ gone)) = (hs.take k).filter (fun h => decide (h.dv ∉ gone)) ++ [x]) := Lib.hid (by rw [stay_next (f := Hd.dv) HX.out, if_neg hin])
                have HLN : Hid (((hs.take k).filter (fun h => decide (h.dv ∉ gone))).length ≤ k) := Lib.hid (filt_le _ _ _)
                clear hin
                go_wp2_with (first
                  | ((with_reducible show wpList _ _ _ (⟨some 44, _, _, _, _, _⟩ :: _) _ _); refine wpList_loadv _ rfl 76 (.tmp 43) rfl 3 (by kernel_rfl) g (o + k * 3) (hdL x) (by go_simp) HA.out rfl ?_)
                  | ((with_reducible show wpList _ _ _ (⟨some 17, _, _, _, _, _⟩ :: _) _ _); refine wpList_alloc _ rfl 76 rfl hdZ hdZero ?_; intro w3 a1 a2 a3; have HV3 := Lib.hid a1; have HX3 := Lib.hid a2; clear a1 a2 a3)
                  | ((with_reducible show wpList _ _ _ (⟨none, _, _, _, _, _⟩ :: _) _ _); refine wpList_storev _ rfl 76 (.tmp 17) (.tmp 44) rfl 3 (by kernel_rfl) wx.heap.size 0 _ hdZ (hdL x) rfl rfl HV3.out rfl (one_hd x) (by decide) ?_; intro w4 a1 a2 a3; have HV4 : Hid (BL w4 wx.heap.size 76 (hdL x)) := Lib.hid a1; have HX4 : Hid (Below wx.heap.size wx w4) := Lib.hid (((Kp.of_below (S := fun _ => False) HX3.out).after a2 (fun i hi e => by omega)).below (Nat.le_refl _) (fun _ h => h.elim)); clear a1 a2 a3; have HB4 := Lib.hid (below_thenB hb.out hb.out.size HX4.out); have HM4 := Lib.hid (hmb.out.kept HX4.out); have HO4 := Lib.hid (ho.out.kept HX4.out);  have r1 := HV4.out.get (j := 0) rfl)
                  | ((with_reducible show wpList _ _ _ (⟨some 48, _, _, _, _, _⟩ :: _) _ _); refine wpList_lookGv _ rfl (.tmp 45) (.tmp 47) 110 3 4 rfl devKeyed mapIB (.bool false) boolZero mb _ rfl HM4.out x.dv rfl HK.out (.bool false) (by rw [f1]) ?_)
                  | ((with_reducible show wpList _ _ _ (⟨some 51, _, _, _, _, _⟩ :: _) _ _); refine wpList_loadv _ rfl 76 (.tmp 17) rfl 3 (by kernel_rfl) wx.heap.size 0 (hdL x) rfl (BL.all HV4.out) rfl ?_)
                  | ((with_reducible show wpList _ _ _ (⟨some 52, _, _, _, _, _⟩ :: _) _ _); refine wpList_bslice _ rfl 23 76 1 _ rfl #[(0, .agg (hdL x).toArray)] (by rw [List.map_toArray]; rfl) (hdL x) (bslHd1 x _) ?_; intro w5 a1 a2 a3; have HG5 := Lib.hid a1; have HB5 := Lib.hid (below_then HB4.out a2); have HM5 := Lib.hid (HM4.out.kept a2); have HO5 := Lib.hid (HO4.out.kept a2);  clear a1 a2 a3)
                  | ((with_reducible show wpList _ _ _ (⟨some 53, _, _, _, _, _⟩ :: _) _ _); obtain ⟨iS, i1, i2, i3, i4⟩ := info_some infoHd; refine wpList_appRW _ rfl (.tmp 50) (.tmp 52) 23 76 3 iS _ rfl Tryz.underlying23 i1 i2 i3 rfl _ _ _ rfl HO5.out.1 w4.heap.size (hdL x) rfl HG5.out rfl (one_hd x) (by rw [i4]; have := HLN.out; omega) (by have := HLN.out; omega) ?_; intro v' w6 ap; have HO6 := Lib.hid (HO5.out.push ap HB5.out.size); have HB6 : Hid (Below w.heap.size w w6) := Lib.hid (((Kp.of_below (S := fun _ => False) HB5.out).after ap.kp (fun i hi e => by have := HO5.out.2 i e; omega)).below (Nat.le_refl _) (fun _ h => h.elim)); have HM6 := Lib.hid (mg_far HM5.out HO5.out.1 ap);  clear ap i1 i2 i3 i4))
                go_roundw
                case rel => exact ⟨k + 1, by omega, by go_num, by rw [HF.out]; exact HO6, HB6, HM6 ⟩
                case measure => simp [intOf]; omega
            · obtain rfl : k = m := by omega
              have e1 : hs.take k = hs := take_end HLH.out
              rw [e1] at ho
              obtain ⟨A1, c1, ev, _⟩ := ho.out.1.form
              obtain ⟨n1, hn1⟩ : ∃ n1, n1 = (hs.filter (fun h => decide (h.dv ∉ gone))).length := ⟨_, rfl⟩
              rw [← hn1] at ev
              clear hn1 e1
              subst ev
              have HLS := ho
              have HBY := hb
              have HMY := hmb
              clear ho hb hmb
              go_wp2_with fail
              go_loopw [18, 57] (fun v iv wr => ∃ k : Nat, k ≤ p ∧ iv = .int .i64 (k : Int) ∧ Hid (OwnC (fun x => plL x) 3 85 wr w.heap.size v ((ps.take k).filter (fun h => decide (h.dv ∉ gone)))) ∧ Hid (Below w.heap.size w wr) ∧ Hid (MG Tryz.prog 3 intV (.bool false) wr mb (fun y => .bool (decide (y ∈ gone)))) ∧ Hid (OwnC (fun x => hdL x) 3 76 wr w.heap.size (.slice A1 n1 c1) (stayH gone hs))) (fun _ iv _ => p - (intOf iv).toNat)
              case atStart => exact ⟨0, by omega, rfl, Lib.hid OwnC.nil, HBY, HMY, HLS⟩
              case round =>
                obtain ⟨k, hk, rfl, ho, hb, hmb, hpl⟩ := hrel
                obtain ⟨wx, hwx⟩ : ∃ x, x = wr := ⟨_, rfl⟩
                rw [← hwx] at ho hb hmb hpl ⊢
                clear hwx
                by_cases hlt : k < p
                · obtain ⟨x, g, o, hx, ea, hat, hok⟩ := HP.out.pl_at hb.out hlt
                  subst ea
                  have HX := Lib.hid hx
                  have HA := Lib.hid hat
                  have HK := Lib.hid (keyI x.dv hok.2.2)
                  clear hx hat hok
                  by_cases hin : x.dv ∈ gone
                  · have f1 : decide (x.dv ∈ gone) = true := decide_eq_true hin
                    have HF : Hid ((ps.take (k + 1)).filter (fun h => decide (h.dv ∉ gone)) = (ps.take k).filter (fun h => decide (h.dv ∉ gone))) := Lib.hid (by rw [stay_next (f := Pl.dv) HX.out, if_pos hin, List.append_nil])
                    clear hin
                    go_wp2_with (first
                      | ((with_reducible show wpList _ _ _ (⟨some 60, _, _, _, _, _⟩ :: _) _ _); refine wpList_loadv _ rfl 85 (.tmp 59) rfl 3 (by kernel_rfl) g (o + k * 3) (plL x) (by go_simp) HA.out rfl ?_)
                      | ((with_reducible show wpList _ _ _ (⟨some 20, _, _, _, _, _⟩ :: _) _ _); refine wpList_alloc _ rfl 85 rfl plZ plZero ?_; intro w3 a1 a2 a3; have HV3 := Lib.hid a1; have HX3 := Lib.hid a2; clear a1 a2 a3)
                      | ((with_reducible show wpList _ _ _ (⟨none, _, _, _, _, _⟩ :: _) _ _); refine wpList_storev _ rfl 85 (.tmp 20) (.tmp 60) rfl 3 (by kernel_rfl) wx.heap.size 0 _ plZ (plL x) rfl rfl HV3.out rfl (one_pl x) (by decide) ?_; intro w4 a1 a2 a3; have HV4 : Hid (BL w4 wx.heap.size 85 (plL x)) := Lib.hid a1; have HX4 : Hid (Below wx.heap.size wx w4) := Lib.hid (((Kp.of_below (S := fun _ => False) HX3.out).after a2 (fun i hi e => by omega)).below (Nat.le_refl _) (fun _ h => h.elim)); clear a1 a2 a3; have HB4 := Lib.hid (below_thenB hb.out hb.out.size HX4.out); have HM4 := Lib.hid (hmb.out.kept HX4.out); have HO4 := Lib.hid (ho.out.kept HX4.out); have HP4 := Lib.hid (hpl.out.kept HX4.out); have r1 := HV4.out.get (j := 2) rfl)
                      | ((with_reducible show wpList _ _ _ (⟨some 64, _, _, _, _, _⟩ :: _) _ _); refine wpList_lookGv _ rfl (.tmp 61) (.tmp 63) 110 3 4 rfl devKeyed mapIB (.bool false) boolZero mb _ rfl HM4.out x.dv rfl HK.out (.bool true) (by rw [f1]) ?_))
                    go_roundw
                    case rel => exact ⟨k + 1, by omega, by go_num, by rw [HF.out]; exact HO4, HB4, HM4 , HP4⟩
                    case measure => simp [intOf]; omega
                  · have f1 : decide (x.dv ∈ gone) = false := decide_eq_false hin
                    have HF : Hid ((ps.take (k + 1)).filter (fun h => decide (h.dv ∉ gone)) = (ps.take k).filter (fun h => decide (h.dv ∉ gone)) ++ [x]) := Lib.hid (by rw [stay_next (f := Pl.dv) HX.out, if_neg hin])
                    have HLN : Hid (((ps.take k).filter (fun h => decide (h.dv ∉ gone))).length ≤ k) := Lib.hid (filt_le _ _ _)
                    clear hin
                    go_wp2_with (first
                      | ((with_reducible show wpList _ _ _ (⟨some 60, _, _, _, _, _⟩ :: _) _ _); refine wpList_loadv _ rfl 85 (.tmp 59) rfl 3 (by kernel_rfl) g (o + k * 3) (plL x) (by go_simp) HA.out rfl ?_)
                      | ((with_reducible show wpList _ _ _ (⟨some 20, _, _, _, _, _⟩ :: _) _ _); refine wpList_alloc _ rfl 85 rfl plZ plZero ?_; intro w3 a1 a2 a3; have HV3 := Lib.hid a1; have HX3 := Lib.hid a2; clear a1 a2 a3)
                      | ((with_reducible show wpList _ _ _ (⟨none, _, _, _, _, _⟩ :: _) _ _); refine wpList_storev _ rfl 85 (.tmp 20) (.tmp 60) rfl 3 (by kernel_rfl) wx.heap.size 0 _ plZ (plL x) rfl rfl HV3.out rfl (one_pl x) (by decide) ?_; intro w4 a1 a2 a3; have HV4 : Hid (BL w4 wx.heap.size 85 (plL x)) := Lib.hid a1; have HX4 : Hid (Below wx.heap.size wx w4) := Lib.hid (((Kp.of_below (S := fun _ => False) HX3.out).after a2 (fun i hi e => by omega)).below (Nat.le_refl _) (fun _ h => h.elim)); clear a1 a2 a3; have HB4 := Lib.hid (below_thenB hb.out hb.out.size HX4.out); have HM4 := Lib.hid (hmb.out.kept HX4.out); have HO4 := Lib.hid (ho.out.kept HX4.out); have HP4 := Lib.hid (hpl.out.kept HX4.out); have r1 := HV4.out.get (j := 2) rfl)
                      | ((with_reducible show wpList _ _ _ (⟨some 64, _, _, _, _, _⟩ :: _) _ _); refine wpList_lookGv _ rfl (.tmp 61) (.tmp 63) 110 3 4 rfl devKeyed mapIB (.bool false) boolZero mb _ rfl HM4.out x.dv rfl HK.out (.bool false) (by rw [f1]) ?_)
                      | ((with_reducible show wpList _ _ _ (⟨some 67, _, _, _, _, _⟩ :: _) _ _); refine wpList_loadv _ rfl 85 (.tmp 20) rfl 3 (by kernel_rfl) wx.heap.size 0 (plL x) rfl (BL.all HV4.out) rfl ?_)
                      | ((with_reducible show wpList _ _ _ (⟨some 68, _, _, _, _, _⟩ :: _) _ _); refine wpList_bslice _ rfl 24 85 1 _ rfl #[(0, .agg (plL x).toArray)] (by rw [List.map_toArray]; rfl) (plL x) (bslPl1 x _) ?_; intro w5 a1 a2 a3; have HG5 := Lib.hid a1; have HB5 := Lib.hid (below_then HB4.out a2); have HM5 := Lib.hid (HM4.out.kept a2); have HO5 := Lib.hid (HO4.out.kept a2); have HP5 := Lib.hid (HP4.out.kept a2); clear a1 a2 a3)
                      | ((with_reducible show wpList _ _ _ (⟨some 69, _, _, _, _, _⟩ :: _) _ _); obtain ⟨iS, i1, i2, i3, i4⟩ := info_some infoPl; refine wpList_appRW _ rfl (.tmp 66) (.tmp 68) 24 85 3 iS _ rfl Tryz.underlying24 i1 i2 i3 rfl _ _ _ rfl HO5.out.1 w4.heap.size (plL x) rfl HG5.out rfl (one_pl x) (by rw [i4]; have := HLN.out; omega) (by have := HLN.out; omega) ?_; intro v' w6 ap; have HO6 := Lib.hid (HO5.out.push ap HB5.out.size); have HB6 : Hid (Below w.heap.size w w6) := Lib.hid (((Kp.of_below (S := fun _ => False) HB5.out).after ap.kp (fun i hi e => by have := HO5.out.2 i e; omega)).below (Nat.le_refl _) (fun _ h => h.elim)); have HM6 := Lib.hid (mg_far HM5.out HO5.out.1 ap); have HP6 := Lib.hid (HP5.out.far HO5.out.1 ap (by decide)); clear ap i1 i2 i3 i4))
                    go_roundw
                    case rel => exact ⟨k + 1, by omega, by go_num, by rw [HF.out]; exact HO6, HB6, HM6 , HP6⟩
                    case measure => simp [intOf]; omega
                · obtain rfl : k = p := by omega
                  have e1 : ps.take k = ps := take_end HLP.out
                  rw [e1] at ho
                  obtain ⟨A2, c2, ev, hls⟩ := ho.out.ls (R := rPl) (b := 32) plL_len' (fun x hx => ⟨rfl, HOP.out x (List.mem_filter.1 hx).1⟩) (by have h9 := List.length_filter_le (fun h : Pl => decide (h.dv ∉ gone)) ps; have := HLP.out; unfold lim; omega)
                  have hl2 : (ps.filter (fun h => decide (h.dv ∉ gone))).length ≤ 1000 := by
                    have h9 := List.length_filter_le (fun h : Pl => decide (h.dv ∉ gone)) ps
                    have := HLP.out
                    omega
                  obtain ⟨n2, hn2⟩ : ∃ n2, n2 = (ps.filter (fun h => decide (h.dv ∉ gone))).length := ⟨_, rfl⟩
                  rw [← hn2] at ev hls hl2
                  subst ev
                  have HL2 := Lib.hid hl2
                  have HLS2 := Lib.hid hls
                  obtain ⟨A3, c3, ev, hls3⟩ := hpl.out.ls (R := rHd) (b := 24) hdL_len' (fun x hx => ⟨rfl, HOH.out x (List.mem_filter.1 hx).1⟩) (by have h9 := List.length_filter_le (fun h : Hd => decide (h.dv ∉ gone)) hs; have := HLH.out; unfold lim stayH; omega)
                  injection ev with e3 e4 e5
                  rw [← e3, ← e4, ← e5] at hls3
                  have HLS3 := Lib.hid hls3
                  clear hls hls3 ho e1 hn2 e3 e4 e5 hl2
                  go_wp2_with (first
                    | (go_at_call 28; refine (assign_any A n c ws A1 n1 c1 (stayH gone hs) A2 n2 c2 (stayP gone ps) bu wx (H.out.kept stay_wt hb.out) HLS3.out HLS2.out HL2.out).mono ?_; rintro e w8 ⟨A8, n8, c8, rfl, r1, r2⟩; have HR8 := Lib.hid r1; have HB8 := Lib.hid (below_then hb.out r2); clear r1 r2))
                  go_ret2
                  exact ⟨A8, n8, c8, by rw [HN.out]; rfl, by rw [HN.out]; exact HR8.out, HB8.out⟩
end
end Go.Proofs.YtklfficlegfhjaaGreat
