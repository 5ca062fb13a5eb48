/- The walk of EpochUnordered. -/
import Derived.Test.YtfonbliomokffaaGreatC22
namespace Go.Proofs.YtfonbliomokffaaGreat
open Go Go.RowKit Gf Sha

theorem rev_at {es : List En} {n k : Nat} (hn : es.length = n) (hk : k < n) : es.reverse[k]? = es[n - 1 - k]? := by
  rw [List.getElem?_reverse (by omega), hn]
theorem unB_len {es : List En} (h : longB es = false) : es.length ≤ 30 := by
  unfold longB at h
  rw [Bool.or_eq_false_iff] at h
  have := of_decide_eq_false h.2
  omega
section
set_option maxRecDepth 100000
set_option maxHeartbeats 8000000
theorem unordered_walk (A : Option Addr) (n c : Nat) (es : List En) (B' : Option Addr) (m d : Nat) (ex : List Int) (V u : Int) (w : World) (h : LS rEn 6 72 w A n c es) (hex : LS rInt 1 8 w B' m d ex) (hu : wfI u) :
    Calls Tryz.prog 5 #[.slice A n c, .slice B' m d, .int .i64 V, .int .i64 u] w fun e w' => e = .returned (.bool true) ∧ Below w.heap.size w w' := by
  have hn := h.len_le
  have hm := hex.len_le
  have H := Lib.hid h
  have HL := Lib.hid h.1
  have HEX := Lib.hid hex
  have HU := Lib.hid hu
  clear h hex hu
  cases hl : longB es with
  | true =>
    go_enter Tryz.func5, Tryz.ntmps5
    go_wp2_with (first
      | (go_at_call 9; refine (awake_any _).mono ?_; rintro e w1 ⟨rfl, b1⟩; have HB1 := Lib.hid b1; have HA1 := Lib.hid (H.out.kept stay_en b1); clear b1)
      | (go_at_call 10; refine (long_any A n c es w1 HA1.out).mono ?_; rintro e w2 ⟨rfl, b1⟩; rw [hl]; have HB2 := Lib.hid (below_then HB1.out b1); have HA2 := Lib.hid (HA1.out.kept stay_en b1); clear b1)
      | fail)
    go_ret
    exact ⟨rfl, HB2.out⟩
  | false =>
    have HN30 : Hid (n ≤ 30) := Lib.hid (by have := unB_len hl; have := HL.out; omega)
    cases hx : decide ((20 : Int) < (m : Int)) with
    | true =>
      go_enter Tryz.func5, Tryz.ntmps5
      go_wp2_with (first
        | (go_at_call 9; refine (awake_any _).mono ?_; rintro e w1 ⟨rfl, b1⟩; have HB1 := Lib.hid b1; have HA1 := Lib.hid (H.out.kept stay_en b1); clear b1)
        | (go_at_call 10; refine (long_any A n c es w1 HA1.out).mono ?_; rintro e w2 ⟨rfl, b1⟩; rw [hl]; have HB2 := Lib.hid (below_then HB1.out b1); have HA2 := Lib.hid (HA1.out.kept stay_en b1); clear b1)
        | fail)
      go_ret
      exact ⟨rfl, HB2.out⟩
    | false =>
      cases hd : decide (DistE es) with
      | false =>
        go_enter Tryz.func5, Tryz.ntmps5
        go_wp2_with (first
          | (go_at_call 9; refine (awake_any _).mono ?_; rintro e w1 ⟨rfl, b1⟩; have HB1 := Lib.hid b1; have HA1 := Lib.hid (H.out.kept stay_en b1); clear b1)
          | (go_at_call 10; refine (long_any A n c es w1 HA1.out).mono ?_; rintro e w2 ⟨rfl, b1⟩; rw [hl]; have HB2 := Lib.hid (below_then HB1.out b1); have HA2 := Lib.hid (HA1.out.kept stay_en b1); clear b1)
          | (go_at_call 16; refine (distinct_any A n c es w2 HA2.out).mono ?_; rintro e w3 ⟨rfl, b1⟩; rw [hd]; have HB3 := Lib.hid (below_then HB2.out b1); clear b1)
          | fail)
        go_ret
        exact ⟨rfl, HB3.out⟩
      | true =>
        have HD : Hid (pendL (dd es) V u = pendL (dd es.reverse) V u ∧ condL (dd es) V u = condL (dd es.reverse) V u ∧ dropL (dd es) V ex = dropL (dd es.reverse) V ex) := Lib.hid (un_all (of_decide_eq_true hd) V u ex)
        go_enter Tryz.func5, Tryz.ntmps5
        go_wp2_with (first
          | (go_at_call 9; refine (awake_any _).mono ?_; rintro e w1 ⟨rfl, b1⟩; have HB1 := Lib.hid b1; have HA1 := Lib.hid (H.out.kept stay_en b1); clear b1)
          | (go_at_call 10; refine (long_any A n c es w1 HA1.out).mono ?_; rintro e w2 ⟨rfl, b1⟩; rw [hl]; have HB2 := Lib.hid (below_then HB1.out b1); have HA2 := Lib.hid (HA1.out.kept stay_en b1); clear b1)
          | (go_at_call 16; refine (distinct_any A n c es w2 HA2.out).mono ?_; rintro e w3 ⟨rfl, b1⟩; rw [hd]; have HB3 := Lib.hid (below_then HB2.out b1); clear b1)
          | fail)
        clear hx hd hl HA1 HA2 HB1 HB2
        go_loopw [9, 30] (fun ov0 iv wr => ∃ (k : Nat) (ov : Value), k ≤ n ∧ iv = .int .i64 (k : Int) ∧ ov = ov0 ∧ Hid (OL rEn 6 33 w wr ov (es.reverse.take k)) ∧ Hid (Below w.heap.size w wr)) (fun _ iv _ => n - (intOf iv).toNat)
        case atStart => exact ⟨0, _, by omega, rfl, rfl, Lib.hid (OL.nil _ _ _ _ _), HB3⟩
        case round =>
          obtain ⟨k, ov, hk, rfl, rfl, hol, hb⟩ := hrel
          obtain ⟨wx, hwx⟩ : ∃ x, x = wr := ⟨_, rfl⟩
          rw [← hwx] at hb hol ⊢
          clear hwx
          by_cases hlt : k < n
          · obtain ⟨j, hj⟩ : ∃ j, j = n - 1 - k := ⟨_, rfl⟩
            have hjn : j < n := by omega
            have ei : (n : Int) - 1 - (k : Int) = (j : Int) := by omega
            obtain ⟨x, g, o, cs, hs, ea, hat, hr⟩ := H.out.at_ stay_en (Below.refl _ _) hjn
            have HR := Lib.hid hr
            have HX : Hid (es.reverse[k]? = some x) := Lib.hid (by rw [rev_at HL.out hlt, ← hj]; exact hs)
            have HA := Lib.hid (hat.kept hb.out)
            obtain ⟨AB, mm, dd', rfl, _⟩ := hr
            subst ea
            obtain ⟨css, o1, o2, o3, o4, o5⟩ := hol.out
            have ol : (es.reverse.take k).length = k := by rw [List.length_take, List.length_reverse, HL.out]; omega
            rw [ol] at o4
            have HO4 := Lib.hid o4
            have HO := Lib.hid (And.intro o1 (And.intro o2 (And.intro o3 (And.intro o5 ol))))
            clear hs hat o1 o2 o3 o4 o5 ol hj
            go_wp2_with (first
              | ((with_reducible show wpList _ _ _ (⟨some 41, _, _, _, _, _⟩ :: _) _ _); refine wpList_loadv _ rfl 33 (.tmp 40) rfl 6 (by kernel_rfl) g (o + j * 6) (enC x AB mm dd') (by go_simp) HA.out rfl ?_)
              | ((with_reducible show wpList _ _ _ (⟨some 42, _, _, _, _, _⟩ :: _) _ _); refine wpList_bslice _ rfl 22 33 1 _ rfl #[(0, .agg (enC x AB mm dd').toArray)] (by rw [List.map_toArray]; rfl) (enC x AB mm dd') (bslE1 _ _ _ _ _) ?_; intro w4 a1 a2 a3; have HG4 := Lib.hid a1; have HRW4 := Lib.hid (HO4.out.kept a2); have HB4 := Lib.hid (below_thenB hb.out hb.out.size a2); clear a1 a2 a3)
              | ((with_reducible show wpList _ _ _ (⟨some 43, _, _, _, _, _⟩ :: _) _ _); obtain ⟨iS, i1, i2, i3, i4⟩ := info_some infoEn; refine wpList_appRW _ rfl (.tmp 33) (.tmp 42) 22 33 6 iS _ rfl Tryz.underlying22 i1 i2 i3 rfl ov k _ rfl HRW4.out wx.heap.size (enC x AB mm dd') rfl HG4.out rfl (one_en _ _ _ _) (by rw [i4]; have := HN30.out; omega) (by have := HN30.out; omega) ?_; intro v' w5 ap; have HOL5 : Hid (OL rEn 6 33 w w5 v' (es.reverse.take k ++ [x])) := Lib.hid (OL.push HO.out.1 HO.out.2.1 HO.out.2.2.1 HO.out.2.2.2.1 HO.out.2.2.2.2 rfl HR.out HB4.out.size ap); have HB5 : Hid (Below w.heap.size w w5) := Lib.hid (low_kp HB4.out ap.kp (fun i hi e => by have := HO.out.2.2.2.1 i e; omega)); clear ap i1 i2 i3 i4))
            go_roundw
            case rel => exact ⟨k + 1, _, by omega, by go_num, rfl, Lib.hid (by rw [take_next HX.out]; exact HOL5.out), HB5⟩
            case measure => simp [intOf]; omega
          · obtain rfl : k = n := by omega
            have ot : es.reverse.take k = es.reverse := take_end (by rw [List.length_reverse]; exact HL.out)
            rw [ot] at hol
            obtain ⟨A', c', rfl, hls⟩ := hol.out.ls (b := 72) stay_en hb.out (by rw [List.length_reverse, HL.out]; exact hn)
            rw [List.length_reverse, HL.out] at hls ⊢
            have HQ := Lib.hid hls
            clear ot hls hol
            have HN1 : Hid (k ≤ 2000) := Lib.hid (by have := HN30.out; omega)
            go_wp2_with (first
              | (go_at_call 18; (with_reducible show Calls _ _ _ wx _); refine (pending_any A k c es V u wx (H.out.kept stay_en hb.out) HN1.out HU.out).mono ?_; rintro e w4 ⟨A4, n4, c4, rfl, x1, _, x3⟩; have HL4 := Lib.hid x1.1; have HX4 := Lib.hid x3; clear x1 x3)
              | (go_at_call 18; (with_reducible show Calls _ _ _ w4 _); refine (pending_any A' k c' es.reverse V u w4 (HQ.out.kept stay_en HX4.out) HN1.out HU.out).mono ?_; rintro e w5 ⟨A5, n5, c5, rfl, x1, _, x3⟩; rw [← HD.out.1] at x1; have HL5 := Lib.hid x1.1; have HX5 := Lib.hid (below_then HX4.out x3); have HL45 := Lib.hid (HL4.out.kept stay_ppv x3); obtain rfl : n4 = n5 := HL4.out.1.symm.trans x1.1.1; have hn4 := x1.1.len_le; clear x1 x3))
            go_loopw [60] (fun iv wr => ∃ j : Nat, j ≤ n4 ∧ iv = .int .i64 (j : Int) ∧ Hid (Below w5.heap.size w5 wr)) (fun iv _ => n4 - (intOf iv).toNat)
            case atStart => exact ⟨0, by omega, rfl, Lib.hid (Below.refl _ _)⟩
            case round =>
              obtain ⟨j, hj, rfl, hb5⟩ := hrel
              obtain ⟨wz, hwz⟩ : ∃ x, x = wr := ⟨_, rfl⟩
              rw [← hwz] at hb5 ⊢
              clear hwz
              have HBz : Hid (Below w.heap.size w wz) := Lib.hid (below_thenB (below_thenB hb.out hb.out.size HX5.out) (Nat.le_trans hb.out.size HX5.out.size) hb5.out)
              by_cases hjn : j < n4
              · obtain ⟨x, g, o, cs, hs, ea, hat, hr⟩ := HL45.out.at_ stay_ppv hb5.out hjn
                obtain ⟨y, g', o', ds, hs', ea', hat', hr'⟩ := HL5.out.at_ stay_ppv hb5.out hjn
                obtain rfl : y = x := by rw [hs] at hs'; exact (Option.some.inj hs').symm
                have HR1 := Lib.hid hr.1.1
                have HR2 := Lib.hid hr'.1.1
                have HT1 := Lib.hid hat
                have HT2 := Lib.hid hat'
                have HN1' := Lib.hid (len_ppv cs y hr)
                have HN2' := Lib.hid (len_ppv ds y hr')
                subst ea ea'
                clear hs hs' hat hat' hr hr'
                go_wp2_with fail
                refine Text.wp_region_text (fun w' => Below wz.heap.size wz w') [(0, 4), (1, 4), (2, 4), (5, 4), (6, 4), (7, 4), (3, 0), (8, 0), (4, 2), (9, 2), (10, 2), (11, 4)] (by kernel_rfl) (by kernel_rfl) (fun _ _ _ _ _ h => h) ((Below.refl _ _).drew) ?_
                iterate 6 (refine Text.purek rfl rfl (fun K hK => ⟨_, fun w' => by go_simp <;> rfl, ?_⟩); go_simp; refine hK _ ?_; clear hK K)
                refine Text.heldk rfl rfl (fun K hK => ?_)
                refine ⟨_, fun w' hw' => exec_loadv 42 (.tmp 65) rfl 5 (by kernel_rfl) g (o + j * 5) cs (by go_simp) (HT1.out.kept hw') HN1'.out, ?_⟩
                go_simp
                refine hK _ ?_
                clear hK K
                refine Text.heldk rfl rfl (fun K hK => ?_)
                refine ⟨_, fun w' hw' => exec_loadv 42 (.tmp 70) rfl 5 (by kernel_rfl) g' (o' + j * 5) ds (by go_simp) (HT2.out.kept hw') HN2'.out, ?_⟩
                go_simp
                refine hK _ ?_
                clear hK K
                refine Text.eff rfl rfl (fun K hK => ?_)
                go_simp
                refine (from_any cs y _ (stay_pp _ _ _ _ HR1.out (Below.refl _ _).drew)).mono ?_
                rintro e w6 ⟨rfl, b6⟩
                have HX6 : Hid (Below wz.heap.size wz w6) := Lib.hid (below_then (Below.refl _ _).drew b6)
                refine hK _ _ HX6.out ?_
                clear hK K b6
                refine Text.eff rfl rfl (fun K hK => ?_)
                go_simp
                refine (from_any ds y _ (stay_pp _ _ _ _ HR2.out HX6.out)).mono ?_
                rintro e w7 ⟨rfl, b7⟩
                have HX7 : Hid (Below wz.heap.size wz w7) := Lib.hid (below_then HX6.out b7)
                refine hK _ _ HX7.out ?_
                clear hK K b7
                refine Text.eff rfl rfl (fun K hK => ?_)
                go_simp
                refine (rsame_refl cs ds y _ (stay_pp _ _ _ _ HR1.out HX7.out) (stay_pp _ _ _ _ HR2.out HX7.out)).mono ?_
                rintro e w8 ⟨rfl, b8⟩
                have HX8 : Hid (Below wz.heap.size wz w8) := Lib.hid (below_then HX7.out b8)
                refine hK _ _ HX8.out ?_
                clear hK K b8
                (refine Text.purek rfl rfl (fun K hK => ⟨_, fun w' => by go_simp <;> rfl, ?_⟩); go_simp; refine hK _ ?_; clear hK K)
                refine Text.done ?_
                go_wp2_with fail
                go_roundw
                case rel => exact ⟨j + 1, by omega, by go_num, Lib.hid (below_thenB hb5.out hb5.out.size HX8.out)⟩
                case measure => simp [intOf]; omega
              · obtain rfl : j = n4 := by omega
                obtain ⟨S1, hS1⟩ : ∃ S, S = condL (dd es) V u := ⟨_, rfl⟩
                obtain ⟨S2, hS2⟩ : ∃ S, S = dropL (dd es) V ex := ⟨_, rfl⟩
                have HC1 : Hid (condL (dd es) V u = S1) := Lib.hid hS1.symm
                have HC2 : Hid (condL (dd es.reverse) V u = S1) := Lib.hid (by rw [hS1]; exact HD.out.2.1.symm)
                have HE1 : Hid (dropL (dd es) V ex = S2) := Lib.hid hS2.symm
                have HE2 : Hid (dropL (dd es.reverse) V ex = S2) := Lib.hid (by rw [hS2]; exact HD.out.2.2.symm)
                have HQZ : Hid (LS rEn 6 72 wz A' k c' es.reverse) := Lib.hid (HQ.out.kept stay_en (below_then HX5.out hb5.out))
                clear hS1 hS2
                go_wp2_with (first
                  | (go_at_call 12; (with_reducible show Calls _ _ _ wz _); refine (condemned_any A k c es V u wz (H.out.kept stay_en HBz.out) HN1.out HU.out).mono ?_; unfold StrN; rw [HC1.out]; rintro e w6 ⟨A6, c6, rfl, x1, _, x3⟩; have HS6 := Lib.hid x1; have HX6 := Lib.hid x3; clear x1 x3)
                  | (go_at_call 12; (with_reducible show Calls _ _ _ w6 _); refine (condemned_any A' k c' es.reverse V u w6 (HQZ.out.kept stay_en HX6.out) HN1.out HU.out).mono ?_; unfold StrN; rw [HC2.out]; rintro e w7 ⟨A7, c7, rfl, x1, _, x3⟩; have HS7 := Lib.hid x1; have HT7 := Lib.hid (HS6.out.kept stay_str x3); have HX7 := Lib.hid (below_then HX6.out x3); clear x1 x3)
                  | (go_at_call 11; (with_reducible show Calls _ _ _ w7 _); refine (same_any _ _ _ S1 _ _ _ S1 w7 HT7.out HS7.out).mono ?_; rw [decide_eq_true (rfl : S1 = S1)]; rintro e w8 ⟨rfl, x3⟩; have HX8 := Lib.hid (below_then HX7.out x3); clear x3)
                  | (go_at_call 14; (with_reducible show Calls _ _ _ w8 _); refine (dropped_any A k c es V B' m d ex w8 (H.out.kept stay_en (below_thenB HBz.out HBz.out.size HX8.out)) HN1.out (HEX.out.kept stay_int (below_thenB HBz.out HBz.out.size HX8.out))).mono ?_; unfold StrN; rw [HE1.out]; rintro e w9 ⟨A9, c9, rfl, x1, _, x3⟩; have HS9 := Lib.hid x1; have HX9 := Lib.hid (below_then HX8.out x3); clear x1 x3)
                  | (go_at_call 14; (with_reducible show Calls _ _ _ w9 _); refine (dropped_any A' k c' es.reverse V B' m d ex w9 (HQZ.out.kept stay_en HX9.out) HN1.out (HEX.out.kept stay_int (below_thenB HBz.out HBz.out.size HX9.out))).mono ?_; unfold StrN; rw [HE2.out]; rintro e w10 ⟨A10, c10, rfl, x1, _, x3⟩; have HS10 := Lib.hid x1; have HT10 := Lib.hid (HS9.out.kept stay_str x3); have HX10 := Lib.hid (below_then HX9.out x3); clear x1 x3)
                  | (go_at_call 11; (with_reducible show Calls _ _ _ w10 _); refine (same_any _ _ _ S2 _ _ _ S2 w10 HT10.out HS10.out).mono ?_; rw [decide_eq_true (rfl : S2 = S2)]; rintro e w11 ⟨rfl, x3⟩; have HX11 := Lib.hid (below_then HX10.out x3); clear x3))
                go_ret
                exact ⟨rfl, below_thenB HBz.out HBz.out.size HX11.out⟩
end
end Go.Proofs.YtfonbliomokffaaGreat
