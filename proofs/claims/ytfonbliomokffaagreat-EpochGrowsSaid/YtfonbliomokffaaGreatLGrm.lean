/- The walk of EpochGrows. -/
import Derived.Test.YtfonbliomokffaaGreatGrm
import Derived.Test.YtfonbliomokffaaGreatLUnm
namespace Go.Proofs.YtfonbliomokffaaGreat
open Go Go.RowKit Gf Sha

section
set_option maxRecDepth 100000
set_option maxHeartbeats 2000000
theorem grows_walk (A : Option Addr) (n c : Nat) (es : List En) (A' : Option Addr) (n' c' : Nat) (mo : List En) (B : Option Addr) (m d : Nat) (ex : List Int) (B' : Option Addr) (m' d' : Nat) (fu : List Int) (V : Int) (w : World)
    (h : LS rEn 6 72 w A n c es) (hmo : LS rEn 6 72 w A' n' c' mo) (hex : LS rInt 1 8 w B m d ex) (hfu : LS rInt 1 8 w B' m' d' fu) :
    Calls Tryz.prog 4 #[.slice A n c, .slice A' n' c', .slice B m d, .slice B' m' d', .int .i64 V] w fun e w' => e = .returned (.bool true) ∧ Below w.heap.size w w' := by
  have hn := h.len_le
  have hn' := hmo.len_le
  have hm := hex.len_le
  have hm' := hfu.len_le
  have H := Lib.hid h
  have HL := Lib.hid h.1
  have M := Lib.hid hmo
  have ML := Lib.hid hmo.1
  have HEX := Lib.hid hex
  have HFU := Lib.hid hfu
  clear h hmo hex hfu
  cases hl1 : longB es with
  | true =>
    go_enter Tryz.func4, Tryz.ntmps4
    go_wp2_with (first
      | (go_at_call 9; refine (awake_any _).mono ?_; rintro e w1 ⟨rfl, b1⟩; have HB1 := Lib.hid b1; clear b1)
      | (go_at_call 10; (with_reducible show Calls _ _ _ w1 _); refine (long_any A n c es w1 (H.out.kept stay_en HB1.out)).mono ?_; rintro e w2 ⟨rfl, b1⟩; rw [hl1]; have HB2 := Lib.hid (below_then HB1.out b1); clear b1)
      | fail)
    go_ret
    exact ⟨rfl, HB2.out⟩
  | false =>
    have HN30 : Hid (n ≤ 30) := Lib.hid (by have := unB_len hl1; have := HL.out; omega)
    cases hl2 : longB mo with
    | true =>
      go_enter Tryz.func4, Tryz.ntmps4
      go_wp2_with (first
        | (go_at_call 9; refine (awake_any _).mono ?_; rintro e w1 ⟨rfl, b1⟩; have HB1 := Lib.hid b1; clear b1)
        | (go_at_call 10; (with_reducible show Calls _ _ _ w1 _); refine (long_any A n c es w1 (H.out.kept stay_en HB1.out)).mono ?_; rintro e w2 ⟨rfl, b1⟩; rw [hl1]; have HB2 := Lib.hid (below_then HB1.out b1); clear b1)
        | (go_at_call 10; (with_reducible show Calls _ _ _ w2 _); refine (long_any A' n' c' mo w2 (M.out.kept stay_en HB2.out)).mono ?_; rintro e w3 ⟨rfl, b1⟩; rw [hl2]; have HB3 := Lib.hid (below_then HB2.out b1); clear b1)
        | fail)
      go_ret
      exact ⟨rfl, HB3.out⟩
    | false =>
      have HN30' : Hid (n' ≤ 30) := Lib.hid (by have := unB_len hl2; have := ML.out; omega)
      cases hx1 : decide ((20 : Int) < (m : Int)) with
      | true =>
        go_enter Tryz.func4, Tryz.ntmps4
        go_wp2_with (first
          | (go_at_call 9; refine (awake_any _).mono ?_; rintro e w1 ⟨rfl, b1⟩; have HB1 := Lib.hid b1; clear b1)
          | (go_at_call 10; (with_reducible show Calls _ _ _ w1 _); refine (long_any A n c es w1 (H.out.kept stay_en HB1.out)).mono ?_; rintro e w2 ⟨rfl, b1⟩; rw [hl1]; have HB2 := Lib.hid (below_then HB1.out b1); clear b1)
          | (go_at_call 10; (with_reducible show Calls _ _ _ w2 _); refine (long_any A' n' c' mo w2 (M.out.kept stay_en HB2.out)).mono ?_; rintro e w3 ⟨rfl, b1⟩; rw [hl2]; have HB3 := Lib.hid (below_then HB2.out b1); clear b1)
          | fail)
        go_ret
        exact ⟨rfl, HB3.out⟩
      | false =>
        have HM20 : Hid (m ≤ 20) := Lib.hid (by have := of_decide_eq_false hx1; omega)
        cases hx2 : decide ((20 : Int) < (m' : Int)) with
        | true =>
          go_enter Tryz.func4, Tryz.ntmps4
          go_wp2_with (first
            | (go_at_call 9; refine (awake_any _).mono ?_; rintro e w1 ⟨rfl, b1⟩; have HB1 := Lib.hid b1; clear b1)
            | (go_at_call 10; (with_reducible show Calls _ _ _ w1 _); refine (long_any A n c es w1 (H.out.kept stay_en HB1.out)).mono ?_; rintro e w2 ⟨rfl, b1⟩; rw [hl1]; have HB2 := Lib.hid (below_then HB1.out b1); clear b1)
            | (go_at_call 10; (with_reducible show Calls _ _ _ w2 _); refine (long_any A' n' c' mo w2 (M.out.kept stay_en HB2.out)).mono ?_; rintro e w3 ⟨rfl, b1⟩; rw [hl2]; have HB3 := Lib.hid (below_then HB2.out b1); clear b1)
            | fail)
          go_ret
          exact ⟨rfl, HB3.out⟩
        | false =>
          have HM20' : Hid (m' ≤ 20) := Lib.hid (by have := of_decide_eq_false hx2; omega)
          have HS : Hid (es.length ≤ 30 ∧ mo.length ≤ 30 ∧ n ≤ 30 ∧ n' ≤ 30 ∧ ex.length ≤ 20 ∧ m ≤ 20 ∧ m' ≤ 20 ∧ es.length = n ∧ ex.length = m) := Lib.hid ⟨by have := HL.out; have := HN30.out; omega, by have := ML.out; have := HN30'.out; omega, HN30.out, HN30'.out, by have := HEX.out.1; have := HM20.out; omega, HM20.out, HM20'.out, HL.out, HEX.out.1⟩
          have HLN : Hid ((es ++ mo).length = n + n') := Lib.hid (by rw [List.length_append, HL.out, ML.out])
          have HLM : Hid ((ex ++ fu).length = m + m') := Lib.hid (by rw [List.length_append, HEX.out.1, HFU.out.1])
          cases hd : decide (DistE (es ++ mo)) with
          | false =>
            go_enter Tryz.func4, Tryz.ntmps4
            go_wp2_with (first
              | (go_at_call 9; refine (awake_any _).mono ?_; rintro e w1 ⟨rfl, b1⟩; have HB1 := Lib.hid b1; clear b1)
              | (go_at_call 10; (with_reducible show Calls _ _ _ w1 _); refine (long_any A n c es w1 (H.out.kept stay_en HB1.out)).mono ?_; rintro e w2 ⟨rfl, b1⟩; rw [hl1]; have HB2 := Lib.hid (below_then HB1.out b1); clear b1)
              | (go_at_call 10; (with_reducible show Calls _ _ _ w2 _); refine (long_any A' n' c' mo w2 (M.out.kept stay_en HB2.out)).mono ?_; rintro e w3 ⟨rfl, b1⟩; rw [hl2]; have HB3 := Lib.hid (below_then HB2.out b1); clear b1)
              | ((with_reducible show wpList _ _ _ (⟨some 38, _, _, _, _, _⟩ :: _) _ _); refine wpList_bsliceg _ rfl 22 33 0 _ rfl #[] (by rw [List.map_toArray]; rfl) [] (bslE0 _) ?_; intro w4 a1 a2 a3; have HG4 : Hid (OL rEn 6 33 w w4 (.slice (some ⟨w3.heap.size, 0, none⟩) 0 0) []) := Lib.hid (OL.nil' _ _ a1 HB3.out.size); have HB4 := Lib.hid (below_then HB3.out a2); clear a1 a2 a3)
              | ((with_reducible show wpList _ _ _ (⟨some 40, _, _, _, _, _⟩ :: _) _ _); refine wpList_want _ rfl (fun K hK => ?_); obtain ⟨iS, i1, i2, i3, i4⟩ := info_some infoEn; refine wp_appOL _ (.tmp 38) (.tmp 39) iS _ rfl Tryz.underlying22 i1 i2 i3 rfl _ rfl HG4.out HB4.out rfl H.out (fun _ _ h => len_en _ _ h) (fun _ _ h => ones_en _ _ h) (by rw [i4]; have := HS.out; simp; omega) (by have := HS.out; simp; omega) (fun v5 w5 q1 q2 => hK _ _ ?_); have HG5 : Hid (OL rEn 6 33 w w5 v5 es) := Lib.hid q1; have HB5 := Lib.hid q2; clear hK K i1 i2 i3 i4 q1 q2)
              | ((with_reducible show wpList _ _ _ (⟨some 42, _, _, _, _, _⟩ :: _) _ _); refine wpList_want _ rfl (fun K hK => ?_); obtain ⟨iS, i1, i2, i3, i4⟩ := info_some infoEn; refine wp_appOL _ (.tmp 40) (.tmp 41) iS _ rfl Tryz.underlying22 i1 i2 i3 rfl _ rfl HG5.out HB5.out rfl M.out (fun _ _ h => len_en _ _ h) (fun _ _ h => ones_en _ _ h) (by rw [i4]; have := HS.out; simp; omega) (by have := HS.out; simp; omega) (fun v6 w6 q1 q2 => hK _ _ ?_); obtain ⟨A6, c6, e6, q3⟩ := q1.ls (b := 72) stay_en q2 (by rw [HLN.out]; have := HS.out; unfold lim; omega); rw [HLN.out] at e6 q3; subst e6; have HL6 := Lib.hid q3; have HB6 := Lib.hid q2; clear q3; clear hK K i1 i2 i3 i4 q1 q2)
              | (go_at_call 16; refine (distinct_any A6 (n + n') c6 (es ++ mo) w6 HL6.out).mono ?_; rintro e w7 ⟨rfl, b1⟩; rw [hd]; have HB7 := Lib.hid (below_then HB6.out b1); clear b1)
              | fail)
            go_ret
            exact ⟨rfl, HB7.out⟩
          | true =>
            go_enter Tryz.func4, Tryz.ntmps4
            go_wp2_with (first
              | (go_at_call 9; refine (awake_any _).mono ?_; rintro e w1 ⟨rfl, b1⟩; have HB1 := Lib.hid b1; clear b1)
              | (go_at_call 10; (with_reducible show Calls _ _ _ w1 _); refine (long_any A n c es w1 (H.out.kept stay_en HB1.out)).mono ?_; rintro e w2 ⟨rfl, b1⟩; rw [hl1]; have HB2 := Lib.hid (below_then HB1.out b1); clear b1)
              | (go_at_call 10; (with_reducible show Calls _ _ _ w2 _); refine (long_any A' n' c' mo w2 (M.out.kept stay_en HB2.out)).mono ?_; rintro e w3 ⟨rfl, b1⟩; rw [hl2]; have HB3 := Lib.hid (below_then HB2.out b1); clear b1)
              | ((with_reducible show wpList _ _ _ (⟨some 38, _, _, _, _, _⟩ :: _) _ _); refine wpList_bsliceg _ rfl 22 33 0 _ rfl #[] (by rw [List.map_toArray]; rfl) [] (bslE0 _) ?_; intro w4 a1 a2 a3; have HG4 : Hid (OL rEn 6 33 w w4 (.slice (some ⟨w3.heap.size, 0, none⟩) 0 0) []) := Lib.hid (OL.nil' _ _ a1 HB3.out.size); have HB4 := Lib.hid (below_then HB3.out a2); clear a1 a2 a3)
              | ((with_reducible show wpList _ _ _ (⟨some 40, _, _, _, _, _⟩ :: _) _ _); refine wpList_want _ rfl (fun K hK => ?_); obtain ⟨iS, i1, i2, i3, i4⟩ := info_some infoEn; refine wp_appOL _ (.tmp 38) (.tmp 39) iS _ rfl Tryz.underlying22 i1 i2 i3 rfl _ rfl HG4.out HB4.out rfl H.out (fun _ _ h => len_en _ _ h) (fun _ _ h => ones_en _ _ h) (by rw [i4]; have := HS.out; simp; omega) (by have := HS.out; simp; omega) (fun v5 w5 q1 q2 => hK _ _ ?_); have HG5 : Hid (OL rEn 6 33 w w5 v5 es) := Lib.hid q1; have HB5 := Lib.hid q2; clear hK K i1 i2 i3 i4 q1 q2)
              | ((with_reducible show wpList _ _ _ (⟨some 42, _, _, _, _, _⟩ :: _) _ _); refine wpList_want _ rfl (fun K hK => ?_); obtain ⟨iS, i1, i2, i3, i4⟩ := info_some infoEn; refine wp_appOL _ (.tmp 40) (.tmp 41) iS _ rfl Tryz.underlying22 i1 i2 i3 rfl _ rfl HG5.out HB5.out rfl M.out (fun _ _ h => len_en _ _ h) (fun _ _ h => ones_en _ _ h) (by rw [i4]; have := HS.out; simp; omega) (by have := HS.out; simp; omega) (fun v6 w6 q1 q2 => hK _ _ ?_); obtain ⟨A6, c6, e6, q3⟩ := q1.ls (b := 72) stay_en q2 (by rw [HLN.out]; have := HS.out; unfold lim; omega); rw [HLN.out] at e6 q3; subst e6; have HL6 := Lib.hid q3; have HB6 := Lib.hid q2; clear q3; clear hK K i1 i2 i3 i4 q1 q2)
              | (go_at_call 16; refine (distinct_any A6 (n + n') c6 (es ++ mo) w6 HL6.out).mono ?_; rintro e w7 ⟨rfl, b1⟩; rw [hd]; have HB7 := Lib.hid (below_then HB6.out b1); clear b1)
              | fail)
            clear hl1 hl2 hx1 hx2 HB1 HB2 HB3 HB4 HG4 HG5 HB5 HL6 HB6
            have HD : Hid (DistE (es ++ mo)) := Lib.hid (of_decide_eq_true hd)
            clear hd
            go_loopw [48] (fun iv wr => ∃ k : Nat, k ≤ n' ∧ iv = .int .i64 (k : Int) ∧ Hid (∀ x ∈ mo.take k, ∀ y ∈ es, x.dev = y.dev → y.seq ≤ x.seq) ∧ Hid (Below w.heap.size w wr)) (fun iv _ => n' - (intOf iv).toNat)
            case atStart => exact ⟨0, by omega, rfl, Lib.hid (fun x hx => by simp at hx), HB7⟩
            case round =>
              obtain ⟨k, hk, rfl, hall, hb⟩ := hrel
              obtain ⟨wx, hwx⟩ : ∃ x, x = wr := ⟨_, rfl⟩
              rw [← hwx] at hb ⊢
              clear hwx
              by_cases hlt : k < n'
              · obtain ⟨x, g, o, cs, hs, ea, hat, hr⟩ := M.out.at_ stay_en hb.out hlt
                obtain ⟨AB, mm, dd', rfl, _⟩ := hr
                have HX := Lib.hid hs
                have HA := Lib.hid hat
                subst ea
                clear hs hat
                go_wp2_with (first
                  | ((with_reducible show wpList _ _ _ (⟨some 51, _, _, _, _, _⟩ :: _) _ _); refine wpList_loadv _ rfl 33 (.tmp 50) rfl 6 (by kernel_rfl) g (o + k * 6) (enC x AB mm dd') (by go_simp) HA.out rfl ?_)
                  | ((with_reducible show wpList _ _ _ (⟨some 12, _, _, _, _, _⟩ :: _) _ _); refine wpList_alloc _ rfl 33 rfl enZ enZero ?_; intro w8 a1 a2 a3; have HV8 := Lib.hid a1; have HX8 := Lib.hid a2; clear a1 a2 a3)
                  | ((with_reducible show wpList _ _ _ (⟨none, _, _, _, _, _⟩ :: _) _ _); refine wpList_storev _ rfl 33 (.tmp 12) (.tmp 51) rfl 6 (by kernel_rfl) wx.heap.size 0 _ enZ (enC x AB mm dd') rfl rfl HV8.out rfl (one_en _ _ _ _) (by decide) ?_; intro w9 a1 a2 a3; have HV9 : Hid (BL w9 wx.heap.size 33 (enC x AB mm dd')) := Lib.hid a1; have HB9 : Hid (Below w.heap.size w w9) := Lib.hid (below_thenB hb.out hb.out.size (low_kp HX8.out a2 (fun i hi e => by omega))); clear a1 a2 a3)
                  | fail)
                go_loopw [54] (fun iv wr => ∃ j : Nat, j ≤ n ∧ iv = .int .i64 (j : Int) ∧ Hid (∀ y ∈ es.take j, x.dev = y.dev → y.seq ≤ x.seq) ∧ Hid (Below w9.heap.size w9 wr)) (fun iv _ => n - (intOf iv).toNat)
                case atStart => exact ⟨0, by omega, rfl, Lib.hid (fun y hy => by simp at hy), Lib.hid (Below.refl _ _)⟩
                case round =>
                  obtain ⟨j, hj, rfl, hne, hb'⟩ := hrel
                  obtain ⟨wy, hwy⟩ : ∃ x, x = wr := ⟨_, rfl⟩
                  rw [← hwy] at hb' ⊢
                  clear hwy
                  have HB10 := Lib.hid (below_thenB HB9.out HB9.out.size hb'.out)
                  by_cases hjn : j < n
                  · obtain ⟨y, g', o', cs', hs', e', hat', hr'⟩ := H.out.at_ stay_en HB10.out hjn
                    obtain ⟨AB', mm', dd2, rfl, _⟩ := hr'
                    have HY := Lib.hid hs'
                    have HA' := Lib.hid hat'
                    subst e'
                    clear hs' hat'
                    have HSTEP : (x.dev = y.dev → y.seq ≤ x.seq) → Hid (∀ z ∈ es.take (j + 1), x.dev = z.dev → z.seq ≤ x.seq) := fun h => Lib.hid (fun z hz => by
                      rw [take_next HY.out] at hz
                      rcases List.mem_append.1 hz with h' | h'
                      · exact hne.out z h'
                      · rw [List.mem_singleton.1 h']; exact h)
                    cases e1 : (x.dev == y.dev) with
                    | false =>
                      have HF := HSTEP (fun e => by rw [e] at e1; simp at e1)
                      clear HSTEP
                      go_wp2_with (first
                        | ((with_reducible show wpList _ _ _ (⟨some 57, _, _, _, _, _⟩ :: _) _ _); refine wpList_loadv _ rfl 33 (.tmp 56) rfl 6 (by kernel_rfl) g' (o' + j * 6) (enC y AB' mm' dd2) (by go_simp) HA'.out rfl ?_)
                        | ((with_reducible show wpList _ _ _ (⟨some 14, _, _, _, _, _⟩ :: _) _ _); refine wpList_alloc _ rfl 33 rfl enZ enZero ?_; intro w10 a1 a2 a3; have HV10 := Lib.hid a1; have HX10 := Lib.hid a2; clear a1 a2 a3)
                        | ((with_reducible show wpList _ _ _ (⟨none, _, _, _, _, _⟩ :: _) _ _); refine wpList_storev _ rfl 33 (.tmp 14) (.tmp 57) rfl 6 (by kernel_rfl) wy.heap.size 0 _ enZ (enC y AB' mm' dd2) rfl rfl HV10.out rfl (one_en _ _ _ _) (by decide) ?_; intro w11 a1 a2 a3; have b11 : Below wy.heap.size wy w11 := low_kp HX10.out a2 (fun i hi e => by omega); have q0 := a1.get (j := 0) rfl; have q1 := a1.get (j := 1) rfl; have p0 := (HV9.out.kept (below_then hb'.out b11)).get (j := 0) rfl; have p1 := (HV9.out.kept (below_then hb'.out b11)).get (j := 1) rfl; have HX11 := Lib.hid b11; clear a1 a2 a3 b11)
                        | fail)
                      go_roundw
                      case rel => exact ⟨j + 1, by omega, by go_num, HF, Lib.hid (below_then hb'.out HX11.out)⟩
                      case measure => simp [intOf]; omega
                    | true =>
                      cases e2 : decide (x.seq < y.seq) with
                      | false =>
                        have HF := HSTEP (fun _ => by have := of_decide_eq_false e2; omega)
                        clear HSTEP
                        go_wp2_with (first
                          | ((with_reducible show wpList _ _ _ (⟨some 57, _, _, _, _, _⟩ :: _) _ _); refine wpList_loadv _ rfl 33 (.tmp 56) rfl 6 (by kernel_rfl) g' (o' + j * 6) (enC y AB' mm' dd2) (by go_simp) HA'.out rfl ?_)
                          | ((with_reducible show wpList _ _ _ (⟨some 14, _, _, _, _, _⟩ :: _) _ _); refine wpList_alloc _ rfl 33 rfl enZ enZero ?_; intro w10 a1 a2 a3; have HV10 := Lib.hid a1; have HX10 := Lib.hid a2; clear a1 a2 a3)
                          | ((with_reducible show wpList _ _ _ (⟨none, _, _, _, _, _⟩ :: _) _ _); refine wpList_storev _ rfl 33 (.tmp 14) (.tmp 57) rfl 6 (by kernel_rfl) wy.heap.size 0 _ enZ (enC y AB' mm' dd2) rfl rfl HV10.out rfl (one_en _ _ _ _) (by decide) ?_; intro w11 a1 a2 a3; have b11 : Below wy.heap.size wy w11 := low_kp HX10.out a2 (fun i hi e => by omega); have q0 := a1.get (j := 0) rfl; have q1 := a1.get (j := 1) rfl; have p0 := (HV9.out.kept (below_then hb'.out b11)).get (j := 0) rfl; have p1 := (HV9.out.kept (below_then hb'.out b11)).get (j := 1) rfl; have HX11 := Lib.hid b11; clear a1 a2 a3 b11)
                          | fail)
                        go_roundw
                        case rel => exact ⟨j + 1, by omega, by go_num, HF, Lib.hid (below_then hb'.out HX11.out)⟩
                        case measure => simp [intOf]; omega
                      | true =>
                        clear HSTEP
                        go_wp2_with (first
                          | ((with_reducible show wpList _ _ _ (⟨some 57, _, _, _, _, _⟩ :: _) _ _); refine wpList_loadv _ rfl 33 (.tmp 56) rfl 6 (by kernel_rfl) g' (o' + j * 6) (enC y AB' mm' dd2) (by go_simp) HA'.out rfl ?_)
                          | ((with_reducible show wpList _ _ _ (⟨some 14, _, _, _, _, _⟩ :: _) _ _); refine wpList_alloc _ rfl 33 rfl enZ enZero ?_; intro w10 a1 a2 a3; have HV10 := Lib.hid a1; have HX10 := Lib.hid a2; clear a1 a2 a3)
                          | ((with_reducible show wpList _ _ _ (⟨none, _, _, _, _, _⟩ :: _) _ _); refine wpList_storev _ rfl 33 (.tmp 14) (.tmp 57) rfl 6 (by kernel_rfl) wy.heap.size 0 _ enZ (enC y AB' mm' dd2) rfl rfl HV10.out rfl (one_en _ _ _ _) (by decide) ?_; intro w11 a1 a2 a3; have b11 : Below wy.heap.size wy w11 := low_kp HX10.out a2 (fun i hi e => by omega); have q0 := a1.get (j := 0) rfl; have q1 := a1.get (j := 1) rfl; have p0 := (HV9.out.kept (below_then hb'.out b11)).get (j := 0) rfl; have p1 := (HV9.out.kept (below_then hb'.out b11)).get (j := 1) rfl; have HX11 := Lib.hid b11; clear a1 a2 a3 b11)
                          | fail)
                        go_ret
                        exact ⟨rfl, below_thenB HB10.out HB10.out.size HX11.out⟩
                  · obtain rfl : j = n := by omega
                    have HT : Hid (∀ z ∈ mo.take (k + 1), ∀ y ∈ es, z.dev = y.dev → y.seq ≤ z.seq) := Lib.hid (fun z hz => by
                      rw [take_next HX.out] at hz
                      rcases List.mem_append.1 hz with h' | h'
                      · exact hall.out z h'
                      · rw [List.mem_singleton.1 h']
                        have := hne.out
                        rwa [take_end HL.out] at this)
                    go_wp2_with fail
                    go_roundw
                    case rel => exact ⟨k + 1, by omega, by go_num, HT, HB10⟩
                    case measure => simp [intOf]; omega
              · obtain rfl : k = n' := by omega
                have HG : Hid (∀ s ∈ dropL (dd es) V ex, s ∈ dropL (dd (es ++ mo)) V (ex ++ fu)) := Lib.hid (fun s hs => grows HD.out (by have h9 := hall.out; rw [take_end ML.out] at h9; intro x hx y hy e; have := h9 x hx y hy e; omega) V ex fu hs)
                obtain ⟨S1, hS1⟩ : ∃ S, S = dropL (dd es) V ex := ⟨_, rfl⟩
                obtain ⟨S2, hS2⟩ : ∃ S, S = dropL (dd (es ++ mo)) V (ex ++ fu) := ⟨_, rfl⟩
                rw [← hS1, ← hS2] at HG
                have HC1 : Hid (dropL (dd es) V ex = S1) := Lib.hid hS1.symm
                have HC2 : Hid (dropL (dd (es ++ mo)) V (ex ++ fu) = S2) := Lib.hid hS2.symm
                have HN1 : Hid (n ≤ 1000) := Lib.hid (by have := HN30.out; omega)
                have HN2 : Hid (n + k ≤ 1000) := Lib.hid (by have := HS.out; omega)
                clear hS1 hS2 hall
                go_wp2_with (first
                  | (go_at_call 14; (with_reducible show Calls _ _ _ wx _); refine (dropped_any A n c es V B m d ex wx (H.out.kept stay_en hb.out) HN1.out (HEX.out.kept stay_int hb.out)).mono ?_; unfold StrN; rw [HC1.out]; rintro e w8 ⟨A8, c8, rfl, x1, _, x3⟩; have HS8 := Lib.hid x1; have HB8 := Lib.hid (below_thenB hb.out hb.out.size x3); have hn8 := x1.len_le; have H8 := Lib.hid (H.out.kept stay_en HB8.out); have M8 := Lib.hid (M.out.kept stay_en HB8.out); have E8 := Lib.hid (HEX.out.kept stay_int HB8.out); have F8 := Lib.hid (HFU.out.kept stay_int HB8.out); clear x1 x3)
                  | ((with_reducible show wpList _ _ _ (⟨some 76, _, _, _, _, _⟩ :: _) _ _); refine wpList_bslice _ rfl 22 33 0 _ rfl #[] (by rw [List.map_toArray]; rfl) [] (bslE0 _) ?_; intro w9 a1 a2 a3; have HG9 : Hid (OL rEn 6 33 w8 w9 (.slice (some ⟨w8.heap.size, 0, none⟩) 0 0) []) := Lib.hid (OL.nil' _ _ a1 (Nat.le_refl _)); have HB9 := Lib.hid a2; clear a1 a2 a3)
                  | ((with_reducible show wpList _ _ _ (⟨some 78, _, _, _, _, _⟩ :: _) _ _); refine wpList_plain rfl (fun K hK => ?_); obtain ⟨iS, i1, i2, i3, i4⟩ := info_some infoEn; refine wp_appOL _ (.tmp 76) (.tmp 77) iS _ rfl Tryz.underlying22 i1 i2 i3 rfl _ rfl HG9.out HB9.out rfl H8.out (fun _ _ h => len_en _ _ h) (fun _ _ h => ones_en _ _ h) (by rw [i4]; have := HS.out; simp; omega) (by have := HS.out; simp; omega) (fun v10 w10 q1 q2 => hK _ _ ?_); have HG10 : Hid (OL rEn 6 33 w8 w10 v10 es) := Lib.hid q1; have HB10 := Lib.hid q2; clear hK K i1 i2 i3 i4 q1 q2)
                  | ((with_reducible show wpList _ _ _ (⟨some 80, _, _, _, _, _⟩ :: _) _ _); refine wpList_plain rfl (fun K hK => ?_); obtain ⟨iS, i1, i2, i3, i4⟩ := info_some infoEn; refine wp_appOL _ (.tmp 78) (.tmp 79) iS _ rfl Tryz.underlying22 i1 i2 i3 rfl _ rfl HG10.out HB10.out rfl M8.out (fun _ _ h => len_en _ _ h) (fun _ _ h => ones_en _ _ h) (by rw [i4]; have := HS.out; simp; omega) (by have := HS.out; simp; omega) (fun v11 w11 q1 q2 => hK _ _ ?_); obtain ⟨A11, c11, e11, q3⟩ := q1.ls (b := 72) stay_en q2 (by rw [HLN.out]; have := HS.out; unfold lim; omega); rw [HLN.out] at e11 q3; subst e11; have HL11 := Lib.hid q3; have HB11 := Lib.hid q2; clear q3; clear hK K i1 i2 i3 i4 q1 q2)
                  | ((with_reducible show wpList _ _ _ (⟨some 82, _, _, _, _, _⟩ :: _) _ _); refine wpList_bslice _ rfl 23 3 0 _ rfl #[] (by rw [List.map_toArray]; rfl) [] (bslI0 _) ?_; intro w12 a1 a2 a3; have HG12 : Hid (OL rInt 1 3 w11 w12 (.slice (some ⟨w11.heap.size, 0, none⟩) 0 0) []) := Lib.hid (OL.nil' _ _ a1 (Nat.le_refl _)); have HB12 := Lib.hid a2; have E11 := Lib.hid (E8.out.kept stay_int HB11.out); have F11 := Lib.hid (F8.out.kept stay_int HB11.out); clear a1 a2 a3)
                  | ((with_reducible show wpList _ _ _ (⟨some 84, _, _, _, _, _⟩ :: _) _ _); refine wpList_plain rfl (fun K hK => ?_); obtain ⟨iS, i1, i2, i3, i4⟩ := info_some infoInt'; refine wp_appOL _ (.tmp 82) (.tmp 83) iS _ rfl Tryz.underlying23 i1 i2 i3 rfl _ rfl HG12.out HB12.out rfl E11.out (fun _ _ h => len_int _ _ h) (fun _ _ h => ones_int _ _ h) (by rw [i4]; have := HS.out; simp; omega) (by have := HS.out; simp; omega) (fun v13 w13 q1 q2 => hK _ _ ?_); have HG13 : Hid (OL rInt 1 3 w11 w13 v13 ex) := Lib.hid q1; have HB13 := Lib.hid q2; clear hK K i1 i2 i3 i4 q1 q2)
                  | ((with_reducible show wpList _ _ _ (⟨some 86, _, _, _, _, _⟩ :: _) _ _); refine wpList_plain rfl (fun K hK => ?_); obtain ⟨iS, i1, i2, i3, i4⟩ := info_some infoInt'; refine wp_appOL _ (.tmp 84) (.tmp 85) iS _ rfl Tryz.underlying23 i1 i2 i3 rfl _ rfl HG13.out HB13.out rfl F11.out (fun _ _ h => len_int _ _ h) (fun _ _ h => ones_int _ _ h) (by rw [i4]; have := HS.out; simp; omega) (by have := HS.out; simp; omega) (fun v14 w14 q1 q2 => hK _ _ ?_); obtain ⟨A14, c14, e14, q3⟩ := q1.ls (b := 8) stay_int q2 (by rw [HLM.out]; have := HS.out; unfold lim; omega); rw [HLM.out] at e14 q3; subst e14; have HL14 := Lib.hid q3; have HB14 := Lib.hid q2; clear q3; clear hK K i1 i2 i3 i4 q1 q2)
                  | (go_at_call 14; (with_reducible show Calls _ _ _ w14 _); refine (dropped_any A11 (n + k) c11 (es ++ mo) V A14 (m + m') c14 (ex ++ fu) w14 (HL11.out.kept stay_en HB14.out) HN2.out HL14.out).mono ?_; unfold StrN; rw [HC2.out]; rintro e w15 ⟨A15, c15, rfl, x1, _, x3⟩; have HS15 := Lib.hid x1; have HT15 := Lib.hid (HS8.out.kept stay_str (below_then (below_then HB11.out HB14.out) x3)); have HB15 := Lib.hid (below_thenB HB8.out HB8.out.size (below_then (below_then HB11.out HB14.out) x3)); clear x1 x3))
                go_loopw [90] (fun iv wr => ∃ j : Nat, j ≤ S1.length ∧ iv = .int .i64 (j : Int) ∧ wr = w15) (fun iv _ => S1.length - (intOf iv).toNat)
                case atStart => exact ⟨0, by omega, rfl, rfl⟩
                case round =>
                  obtain ⟨j, hj, rfl, rfl⟩ := hrel
                  by_cases hjn : j < S1.length
                  · obtain ⟨s, g, o, hs, ea, q0⟩ := HT15.out.str_at (Below.refl _ _) hjn
                    have HIN : Hid (hasB S2 s = true) := Lib.hid ((hasB_iff _ _).2 (HG.out s (mem_of hs)))
                    subst ea
                    clear hs
                    go_wp2_with (first
                      | (go_at_call 17; refine (has_any _ _ _ S2 s _ HS15.out).mono ?_; rintro e w16 ⟨rfl, hw⟩; rw [hw, HIN.out]; clear hw w16))
                    go_roundw
                    case rel => exact ⟨j + 1, by omega, by go_num, trivial⟩
                    case measure => simp [intOf]; omega
                  · obtain rfl : j = S1.length := by omega
                    go_wp2_with fail
                    go_ret
                    exact ⟨rfl, HB15.out⟩
end
end Go.Proofs.YtfonbliomokffaaGreat
