/- The reference's Answer and State. -/
import Derived.Test.YtfonbliomokffaaGreatTvm
namespace Go.Proofs.YtfonbliomokffaaGreat
open Go Go.RowKit Gf Sha

theorem rb_20 {p : Pp} (h : validB p = true) : (rbL p).length ≤ 20 := by
  obtain ⟨h1, h2, h3⟩ := valid_dev h
  have e : (uv p.dev.toNat).length = 1 := by
    show (uvf 10 p.dev.toNat).length = 1
    rw [uvf_small 10 _ (by omega)]; rfl
  have := (uv_length p.seq.toNat).2
  rw [rbL, List.length_append, e]
  omega
theorem find_next {α : Type} {l : List α} {q : α → Bool} {j : Nat} {x : α} (h : l[j]? = some x) (hn : (l.take j).all (fun y => !q y) = true) (hq : q x = true) : l.find? q = some x := by
  rw [List.find?_eq_some_iff_append]
  refine ⟨hq, l.take j, l.drop (j + 1), ?_, fun y hy => List.all_eq_true.1 hn y hy⟩
  obtain ⟨hl, rfl⟩ := List.getElem?_eq_some_iff.1 h
  rw [← List.drop_eq_getElem_cons hl, List.take_append_drop]
theorem find_end {α : Type} {l : List α} {q : α → Bool} (hn : l.all (fun y => !q y) = true) : l.find? q = none := List.find?_eq_none.2 (fun y hy => by
  have := List.all_eq_true.1 hn y hy
  simpa using this)
def ansQ (p : Pp) (d : Int) (x : En) : Bool := x.dev == d && (isRep x && x.body == rbL p)
theorem ans_some {es : List En} {p : Pp} {d : Int} {x : En} (h : (cnt es).find? (ansQ p d) = some x) : ansS es p d = x.kind := by
  unfold ansS
  rw [show (cnt es).find? (fun x => x.dev == d && (isRep x && x.body == rbL p)) = some x from h]
theorem ans_none {es : List En} {p : Pp} {d : Int} (h : (cnt es).find? (ansQ p d) = none) : ansS es p d = 0 := by
  unfold ansS
  rw [show (cnt es).find? (fun x => x.dev == d && (isRep x && x.body == rbL p)) = none from h]
theorem none_next {α : Type} {l : List α} {k : Nat} {x : α} {q : α → Bool} (h : l[k]? = some x) (h1 : (l.take k).all (fun y => !q y) = true) (h2 : q x = false) : (l.take (k + 1)).all (fun y => !q y) = true := by
  rw [take_next h, List.all_append, h1]; simp [h2]
set_option maxRecDepth 100000 in
set_option maxHeartbeats 8000000 in
theorem ranswer_any (A : Option Addr) (n c : Nat) (es : List En) (cs : List Value) (p : Pp) (D : Int) (w : World) (h : LS rEn 6 72 w A n c es) (hn30 : n ≤ 10000) (hp : rPp w cs p) (hvd : validB p = true) :
    Calls Tryz.prog 45 #[.slice A n c, .agg cs.toArray, .int .i64 D] w fun e w' => e = .returned (.int .i64 (replyOf (dd es) p D)) ∧ Below w.heap.size w w' := by
  rw [← ans_reply es p D (rb_20 hvd)]
  have H := Lib.hid h
  have HP := Lib.hid hp
  have HVD := Lib.hid hvd
  have HN30 := Lib.hid hn30
  obtain ⟨A1, n1, c1, A2, n2, c2, rfl, _⟩ := hp
  obtain ⟨N, hN⟩ : ∃ N, N = (cnt es).length := ⟨_, rfl⟩
  have hN9 : N ≤ 10000 := by rw [hN]; exact Nat.le_trans (cnt_len es) (by rw [h.1]; exact hn30)
  have HN := Lib.hid hN
  clear h hn30 hN hvd
  go_enter Tryz.func45, Tryz.ntmps45
  go_wp2_with (first
    | ((with_reducible show wpList _ _ _ (⟨some 4, _, _, _, _, _⟩ :: _) _ _); refine wpList_box _ rfl 40 (.tmp 1) rfl (ppC p A1 n1 c1 A2 n2 c2) rfl ?_; intro w1 y1 y2 y3; have HP1 := Lib.hid y1; have HB1 := Lib.hid y2; clear y1 y2 y3)
    | (go_at_call 83; refine (rcounting_any A n c es w1 (H.out.kept stay_en HB1.out) HN30.out).mono ?_; rw [← HN.out]; rintro e w2 ⟨A3, c3, rfl, x1, x2⟩; have HC := Lib.hid x1; have HPX := Lib.hid (HP1.out.kept x2); have HB2 := Lib.hid (below_then HB1.out x2); clear x1 x2))
  go_loopw [12] (fun iv wr => ∃ j : Nat, j ≤ N ∧ iv = .int .i64 (j : Int) ∧ Hid (((cnt es).take j).all (fun y => !ansQ p D y) = true) ∧ Hid (Below w2.heap.size w2 wr)) (fun iv _ => N - (intOf iv).toNat)
  case atStart => exact ⟨0, by omega, rfl, Lib.hid rfl, Lib.hid (Below.refl _ _)⟩
  case round =>
    obtain ⟨j, hj, rfl, hno, hb⟩ := hrel
    obtain ⟨wx, hwx⟩ : ∃ x, x = wr := ⟨_, rfl⟩
    rw [← hwx] at hb ⊢
    clear hwx
    by_cases hlt : j < N
    · obtain ⟨x, g, o, cs, hs, ea, hat, hr⟩ := HC.out.at_ stay_en hb.out hlt
      obtain ⟨AB, m, d, rfl, hbs, _⟩ := hr
      have HBS := Lib.hid hbs
      have HA := Lib.hid hat
      have HX := Lib.hid hs
      subst ea
      clear hs hat hbs
      cases f0 : (x.dev == D) with
      | false =>
        have HF : Hid (((cnt es).take (j + 1)).all (fun y => !ansQ p D y) = true) := Lib.hid (none_next HX.out hno.out (by rw [ansQ, f0]; rfl))
        go_wp2_with (first
          | ((with_reducible show wpList _ _ _ (⟨some 15, _, _, _, _, _⟩ :: _) _ _); refine wpList_loadv _ rfl 33 (.tmp 14) rfl 6 (by kernel_rfl) g (o + j * 6) (enC x AB m d) (by go_simp) HA.out rfl ?_)
          | ((with_reducible show wpList _ _ _ (⟨some 8, _, _, _, _, _⟩ :: _) _ _); refine wpList_alloc _ rfl 33 rfl enZ enZero ?_; intro w3 a1 a2 a3; have HV3 := Lib.hid a1; have HX3 := Lib.hid a2; clear a1 a2 a3)
          | ((with_reducible show wpList _ _ _ (⟨none, _, _, _, _, _⟩ :: _) _ _); refine wpList_storev _ rfl 33 (.tmp 8) (.tmp 15) rfl 6 (by kernel_rfl) wx.heap.size 0 _ enZ (enC x AB m d) rfl rfl HV3.out rfl (one_en x AB m d) (by decide) ?_; intro w4 a1 a2 a3; have q0 := a1.get (j := 0) rfl; have q2 := a1.get (j := 2) rfl; have q4 := a1.get (j := 4) rfl; have HV4 : Hid (BL w4 wx.heap.size 33 (enC x AB m d)) := Lib.hid a1; have HX4 : Hid (Below wx.heap.size wx w4) := Lib.hid (low_kp HX3.out a2 (fun i hi e => by omega)); clear a1 a2 a3)
          | fail)
        refine Text.wp_region_text (fun _ => True) [(0, 4), (2, 4), (1, 1), (3, 4), (4, 4), (5, 4), (6, 4), (7, 4), (8, 4), (9, 4), (10, 4), (11, 4), (12, 4), (13, 4), (14, 4), (15, 4), (16, 4), (17, 4), (18, 4), (19, 4), (20, 4), (21, 4), (22, 4)] (by kernel_rfl) (by kernel_rfl) (fun _ _ _ _ _ h => h) (trivial) ?_
        iterate 2 (refine Text.purek rfl rfl (fun K hK => ⟨_, fun w' => by go_simp <;> rfl, ?_⟩); go_simp; refine hK _ ?_; clear hK K)
        (refine Text.readk rfl rfl (fun K hK => ⟨_, by go_simp <;> rfl, ?_⟩); go_simp; refine hK _ ?_; clear hK K)
        iterate 2 (refine Text.purek rfl rfl (fun K hK => ⟨_, fun w' => by go_simp <;> rfl, ?_⟩); go_simp; refine hK _ ?_; clear hK K)
        iterate 8 (refine Text.skipk (.inr (.inr rfl)) rfl rfl (fun K hK => ?_); go_simp; refine hK _ ?_; clear hK K)
        iterate 2 (refine Text.purek rfl rfl (fun K hK => ⟨_, fun w' => by go_simp <;> rfl, ?_⟩); go_simp; refine hK _ ?_; clear hK K)
        iterate 7 (refine Text.skipk (.inr (.inr rfl)) rfl rfl (fun K hK => ?_); go_simp; refine hK _ ?_; clear hK K)
        (refine Text.purek rfl rfl (fun K hK => ⟨_, fun w' => by go_simp <;> rfl, ?_⟩); go_simp; refine hK _ ?_; clear hK K)
        refine Text.done ?_
        go_wp2_with fail
        go_roundw
        case rel => exact ⟨j + 1, by omega, by go_num, HF, Lib.hid (below_thenB hb.out hb.out.size HX4.out.drew)⟩
        case measure => simp [intOf]; omega
      | true =>
        by_cases h4 : x.kind = 4
        · have f4 : (x.kind == 4) = true := by rw [beq_iff_eq]; exact h4
          have HR : Hid (isRep x = true) := Lib.hid (by rw [isRep, f4]; rfl)
          have HK : Hid (x.kind = 4) := Lib.hid h4
          clear h4
          by_cases he : x.body = rbL p
          · have es9 : ((strB x.body).toList == (strB (rbL p)).toList) = true := by rw [strB_eq]; exact decide_eq_true he
            have HF : Hid (ansS es p D = x.kind) := Lib.hid (ans_some (find_next HX.out hno.out (by rw [ansQ, f0, HR.out, he]; simp)))
            clear he
            go_wp2_with (first
              | ((with_reducible show wpList _ _ _ (⟨some 15, _, _, _, _, _⟩ :: _) _ _); refine wpList_loadv _ rfl 33 (.tmp 14) rfl 6 (by kernel_rfl) g (o + j * 6) (enC x AB m d) (by go_simp) HA.out rfl ?_)
              | ((with_reducible show wpList _ _ _ (⟨some 8, _, _, _, _, _⟩ :: _) _ _); refine wpList_alloc _ rfl 33 rfl enZ enZero ?_; intro w3 a1 a2 a3; have HV3 := Lib.hid a1; have HX3 := Lib.hid a2; clear a1 a2 a3)
              | ((with_reducible show wpList _ _ _ (⟨none, _, _, _, _, _⟩ :: _) _ _); refine wpList_storev _ rfl 33 (.tmp 8) (.tmp 15) rfl 6 (by kernel_rfl) wx.heap.size 0 _ enZ (enC x AB m d) rfl rfl HV3.out rfl (one_en x AB m d) (by decide) ?_; intro w4 a1 a2 a3; have q0 := a1.get (j := 0) rfl; have q2 := a1.get (j := 2) rfl; have q4 := a1.get (j := 4) rfl; have HV4 : Hid (BL w4 wx.heap.size 33 (enC x AB m d)) := Lib.hid a1; have HX4 : Hid (Below wx.heap.size wx w4) := Lib.hid (low_kp HX3.out a2 (fun i hi e => by omega)); clear a1 a2 a3)
              | fail)
            refine Text.wp_region_text (fun w' => w'.cell? ⟨wx.heap.size, 4, none⟩ = some (.slice AB m d) ∧ BS w' AB m d x.body ∧ BL w' w.heap.size 40 (ppC p A1 n1 c1 A2 n2 c2)) [(0, 4), (2, 4), (1, 1), (3, 4), (4, 4), (5, 4), (6, 1), (7, 4), (8, 4), (9, 4), (10, 4), (11, 4), (12, 4), (13, 4), (14, 4), (15, 4), (16, 0), (17, 0), (18, 0), (19, 2), (20, 1), (21, 4), (22, 4)] (by kernel_rfl) (by kernel_rfl) (fun _ _ _ _ _ h => h) (⟨HV4.out.drew.get (j := 4) rfl, (HBS.out.kept HX4.out).drew, (HPX.out.kept (below_thenB hb.out hb.out.size HX4.out)).drew⟩) ?_
            iterate 2 (refine Text.purek rfl rfl (fun K hK => ⟨_, fun w' => by go_simp <;> rfl, ?_⟩); go_simp; refine hK _ ?_; clear hK K)
            (refine Text.readk rfl rfl (fun K hK => ⟨_, by go_simp <;> rfl, ?_⟩); go_simp; refine hK _ ?_; clear hK K)
            iterate 3 (refine Text.purek rfl rfl (fun K hK => ⟨_, fun w' => by go_simp <;> rfl, ?_⟩); go_simp; refine hK _ ?_; clear hK K)
            (refine Text.readk rfl rfl (fun K hK => ⟨_, by go_simp <;> rfl, ?_⟩); go_simp; refine hK _ ?_; clear hK K)
            iterate 2 (refine Text.purek rfl rfl (fun K hK => ⟨_, fun w' => by go_simp <;> rfl, ?_⟩); go_simp; refine hK _ ?_; clear hK K)
            iterate 3 (refine Text.skipk (.inr (.inr rfl)) rfl rfl (fun K hK => ?_); go_simp; refine hK _ ?_; clear hK K)
            iterate 4 (refine Text.purek rfl rfl (fun K hK => ⟨_, fun w' => by go_simp <;> rfl, ?_⟩); go_simp; refine hK _ ?_; clear hK K)
            (refine Text.heldk rfl rfl (fun K hK => ⟨_, fun w' hw' => by go_simp <;> rfl, ?_⟩); go_simp; refine hK _ ?_; clear hK K)
            refine Text.heldk rfl rfl (fun K hK => ?_)
            refine ⟨_, fun w' hw' => by have hcs := conv_str hw'.2.1; go_simp <;> rfl, ?_⟩
            go_simp
            refine hK _ ?_
            clear hK K
            refine Text.heldk rfl rfl (fun K hK => ?_)
            refine ⟨_, fun w' hw' => exec_loadv 40 (.tmp 4) rfl 5 (by kernel_rfl) w.heap.size 0 _ rfl (BL.all hw'.2.2) rfl, ?_⟩
            go_simp
            refine hK _ ?_
            clear hK K
            refine Text.effw rfl rfl (fun K hK => ?_)
            go_simp
            refine (rreply_any _ p _ (stay_pp _ _ _ _ HP.out (below_thenB HB2.out HB2.out.size (below_thenB hb.out hb.out.size HX4.out)).drew) HVD.out).mono ?_
            rintro e w5 ⟨A5, c5, rfl, x1, x2⟩
            have hcs := conv_str x1
            have HX5 : Hid (Below wx.heap.size wx w5) := Lib.hid (below_thenB HX4.out HX4.out.size (below_then (Below.refl _ _).drew x2))
            have q2' := (HV4.out.kept (below_then (Below.refl _ _).drew x2)).get (j := 2) rfl
            refine hK _ _ ⟨(HV4.out.kept (below_then (Below.refl _ _).drew x2)).get (j := 4) rfl, HBS.out.kept HX5.out, HPX.out.kept (below_thenB hb.out hb.out.size HX5.out)⟩ ?_
            clear hK K x1 x2
            (refine Text.readk rfl rfl (fun K hK => ⟨_, by go_simp <;> rfl, ?_⟩); go_simp; refine hK _ ?_; clear hK K)
            iterate 2 (refine Text.purek rfl rfl (fun K hK => ⟨_, fun w' => by go_simp <;> rfl, ?_⟩); go_simp; refine hK _ ?_; clear hK K)
            refine Text.done ?_
            go_wp2_with fail
            go_ret
            exact ⟨by rw [HF.out]; rfl, below_thenB HB2.out HB2.out.size (below_thenB hb.out hb.out.size HX5.out)⟩
          · have es9 : ((strB x.body).toList == (strB (rbL p)).toList) = false := by rw [strB_eq]; exact decide_eq_false he
            have HF : Hid (((cnt es).take (j + 1)).all (fun y => !ansQ p D y) = true) := Lib.hid (none_next HX.out hno.out (by rw [ansQ, f0, HR.out]; simp [he]))
            clear he
            go_wp2_with (first
              | ((with_reducible show wpList _ _ _ (⟨some 15, _, _, _, _, _⟩ :: _) _ _); refine wpList_loadv _ rfl 33 (.tmp 14) rfl 6 (by kernel_rfl) g (o + j * 6) (enC x AB m d) (by go_simp) HA.out rfl ?_)
              | ((with_reducible show wpList _ _ _ (⟨some 8, _, _, _, _, _⟩ :: _) _ _); refine wpList_alloc _ rfl 33 rfl enZ enZero ?_; intro w3 a1 a2 a3; have HV3 := Lib.hid a1; have HX3 := Lib.hid a2; clear a1 a2 a3)
              | ((with_reducible show wpList _ _ _ (⟨none, _, _, _, _, _⟩ :: _) _ _); refine wpList_storev _ rfl 33 (.tmp 8) (.tmp 15) rfl 6 (by kernel_rfl) wx.heap.size 0 _ enZ (enC x AB m d) rfl rfl HV3.out rfl (one_en x AB m d) (by decide) ?_; intro w4 a1 a2 a3; have q0 := a1.get (j := 0) rfl; have q2 := a1.get (j := 2) rfl; have q4 := a1.get (j := 4) rfl; have HV4 : Hid (BL w4 wx.heap.size 33 (enC x AB m d)) := Lib.hid a1; have HX4 : Hid (Below wx.heap.size wx w4) := Lib.hid (low_kp HX3.out a2 (fun i hi e => by omega)); clear a1 a2 a3)
              | fail)
            refine Text.wp_region_text (fun w' => w'.cell? ⟨wx.heap.size, 4, none⟩ = some (.slice AB m d) ∧ BS w' AB m d x.body ∧ BL w' w.heap.size 40 (ppC p A1 n1 c1 A2 n2 c2)) [(0, 4), (2, 4), (1, 1), (3, 4), (4, 4), (5, 4), (6, 1), (7, 4), (8, 4), (9, 4), (10, 4), (11, 4), (12, 4), (13, 4), (14, 4), (15, 4), (16, 0), (17, 0), (18, 0), (19, 2), (20, 1), (21, 4), (22, 4)] (by kernel_rfl) (by kernel_rfl) (fun _ _ _ _ _ h => h) (⟨HV4.out.drew.get (j := 4) rfl, (HBS.out.kept HX4.out).drew, (HPX.out.kept (below_thenB hb.out hb.out.size HX4.out)).drew⟩) ?_
            iterate 2 (refine Text.purek rfl rfl (fun K hK => ⟨_, fun w' => by go_simp <;> rfl, ?_⟩); go_simp; refine hK _ ?_; clear hK K)
            (refine Text.readk rfl rfl (fun K hK => ⟨_, by go_simp <;> rfl, ?_⟩); go_simp; refine hK _ ?_; clear hK K)
            iterate 3 (refine Text.purek rfl rfl (fun K hK => ⟨_, fun w' => by go_simp <;> rfl, ?_⟩); go_simp; refine hK _ ?_; clear hK K)
            (refine Text.readk rfl rfl (fun K hK => ⟨_, by go_simp <;> rfl, ?_⟩); go_simp; refine hK _ ?_; clear hK K)
            iterate 2 (refine Text.purek rfl rfl (fun K hK => ⟨_, fun w' => by go_simp <;> rfl, ?_⟩); go_simp; refine hK _ ?_; clear hK K)
            iterate 3 (refine Text.skipk (.inr (.inr rfl)) rfl rfl (fun K hK => ?_); go_simp; refine hK _ ?_; clear hK K)
            iterate 4 (refine Text.purek rfl rfl (fun K hK => ⟨_, fun w' => by go_simp <;> rfl, ?_⟩); go_simp; refine hK _ ?_; clear hK K)
            (refine Text.heldk rfl rfl (fun K hK => ⟨_, fun w' hw' => by go_simp <;> rfl, ?_⟩); go_simp; refine hK _ ?_; clear hK K)
            refine Text.heldk rfl rfl (fun K hK => ?_)
            refine ⟨_, fun w' hw' => by have hcs := conv_str hw'.2.1; go_simp <;> rfl, ?_⟩
            go_simp
            refine hK _ ?_
            clear hK K
            refine Text.heldk rfl rfl (fun K hK => ?_)
            refine ⟨_, fun w' hw' => exec_loadv 40 (.tmp 4) rfl 5 (by kernel_rfl) w.heap.size 0 _ rfl (BL.all hw'.2.2) rfl, ?_⟩
            go_simp
            refine hK _ ?_
            clear hK K
            refine Text.effw rfl rfl (fun K hK => ?_)
            go_simp
            refine (rreply_any _ p _ (stay_pp _ _ _ _ HP.out (below_thenB HB2.out HB2.out.size (below_thenB hb.out hb.out.size HX4.out)).drew) HVD.out).mono ?_
            rintro e w5 ⟨A5, c5, rfl, x1, x2⟩
            have hcs := conv_str x1
            have HX5 : Hid (Below wx.heap.size wx w5) := Lib.hid (below_thenB HX4.out HX4.out.size (below_then (Below.refl _ _).drew x2))
            have q2' := (HV4.out.kept (below_then (Below.refl _ _).drew x2)).get (j := 2) rfl
            refine hK _ _ ⟨(HV4.out.kept (below_then (Below.refl _ _).drew x2)).get (j := 4) rfl, HBS.out.kept HX5.out, HPX.out.kept (below_thenB hb.out hb.out.size HX5.out)⟩ ?_
            clear hK K x1 x2
            (refine Text.readk rfl rfl (fun K hK => ⟨_, by go_simp <;> rfl, ?_⟩); go_simp; refine hK _ ?_; clear hK K)
            iterate 2 (refine Text.purek rfl rfl (fun K hK => ⟨_, fun w' => by go_simp <;> rfl, ?_⟩); go_simp; refine hK _ ?_; clear hK K)
            refine Text.done ?_
            go_wp2_with fail
            go_roundw
            case rel => exact ⟨j + 1, by omega, by go_num, HF, Lib.hid (below_thenB hb.out hb.out.size HX5.out)⟩
            case measure => simp [intOf]; omega
        have f4 : (x.kind == 4) = false := by rw [beq_eq_false_iff_ne]; exact h4
        clear h4
        by_cases h5 : x.kind = 5
        · have f5 : (x.kind == 5) = true := by rw [beq_iff_eq]; exact h5
          have HR : Hid (isRep x = true) := Lib.hid (by rw [isRep, f5]; simp)
          clear h5
          by_cases he : x.body = rbL p
          · have es9 : ((strB x.body).toList == (strB (rbL p)).toList) = true := by rw [strB_eq]; exact decide_eq_true he
            have HF : Hid (ansS es p D = x.kind) := Lib.hid (ans_some (find_next HX.out hno.out (by rw [ansQ, f0, HR.out, he]; simp)))
            clear he
            go_wp2_with (first
              | ((with_reducible show wpList _ _ _ (⟨some 15, _, _, _, _, _⟩ :: _) _ _); refine wpList_loadv _ rfl 33 (.tmp 14) rfl 6 (by kernel_rfl) g (o + j * 6) (enC x AB m d) (by go_simp) HA.out rfl ?_)
              | ((with_reducible show wpList _ _ _ (⟨some 8, _, _, _, _, _⟩ :: _) _ _); refine wpList_alloc _ rfl 33 rfl enZ enZero ?_; intro w3 a1 a2 a3; have HV3 := Lib.hid a1; have HX3 := Lib.hid a2; clear a1 a2 a3)
              | ((with_reducible show wpList _ _ _ (⟨none, _, _, _, _, _⟩ :: _) _ _); refine wpList_storev _ rfl 33 (.tmp 8) (.tmp 15) rfl 6 (by kernel_rfl) wx.heap.size 0 _ enZ (enC x AB m d) rfl rfl HV3.out rfl (one_en x AB m d) (by decide) ?_; intro w4 a1 a2 a3; have q0 := a1.get (j := 0) rfl; have q2 := a1.get (j := 2) rfl; have q4 := a1.get (j := 4) rfl; have HV4 : Hid (BL w4 wx.heap.size 33 (enC x AB m d)) := Lib.hid a1; have HX4 : Hid (Below wx.heap.size wx w4) := Lib.hid (low_kp HX3.out a2 (fun i hi e => by omega)); clear a1 a2 a3)
              | fail)
            refine Text.wp_region_text (fun w' => w'.cell? ⟨wx.heap.size, 4, none⟩ = some (.slice AB m d) ∧ BS w' AB m d x.body ∧ BL w' w.heap.size 40 (ppC p A1 n1 c1 A2 n2 c2)) [(0, 4), (2, 4), (1, 1), (3, 4), (4, 4), (5, 4), (6, 1), (7, 4), (8, 4), (9, 4), (10, 1), (11, 4), (12, 4), (13, 4), (14, 4), (15, 4), (16, 0), (17, 0), (18, 0), (19, 2), (20, 1), (21, 4), (22, 4)] (by kernel_rfl) (by kernel_rfl) (fun _ _ _ _ _ h => h) (⟨HV4.out.drew.get (j := 4) rfl, (HBS.out.kept HX4.out).drew, (HPX.out.kept (below_thenB hb.out hb.out.size HX4.out)).drew⟩) ?_
            iterate 2 (refine Text.purek rfl rfl (fun K hK => ⟨_, fun w' => by go_simp <;> rfl, ?_⟩); go_simp; refine hK _ ?_; clear hK K)
            (refine Text.readk rfl rfl (fun K hK => ⟨_, by go_simp <;> rfl, ?_⟩); go_simp; refine hK _ ?_; clear hK K)
            iterate 3 (refine Text.purek rfl rfl (fun K hK => ⟨_, fun w' => by go_simp <;> rfl, ?_⟩); go_simp; refine hK _ ?_; clear hK K)
            (refine Text.readk rfl rfl (fun K hK => ⟨_, by go_simp <;> rfl, ?_⟩); go_simp; refine hK _ ?_; clear hK K)
            iterate 3 (refine Text.purek rfl rfl (fun K hK => ⟨_, fun w' => by go_simp <;> rfl, ?_⟩); go_simp; refine hK _ ?_; clear hK K)
            (refine Text.readk rfl rfl (fun K hK => ⟨_, by go_simp <;> rfl, ?_⟩); go_simp; refine hK _ ?_; clear hK K)
            iterate 5 (refine Text.purek rfl rfl (fun K hK => ⟨_, fun w' => by go_simp <;> rfl, ?_⟩); go_simp; refine hK _ ?_; clear hK K)
            (refine Text.heldk rfl rfl (fun K hK => ⟨_, fun w' hw' => by go_simp <;> rfl, ?_⟩); go_simp; refine hK _ ?_; clear hK K)
            refine Text.heldk rfl rfl (fun K hK => ?_)
            refine ⟨_, fun w' hw' => by have hcs := conv_str hw'.2.1; go_simp <;> rfl, ?_⟩
            go_simp
            refine hK _ ?_
            clear hK K
            refine Text.heldk rfl rfl (fun K hK => ?_)
            refine ⟨_, fun w' hw' => exec_loadv 40 (.tmp 4) rfl 5 (by kernel_rfl) w.heap.size 0 _ rfl (BL.all hw'.2.2) rfl, ?_⟩
            go_simp
            refine hK _ ?_
            clear hK K
            refine Text.effw rfl rfl (fun K hK => ?_)
            go_simp
            refine (rreply_any _ p _ (stay_pp _ _ _ _ HP.out (below_thenB HB2.out HB2.out.size (below_thenB hb.out hb.out.size HX4.out)).drew) HVD.out).mono ?_
            rintro e w5 ⟨A5, c5, rfl, x1, x2⟩
            have hcs := conv_str x1
            have HX5 : Hid (Below wx.heap.size wx w5) := Lib.hid (below_thenB HX4.out HX4.out.size (below_then (Below.refl _ _).drew x2))
            have q2' := (HV4.out.kept (below_then (Below.refl _ _).drew x2)).get (j := 2) rfl
            refine hK _ _ ⟨(HV4.out.kept (below_then (Below.refl _ _).drew x2)).get (j := 4) rfl, HBS.out.kept HX5.out, HPX.out.kept (below_thenB hb.out hb.out.size HX5.out)⟩ ?_
            clear hK K x1 x2
            (refine Text.readk rfl rfl (fun K hK => ⟨_, by go_simp <;> rfl, ?_⟩); go_simp; refine hK _ ?_; clear hK K)
            iterate 2 (refine Text.purek rfl rfl (fun K hK => ⟨_, fun w' => by go_simp <;> rfl, ?_⟩); go_simp; refine hK _ ?_; clear hK K)
            refine Text.done ?_
            go_wp2_with fail
            go_ret
            exact ⟨by rw [HF.out]; rfl, below_thenB HB2.out HB2.out.size (below_thenB hb.out hb.out.size HX5.out)⟩
          · have es9 : ((strB x.body).toList == (strB (rbL p)).toList) = false := by rw [strB_eq]; exact decide_eq_false he
            have HF : Hid (((cnt es).take (j + 1)).all (fun y => !ansQ p D y) = true) := Lib.hid (none_next HX.out hno.out (by rw [ansQ, f0, HR.out]; simp [he]))
            clear he
            go_wp2_with (first
              | ((with_reducible show wpList _ _ _ (⟨some 15, _, _, _, _, _⟩ :: _) _ _); refine wpList_loadv _ rfl 33 (.tmp 14) rfl 6 (by kernel_rfl) g (o + j * 6) (enC x AB m d) (by go_simp) HA.out rfl ?_)
              | ((with_reducible show wpList _ _ _ (⟨some 8, _, _, _, _, _⟩ :: _) _ _); refine wpList_alloc _ rfl 33 rfl enZ enZero ?_; intro w3 a1 a2 a3; have HV3 := Lib.hid a1; have HX3 := Lib.hid a2; clear a1 a2 a3)
              | ((with_reducible show wpList _ _ _ (⟨none, _, _, _, _, _⟩ :: _) _ _); refine wpList_storev _ rfl 33 (.tmp 8) (.tmp 15) rfl 6 (by kernel_rfl) wx.heap.size 0 _ enZ (enC x AB m d) rfl rfl HV3.out rfl (one_en x AB m d) (by decide) ?_; intro w4 a1 a2 a3; have q0 := a1.get (j := 0) rfl; have q2 := a1.get (j := 2) rfl; have q4 := a1.get (j := 4) rfl; have HV4 : Hid (BL w4 wx.heap.size 33 (enC x AB m d)) := Lib.hid a1; have HX4 : Hid (Below wx.heap.size wx w4) := Lib.hid (low_kp HX3.out a2 (fun i hi e => by omega)); clear a1 a2 a3)
              | fail)
            refine Text.wp_region_text (fun w' => w'.cell? ⟨wx.heap.size, 4, none⟩ = some (.slice AB m d) ∧ BS w' AB m d x.body ∧ BL w' w.heap.size 40 (ppC p A1 n1 c1 A2 n2 c2)) [(0, 4), (2, 4), (1, 1), (3, 4), (4, 4), (5, 4), (6, 1), (7, 4), (8, 4), (9, 4), (10, 1), (11, 4), (12, 4), (13, 4), (14, 4), (15, 4), (16, 0), (17, 0), (18, 0), (19, 2), (20, 1), (21, 4), (22, 4)] (by kernel_rfl) (by kernel_rfl) (fun _ _ _ _ _ h => h) (⟨HV4.out.drew.get (j := 4) rfl, (HBS.out.kept HX4.out).drew, (HPX.out.kept (below_thenB hb.out hb.out.size HX4.out)).drew⟩) ?_
            iterate 2 (refine Text.purek rfl rfl (fun K hK => ⟨_, fun w' => by go_simp <;> rfl, ?_⟩); go_simp; refine hK _ ?_; clear hK K)
            (refine Text.readk rfl rfl (fun K hK => ⟨_, by go_simp <;> rfl, ?_⟩); go_simp; refine hK _ ?_; clear hK K)
            iterate 3 (refine Text.purek rfl rfl (fun K hK => ⟨_, fun w' => by go_simp <;> rfl, ?_⟩); go_simp; refine hK _ ?_; clear hK K)
            (refine Text.readk rfl rfl (fun K hK => ⟨_, by go_simp <;> rfl, ?_⟩); go_simp; refine hK _ ?_; clear hK K)
            iterate 3 (refine Text.purek rfl rfl (fun K hK => ⟨_, fun w' => by go_simp <;> rfl, ?_⟩); go_simp; refine hK _ ?_; clear hK K)
            (refine Text.readk rfl rfl (fun K hK => ⟨_, by go_simp <;> rfl, ?_⟩); go_simp; refine hK _ ?_; clear hK K)
            iterate 5 (refine Text.purek rfl rfl (fun K hK => ⟨_, fun w' => by go_simp <;> rfl, ?_⟩); go_simp; refine hK _ ?_; clear hK K)
            (refine Text.heldk rfl rfl (fun K hK => ⟨_, fun w' hw' => by go_simp <;> rfl, ?_⟩); go_simp; refine hK _ ?_; clear hK K)
            refine Text.heldk rfl rfl (fun K hK => ?_)
            refine ⟨_, fun w' hw' => by have hcs := conv_str hw'.2.1; go_simp <;> rfl, ?_⟩
            go_simp
            refine hK _ ?_
            clear hK K
            refine Text.heldk rfl rfl (fun K hK => ?_)
            refine ⟨_, fun w' hw' => exec_loadv 40 (.tmp 4) rfl 5 (by kernel_rfl) w.heap.size 0 _ rfl (BL.all hw'.2.2) rfl, ?_⟩
            go_simp
            refine hK _ ?_
            clear hK K
            refine Text.effw rfl rfl (fun K hK => ?_)
            go_simp
            refine (rreply_any _ p _ (stay_pp _ _ _ _ HP.out (below_thenB HB2.out HB2.out.size (below_thenB hb.out hb.out.size HX4.out)).drew) HVD.out).mono ?_
            rintro e w5 ⟨A5, c5, rfl, x1, x2⟩
            have hcs := conv_str x1
            have HX5 : Hid (Below wx.heap.size wx w5) := Lib.hid (below_thenB HX4.out HX4.out.size (below_then (Below.refl _ _).drew x2))
            have q2' := (HV4.out.kept (below_then (Below.refl _ _).drew x2)).get (j := 2) rfl
            refine hK _ _ ⟨(HV4.out.kept (below_then (Below.refl _ _).drew x2)).get (j := 4) rfl, HBS.out.kept HX5.out, HPX.out.kept (below_thenB hb.out hb.out.size HX5.out)⟩ ?_
            clear hK K x1 x2
            (refine Text.readk rfl rfl (fun K hK => ⟨_, by go_simp <;> rfl, ?_⟩); go_simp; refine hK _ ?_; clear hK K)
            iterate 2 (refine Text.purek rfl rfl (fun K hK => ⟨_, fun w' => by go_simp <;> rfl, ?_⟩); go_simp; refine hK _ ?_; clear hK K)
            refine Text.done ?_
            go_wp2_with fail
            go_roundw
            case rel => exact ⟨j + 1, by omega, by go_num, HF, Lib.hid (below_thenB hb.out hb.out.size HX5.out)⟩
            case measure => simp [intOf]; omega
        have f5 : (x.kind == 5) = false := by rw [beq_eq_false_iff_ne]; exact h5
        have HF : Hid (((cnt es).take (j + 1)).all (fun y => !ansQ p D y) = true) := Lib.hid (none_next HX.out hno.out (by rw [ansQ, isRep, f4, f5]; simp))
        clear h5
        go_wp2_with (first
          | ((with_reducible show wpList _ _ _ (⟨some 15, _, _, _, _, _⟩ :: _) _ _); refine wpList_loadv _ rfl 33 (.tmp 14) rfl 6 (by kernel_rfl) g (o + j * 6) (enC x AB m d) (by go_simp) HA.out rfl ?_)
          | ((with_reducible show wpList _ _ _ (⟨some 8, _, _, _, _, _⟩ :: _) _ _); refine wpList_alloc _ rfl 33 rfl enZ enZero ?_; intro w3 a1 a2 a3; have HV3 := Lib.hid a1; have HX3 := Lib.hid a2; clear a1 a2 a3)
          | ((with_reducible show wpList _ _ _ (⟨none, _, _, _, _, _⟩ :: _) _ _); refine wpList_storev _ rfl 33 (.tmp 8) (.tmp 15) rfl 6 (by kernel_rfl) wx.heap.size 0 _ enZ (enC x AB m d) rfl rfl HV3.out rfl (one_en x AB m d) (by decide) ?_; intro w4 a1 a2 a3; have q0 := a1.get (j := 0) rfl; have q2 := a1.get (j := 2) rfl; have q4 := a1.get (j := 4) rfl; have HV4 : Hid (BL w4 wx.heap.size 33 (enC x AB m d)) := Lib.hid a1; have HX4 : Hid (Below wx.heap.size wx w4) := Lib.hid (low_kp HX3.out a2 (fun i hi e => by omega)); clear a1 a2 a3)
          | fail)
        refine Text.wp_region_text (fun _ => True) [(0, 4), (2, 4), (1, 1), (3, 4), (4, 4), (5, 4), (6, 1), (7, 4), (8, 4), (9, 4), (10, 1), (11, 4), (12, 4), (13, 4), (14, 4), (15, 4), (16, 4), (17, 4), (18, 4), (19, 4), (20, 4), (21, 4), (22, 4)] (by kernel_rfl) (by kernel_rfl) (fun _ _ _ _ _ h => h) (trivial) ?_
        iterate 2 (refine Text.purek rfl rfl (fun K hK => ⟨_, fun w' => by go_simp <;> rfl, ?_⟩); go_simp; refine hK _ ?_; clear hK K)
        (refine Text.readk rfl rfl (fun K hK => ⟨_, by go_simp <;> rfl, ?_⟩); go_simp; refine hK _ ?_; clear hK K)
        iterate 3 (refine Text.purek rfl rfl (fun K hK => ⟨_, fun w' => by go_simp <;> rfl, ?_⟩); go_simp; refine hK _ ?_; clear hK K)
        (refine Text.readk rfl rfl (fun K hK => ⟨_, by go_simp <;> rfl, ?_⟩); go_simp; refine hK _ ?_; clear hK K)
        iterate 3 (refine Text.purek rfl rfl (fun K hK => ⟨_, fun w' => by go_simp <;> rfl, ?_⟩); go_simp; refine hK _ ?_; clear hK K)
        (refine Text.readk rfl rfl (fun K hK => ⟨_, by go_simp <;> rfl, ?_⟩); go_simp; refine hK _ ?_; clear hK K)
        iterate 4 (refine Text.purek rfl rfl (fun K hK => ⟨_, fun w' => by go_simp <;> rfl, ?_⟩); go_simp; refine hK _ ?_; clear hK K)
        iterate 7 (refine Text.skipk (.inr (.inr rfl)) rfl rfl (fun K hK => ?_); go_simp; refine hK _ ?_; clear hK K)
        (refine Text.purek rfl rfl (fun K hK => ⟨_, fun w' => by go_simp <;> rfl, ?_⟩); go_simp; refine hK _ ?_; clear hK K)
        refine Text.done ?_
        go_wp2_with fail
        go_roundw
        case rel => exact ⟨j + 1, by omega, by go_num, HF, Lib.hid (below_thenB hb.out hb.out.size HX4.out.drew)⟩
        case measure => simp [intOf]; omega
    · obtain rfl : j = N := by omega
      have HF : Hid (ansS es p D = 0) := Lib.hid (ans_none (find_end (by have := hno.out; rwa [take_end HN.out.symm] at this)))
      go_wp2_with fail
      go_ret
      exact ⟨by rw [HF.out]; rfl, below_thenB HB2.out HB2.out.size hb.out⟩
theorem reply_vals (D : List En) (p : Pp) (d : Int) : replyOf D p d = 0 ∨ replyOf D p d = 4 ∨ replyOf D p d = 5 := by
  unfold replyOf
  rcases bestP_of D (d, rbL p) with ⟨h1, _⟩ | ⟨x, h1, _, h3, _⟩
  · rw [h1]; exact .inl rfl
  · rw [h1]
    rw [Bool.and_eq_true, okRep, Bool.and_eq_true, isRep, Bool.or_eq_true, beq_iff_eq, beq_iff_eq] at h3
    exact .inr h3.1.1
set_option maxRecDepth 100000 in
set_option maxHeartbeats 4000000 in
theorem rstate_any (A : Option Addr) (n c : Nat) (es : List En) (cs : List Value) (p : Pp) (B : Option Addr) (m d : Nat) (ex : List Int) (w : World) (h : LS rEn 6 72 w A n c es) (hn30 : n ≤ 10000) (hp : rPp w cs p) (hvd : validB p = true) (hex : LS rInt 1 8 w B m d ex) :
    Calls Tryz.prog 48 #[.slice A n c, .agg cs.toArray, .slice B m d] w fun e w' => e = .returned (.int .i64 (stateOf (dd es) p ex)) ∧ Below w.heap.size w w' := by
  have H := Lib.hid h
  have HP := Lib.hid hp
  have HVD := Lib.hid hvd
  have HN30 := Lib.hid hn30
  have HEX := Lib.hid hex
  obtain ⟨A1, n1, c1, A2, n2, c2, rfl, hl1, _⟩ := hp
  have hn := hl1.len_le
  have HL1 := Lib.hid hl1
  have HLN := Lib.hid hl1.1
  clear h hn30 hvd hex hl1
  go_enter Tryz.func48, Tryz.ntmps48
  go_wp2_with (first
    | ((with_reducible show wpList _ _ _ (⟨some 4, _, _, _, _, _⟩ :: _) _ _); refine wpList_box _ rfl 40 (.tmp 1) rfl (ppC p A1 n1 c1 A2 n2 c2) rfl ?_; intro w1 y1 y2 y3; have HP1 := Lib.hid y1; have HB1 := Lib.hid y2; have q0 := y1.get (j := 3) rfl; clear y1 y2 y3))
  clear q0
  go_loopw [7, 13] (fun sv iv wr => ∃ k : Nat, k ≤ n1 ∧ iv = .int .i64 (k : Int) ∧ sv = opV ((p.ws.take k).any (fun x => asks p ex x && replyOf (dd es) p x != 4)) ∧ Hid ((p.ws.take k).any (fun x => asks p ex x && replyOf (dd es) p x == 5) = false) ∧ Hid (Below w1.heap.size w1 wr)) (fun _ iv _ => n1 - (intOf iv).toNat)
  case atStart => exact ⟨0, by omega, rfl, rfl, Lib.hid rfl, Lib.hid (Below.refl _ _)⟩
  case round =>
    obtain ⟨k, hk, rfl, rfl, hno, hb⟩ := hrel
    obtain ⟨wx, hwx⟩ : ∃ x, x = wr := ⟨_, rfl⟩
    rw [← hwx] at hb ⊢
    clear hwx
    have HBx := Lib.hid (below_then HB1.out hb.out)
    by_cases hlt : k < n1
    · obtain ⟨x, g, o, hx, rfl, q1⟩ := HL1.out.int_at HBx.out hlt
      have HX := Lib.hid hx
      have q2 := (HP1.out.kept hb.out).get (j := 0) rfl
      clear hx
      cases f1 : (x == p.dev) with
      | true =>
        have HA : Hid (asks p ex x = false) := Lib.hid (by rw [asks, f1]; rfl)
        go_wp2_with fail
        go_roundw
        case rel => exact ⟨k + 1, by omega, by go_num, by rw [any_step HX.out, HA.out, Bool.false_and, Bool.or_false], Lib.hid (by rw [any_step HX.out, HA.out, hno.out]; rfl), hb⟩
        case measure => simp [intOf]; omega
      | false =>
        cases f2 : ex.contains x with
        | true =>
          have HA : Hid (asks p ex x = false) := Lib.hid (by rw [asks, f1, f2]; rfl)
          go_wp2_with (first
            | (go_at_call 26; refine (member_any B m d ex x wx (HEX.out.kept stay_int HBx.out)).mono ?_; rintro e w3 ⟨rfl, hw⟩; rw [hw, f2]; clear hw w3))
          go_roundw
          case rel => exact ⟨k + 1, by omega, by go_num, by rw [any_step HX.out, HA.out, Bool.false_and, Bool.or_false], Lib.hid (by rw [any_step HX.out, HA.out, hno.out]; rfl), hb⟩
          case measure => simp [intOf]; omega
        | false =>
          have HA : Hid (asks p ex x = true) := Lib.hid (by rw [asks, f1, f2]; rfl)
          obtain ⟨r, hr⟩ : ∃ r, r = replyOf (dd es) p x := ⟨_, rfl⟩
          have HR := Lib.hid hr
          have HRV : Hid (r = 0 ∨ r = 4 ∨ r = 5) := Lib.hid (by rw [hr]; exact reply_vals _ _ _)
          clear hr
          cases f5 : (r == 5) with
          | true =>
            have HF : Hid (stateOf (dd es) p ex = 2) := Lib.hid (by
              rw [stateOf, if_pos]
              exact List.any_eq_true.2 ⟨x, mem_of HX.out, by rw [HA.out, ← HR.out, f5]; rfl⟩)
            go_wp2_with (first
              | (go_at_call 26; refine (member_any B m d ex x wx (HEX.out.kept stay_int HBx.out)).mono ?_; rintro e w3 ⟨rfl, hw⟩; rw [hw, f2]; clear hw w3)
              | ((with_reducible show wpList _ _ _ (⟨some 27, _, _, _, _, _⟩ :: _) _ _); refine wpList_loadv _ rfl 40 (.tmp 4) rfl 5 (by kernel_rfl) w.heap.size 0 (ppC p (some ⟨g, o, none⟩) n1 c1 A2 n2 c2) rfl (BL.all (HP1.out.kept hb.out)) rfl ?_)
              | (go_at_call 45; refine (ranswer_any A n c es _ p x wx (H.out.kept stay_en HBx.out) HN30.out (stay_pp _ _ _ _ HP.out HBx.out) HVD.out).mono ?_; rintro e w4 ⟨rfl, b4⟩; rw [← HR.out]; have HX4 := Lib.hid b4; have HB4 := Lib.hid (below_thenB HBx.out HBx.out.size b4); clear b4))
            go_ret
            exact ⟨by rw [HF.out]; rfl, HB4.out⟩
          | false =>
            have HNO : Hid ((p.ws.take (k + 1)).any (fun x => asks p ex x && replyOf (dd es) p x == 5) = false) := Lib.hid (by rw [any_step HX.out, hno.out, HA.out, ← HR.out, f5]; rfl)
            cases f4 : (r == 0) with
            | false =>
              have HR4 : Hid ((r != 4) = false) := Lib.hid (by
                rw [bne_eq_false_iff_eq]
                rw [beq_eq_false_iff_ne] at f4 f5
                rcases HRV.out with h | h | h
                · exact absurd h f4
                · exact h
                · exact absurd h f5)
              go_wp2_with (first
                | (go_at_call 26; refine (member_any B m d ex x wx (HEX.out.kept stay_int HBx.out)).mono ?_; rintro e w3 ⟨rfl, hw⟩; rw [hw, f2]; clear hw w3)
                | ((with_reducible show wpList _ _ _ (⟨some 27, _, _, _, _, _⟩ :: _) _ _); refine wpList_loadv _ rfl 40 (.tmp 4) rfl 5 (by kernel_rfl) w.heap.size 0 (ppC p (some ⟨g, o, none⟩) n1 c1 A2 n2 c2) rfl (BL.all (HP1.out.kept hb.out)) rfl ?_)
                | (go_at_call 45; refine (ranswer_any A n c es _ p x wx (H.out.kept stay_en HBx.out) HN30.out (stay_pp _ _ _ _ HP.out HBx.out) HVD.out).mono ?_; rintro e w4 ⟨rfl, b4⟩; rw [← HR.out]; have HX4 := Lib.hid b4; have HB4 := Lib.hid (below_thenB HBx.out HBx.out.size b4); clear b4))
              go_roundw
              case rel => exact ⟨k + 1, by omega, by go_num, by rw [any_step HX.out, HA.out, ← HR.out, HR4.out, Bool.true_and, Bool.or_false], HNO, Lib.hid (below_thenB hb.out hb.out.size HX4.out)⟩
              case measure => simp [intOf]; omega
            | true =>
              have HR4 : Hid ((r != 4) = true) := Lib.hid (by
                rw [beq_iff_eq.1 f4]; rfl)
              go_wp2_with (first
                | (go_at_call 26; refine (member_any B m d ex x wx (HEX.out.kept stay_int HBx.out)).mono ?_; rintro e w3 ⟨rfl, hw⟩; rw [hw, f2]; clear hw w3)
                | ((with_reducible show wpList _ _ _ (⟨some 27, _, _, _, _, _⟩ :: _) _ _); refine wpList_loadv _ rfl 40 (.tmp 4) rfl 5 (by kernel_rfl) w.heap.size 0 (ppC p (some ⟨g, o, none⟩) n1 c1 A2 n2 c2) rfl (BL.all (HP1.out.kept hb.out)) rfl ?_)
                | (go_at_call 45; refine (ranswer_any A n c es _ p x wx (H.out.kept stay_en HBx.out) HN30.out (stay_pp _ _ _ _ HP.out HBx.out) HVD.out).mono ?_; rintro e w4 ⟨rfl, b4⟩; rw [← HR.out]; have HX4 := Lib.hid b4; have HB4 := Lib.hid (below_thenB HBx.out HBx.out.size b4); clear b4))
              go_roundw
              case rel => exact ⟨k + 1, by omega, by go_num, by rw [any_step HX.out, HA.out, ← HR.out, HR4.out, Bool.true_and, Bool.or_true]; rfl, HNO, Lib.hid (below_thenB hb.out hb.out.size HX4.out)⟩
              case measure => simp [intOf]; omega
    · obtain rfl : k = n1 := by omega
      have HF : Hid (opV ((p.ws.take k).any (fun x => asks p ex x && replyOf (dd es) p x != 4)) = .int .i64 (stateOf (dd es) p ex)) := Lib.hid (by
        have h9 := hno.out
        rw [take_end HLN.out] at h9 ⊢
        rw [stateOf, h9, opV]; rfl)
      go_wp2_with fail
      go_ret
      exact ⟨by rw [← HF.out]; rfl, HBx.out⟩
end Go.Proofs.YtfonbliomokffaaGreat
