/- The town's acts: reply. -/
import Derived.Test.YtfonbliomokffaaGreatZmm
import Derived.Test.YtfonbliomokffaaGreatZkm
namespace Go.Proofs.YtfonbliomokffaaGreat
open Go Go.RowKit Gf Sha

/-- The town after its writer has replied. -/
def Tn.replyAll (T : Tn) (u : Nat) : Tn := (pendL (dd (T.view u)) 0 (u : Int)).foldl (Tn.reply1 u) T
theorem fold_next {T : Tn} {u : Nat} {P : List Pp} {k : Nat} {q : Pp} (h : P[k]? = some q) : (P.take (k + 1)).foldl (Tn.reply1 u) T = ((P.take k).foldl (Tn.reply1 u) T).log u (replyK q (((P.take k).foldl (Tn.reply1 u) T).needed u) (((P.take k).foldl (Tn.reply1 u) T).known u)) (rbL q) := by
 rw [take_next h, List.foldl_append]; rfl
theorem fold_inv {u : Nat} (hu : u < 3) : ∀ (P : List Pp) (T : Tn), InvL T → InvL (P.foldl (Tn.reply1 u) T) ∧ (P.foldl (Tn.reply1 u) T).all.length = T.all.length + P.length
 | [], T, h => ⟨h, rfl⟩
 | q :: P, T, h => by
  rw [List.foldl_cons]
  obtain ⟨h1, h2⟩ := fold_inv hu P (Tn.reply1 u T q) (h.log hu)
  refine ⟨h1, ?_⟩
  rw [h2, List.length_cons]
  unfold Tn.reply1
  rw [log_len hu]; omega
set_option maxRecDepth 100000 in
set_option maxHeartbeats 4000000 in
theorem do_reply (w0 : World) (g : Nat) (T : Tn) (v : Nat → Value) (u : Nat) (ao : Int) (st : UInt8) (w : World) (h : TM w0 w g T v) (hi : InvL T) (hl : T.all.length ≤ 2000) (hu : u < 3) (hwr : T.wr (3 * u + u) = true) :
  Calls Tryz.prog 21 #[.pointer (some ⟨g, 0, none⟩), .agg (acC ⟨4, (u : Int), ao, st⟩).toArray] w fun e w' => e = .returned (.bool true) ∧ ∃ v', TM w0 w' g (T.replyAll u) v' := by
 have H := Lib.hid h
 have HI := Lib.hid hi
 have HL := Lib.hid hl
 have HWR := Lib.hid hwr
 have hu' : (u : Int) < 3 := by omega
 obtain ⟨P, hP⟩ : ∃ P, P = pendL (dd (T.view u)) 0 (u : Int) := ⟨_, rfl⟩
 have HP := Lib.hid hP
 have HPV : Hid (∀ p ∈ P, validB p = true) := Lib.hid (fun p hp => by rw [hP] at hp; exact ofL_valid (List.mem_filter.1 hp).1)
 have HPL : Hid (P.length ≤ 2000) := Lib.hid (by
  have h1 := pend_len hi u
  rw [← hP] at h1
  exact Nat.le_trans h1 (Nat.le_trans (List.length_filter_le _ _) hl))
 clear h hi hl hwr hP
 go_enter Tryz.func21, Tryz.ntmps21
 go_wp2_with (first
  | ((with_reducible show wpList _ _ _ (⟨some 3, _, _, _, _, _⟩ :: _) _ _); refine wpList_box _ rfl 55 (.tmp 1) rfl (acC ⟨4, (u : Int), ao, st⟩) rfl ?_; intro w1 y1 y2 y3; have HA1 := Lib.hid y1; have HT1 := Lib.hid (H.out.kept y2); have HB1 := Lib.hid y2; clear y1 y2 y3)
  | fail)
 have p1 := HA1.out.get (j := 1) rfl
 have p2 := HA1.out.get (j := 2) rfl
 refine Text.wp_region_text (fun _ => True) [(0, 4), (2, 4), (1, 1), (4, 4), (3, 1), (5, 4)] (by kernel_rfl) (by kernel_rfl) (fun _ _ _ _ _ h => h) (trivial) ?_
 iterate 2 (refine Text.purek rfl rfl (fun K hK => ⟨_, fun w' => by go_simp <;> rfl, ?_⟩); go_simp; refine hK _ ?_; clear hK K)
 (refine Text.readk rfl rfl (fun K hK => ⟨_, by go_simp <;> rfl, ?_⟩); go_simp; refine hK _ ?_; clear hK K)
 (refine Text.purek rfl rfl (fun K hK => ⟨_, fun w' => by go_simp <;> rfl, ?_⟩); go_simp; refine hK _ ?_; clear hK K)
 (refine Text.readk rfl rfl (fun K hK => ⟨_, by go_simp <;> rfl, ?_⟩); go_simp; refine hK _ ?_; clear hK K)
 (refine Text.purek rfl rfl (fun K hK => ⟨_, fun w' => by go_simp <;> rfl, ?_⟩); go_simp; refine hK _ ?_; clear hK K)
 refine Text.done ?_
 clear p1 p2
 have q0 : w1.drew.cell? ⟨g, 12 + u * 3 + u, none⟩ = some (.bool true) := by rw [HT1.out.drew.cw hu hu, HWR.out]
 have q1 : w1.drew.cell? ⟨w.heap.size, 0, none⟩ = some (.int .i64 4) := HA1.out.drew.get (j := 0) rfl
 go_wp2_with (first
  | (go_at_call 52; refine (view_any w0 g T v u w1.drew HT1.out.drew HI.out (Nat.le_trans HL.out (by decide)) hu).mono ?_; rintro e w2 ⟨A2, c2, rfl, x1, x2⟩; have HV2 := Lib.hid (x1.mono fun _ _ h => h.1); have HT2 := Lib.hid (HT1.out.drew.kept x2); clear x1 x2)
  | (go_at_call 18; refine (pending_any A2 _ c2 (T.view u) 0 (u : Int) w2 HV2.out (Nat.le_trans (view_len T u) HL.out) (wf_small (by omega) (by omega))).mono ?_; rw [← HP.out]; rintro e w3 ⟨A3, n3, c3, rfl, x1, _, x2⟩; have HN3 : Hid (P.length = n3) := Lib.hid x1.1.1; have HL3 := Lib.hid x1; have hn3 := x1.1.len_le; have HT3 := Lib.hid (HT2.out.kept x2); clear x1 x2))
 clear q0 q1
 go_loopw [219] (fun iv wr => ∃ (k : Nat) (y : Nat → Value), k ≤ n3 ∧ iv = .int .i64 (k : Int) ∧ Hid (TM w0 wr g ((P.take k).foldl (Tn.reply1 u) T) y) ∧ Hid (LT rPpV 5 72 42 wr A3 n3 c3 P)) (fun iv _ => n3 - (intOf iv).toNat)
 case atStart => exact ⟨0, v, by omega, rfl, HT3, HL3⟩
 case round =>
  obtain ⟨k, y, hk, rfl, ht, hp⟩ := hrel
  obtain ⟨wx, hwx⟩ : ∃ x, x = wr := ⟨_, rfl⟩
  rw [← hwx] at ht hp ⊢
  clear hwx
  by_cases hlt : k < n3
  ·
   obtain ⟨q, g', o', cs, hs, ea, hat, hrd⟩ := hp.out.1.at_ stay_ppv (Below.refl _ _) hlt
   have HR := Lib.hid hrd.1.1
   have HQV := Lib.hid hrd.2
   obtain ⟨⟨⟨A1, n1, c1, A2', n2, c2', rfl, _⟩, _⟩, _⟩ := hrd
   have HA := Lib.hid hat
   obtain ⟨X, hX⟩ : ∃ X, X = (P.take k).foldl (Tn.reply1 u) T := ⟨_, rfl⟩
   have HNX : Hid ((P.take (k + 1)).foldl (Tn.reply1 u) T = X.log u (replyK q (X.needed u) (X.known u)) (rbL q)) := Lib.hid (by rw [fold_next hs, hX])
   have HXI : Hid (InvL X) := Lib.hid (by rw [hX]; exact (fold_inv hu _ _ HI.out).1)
   have HXL : Hid (X.all.length ≤ 10000) := Lib.hid (by
    rw [hX, (fold_inv hu _ _ HI.out).2, List.length_take]
    have := HL.out
    have := HPL.out
    omega)
   rw [← hX] at ht
   subst ea
   clear hs hat hX
   go_wp2_with (first
    | ((with_reducible show wpList _ _ _ (⟨some 222, _, _, _, _, _⟩ :: _) _ _); refine wpList_loadv _ rfl 42 (.tmp 221) rfl 5 (by kernel_rfl) g' (o' + k * 5) (ppC q A1 n1 c1 A2' n2 c2') (by go_simp) HA.out rfl ?_)
    | ((with_reducible show wpList _ _ _ (⟨some 16, _, _, _, _, _⟩ :: _) _ _); refine wpList_alloc _ rfl 42 rfl ppZ ppZero ?_; intro w5 a1 a2 a3; have HV5 := Lib.hid a1; have HX5 := Lib.hid a2; clear a1 a2 a3)
    | ((with_reducible show wpList _ _ _ (⟨none, _, _, _, _, _⟩ :: _) _ _); refine wpList_storev _ rfl 42 (.tmp 16) (.tmp 222) rfl 5 (by kernel_rfl) wx.heap.size 0 _ ppZ (ppC q A1 n1 c1 A2' n2 c2') rfl rfl HV5.out rfl (one_pp _ _ _ _ _ _ _) (by decide) ?_; intro w6 a1 a2 a3; have HV6 : Hid (BL w6 wx.heap.size 42 (ppC q A1 n1 c1 A2' n2 c2')) := Lib.hid a1; have HX6 : Hid (Below wx.heap.size wx w6) := Lib.hid (low_kp HX5.out a2 (fun i hi e => by omega)); clear a1 a2 a3)
    | ((with_reducible show wpList _ _ _ (⟨some 224, _, _, _, _, _⟩ :: _) _ _); refine wpList_loadv _ rfl 42 (.tmp 16) rfl 5 (by kernel_rfl) wx.heap.size 0 (ppC q A1 n1 c1 A2' n2 c2') rfl (BL.all HV6.out) rfl ?_)
    | (go_at_call 29; refine (encr_t _ q w6 (stay_pp _ _ _ _ HR.out HX6.out) HQV.out).mono ?_; rintro e w7 ⟨A7, n7, c7, rfl, x1, x2, x3⟩; have HS7 := Lib.hid x1; have HY7 := Lib.hid x2; have HX7 := Lib.hid (below_then HX6.out x3); have HV7 := Lib.hid (HV6.out.kept x3); clear x1 x2 x3))
   refine Text.wp_region_text (fun w' => BL w' wx.heap.size 42 (ppC q A1 n1 c1 A2' n2 c2')) [(0, 4), (1, 4), (3, 4), (4, 4), (6, 4), (7, 4), (10, 4), (2, 0), (5, 2), (8, 2), (9, 2), (11, 3)] (by kernel_rfl) (by kernel_rfl) (fun _ _ _ _ _ h => h) (HV7.out.drew) ?_
   iterate 7 (refine Text.purek rfl rfl (fun K hK => ⟨_, fun w' => by go_simp <;> rfl, ?_⟩); go_simp; refine hK _ ?_; clear hK K)
   refine Text.heldk rfl rfl (fun K hK => ?_)
   refine ⟨_, fun w' hw' => exec_loadv 42 (.tmp 16) rfl 5 (by kernel_rfl) wx.heap.size 0 _ rfl (BL.all hw') rfl, ?_⟩
   go_simp
   refine hK _ ?_
   clear hK K
   refine Text.eff rfl rfl (fun K hK => ?_)
   go_simp
   refine (needed_any w0 g X y u _ (ht.out.kept HX7.out).drew hu).mono ?_
   rintro e w8 ⟨A8, c8, rfl, x1, x2⟩
   have HX8 : Hid (Below wx.heap.size wx w8) := Lib.hid (below_thenB HX7.out.drew HX7.out.size x2)
   have HF8 : Hid (Below w7.heap.size w7 w8) := Lib.hid (below_then (Below.refl _ _).drew x2)
   have HN8 := Lib.hid x1
   refine hK _ _ (HV7.out.kept HF8.out) ?_
   clear hK K x1 x2
   refine Text.eff rfl rfl (fun K hK => ?_)
   go_simp
   refine (known_any w0 g X y u _ (ht.out.kept HX8.out) hu).mono ?_
   rintro e w9 ⟨A9, c9, rfl, x1, _, x2⟩
   have HX9 : Hid (Below wx.heap.size wx w9) := Lib.hid (below_then HX8.out x2)
   have HF9 : Hid (Below w7.heap.size w7 w9) := Lib.hid (below_then HF8.out x2)
   have HN9 := Lib.hid (HN8.out.kept stay_str x2)
   have HK9 := Lib.hid x1
   refine hK _ _ (HV7.out.kept HF9.out) ?_
   clear hK K x1 x2
   refine Text.eff rfl rfl (fun K hK => ?_)
   go_simp
   refine (reply_kind _ q A8 _ c8 (X.needed u) A9 _ c9 (X.known u) _ (stay_pp _ _ _ _ HR.out HX9.out) HN9.out HK9.out).mono ?_
   rintro e w10 ⟨rfl, x2⟩
   have HX10 : Hid (Below wx.heap.size wx w10) := Lib.hid (below_then HX9.out x2)
   have HF10 : Hid (Below w7.heap.size w7 w10) := Lib.hid (below_then HF9.out x2)
   refine hK _ _ (HV7.out.kept HF10.out) ?_
   clear hK K x2
   refine Text.last rfl rfl (fun K hK => ?_)
   go_simp
   have HKW : Hid (wfI (replyK q (X.needed u) (X.known u))) := Lib.hid (by rcases replyK_45 q (X.needed u) (X.known u) with h | h <;> rw [h] <;> rfl)
   refine (log_any w0 g X y u (replyK q (X.needed u) (X.known u)) A7 n7 c7 (rbL q) w10 (ht.out.kept HX10.out) HXI.out HXL.out hu HKW.out (HS7.out.kept HF10.out) (fun a e => by obtain ⟨l, hl⟩ := HY7.out a e; exact ⟨l, hl.kept HF10.out⟩)).mono ?_
   rintro e w11 ⟨rfl, ⟨y', x1⟩, x2⟩
   have HT11 := Lib.hid x1
   have HLT : Hid (LT rPpV 5 72 42 w11 (some ⟨g', o', none⟩) n3 c3 P) := Lib.hid ((hp.out.kept stay_ppv HX10.out).kp x2 (fun a e => by
     obtain ⟨l, hl⟩ := (hp.out.kept stay_ppv HX10.out).2 a e
     exact (ht.out.kept HX10.out).noS hu hl (by decide) (by decide)) (fun cs x hx => ⟨hx.1.kp x2 (fun i t l hl h9 => (ht.out.kept HX10.out).noS hu hl (by rcases h9 with rfl | rfl <;> decide) (by rcases h9 with rfl | rfl <;> decide)), hx.2⟩))
   refine hK _ _ ?_
   clear hK K x1 x2
   refine Text.done ?_
   go_wp2_with fail
   go_roundw
   case rel => exact ⟨k + 1, y', by omega, by go_num, by rw [HNX.out]; exact HT11, HLT⟩
   case measure => simp [intOf]; omega
  ·
   obtain rfl : k = n3 := by omega
   go_wp2_with fail
   go_ret
   refine ⟨rfl, y, ?_⟩
   unfold Tn.replyAll
   rw [← HP.out]
   have h9 := ht.out
   rwa [take_end HN3.out] at h9
end Go.Proofs.YtfonbliomokffaaGreat
