/- Encoders once more, with the type of the block that holds the bytes (printed by bin/mk47g.py). -/
import Derived.Test.YtfonbliomokffaaGreatC11
namespace Go.Proofs.YtfonbliomokffaaGreat
open Go Go.RowKit Gf Sha

section
set_option maxRecDepth 100000
set_option maxHeartbeats 4000000
theorem wdone_t (w : World) (g : Nat) (l : List UInt8) (h : WrOk w g l) (hl : l.length ≤ 1048576) :
  Calls Tryz.prog 62 #[.pointer (some ⟨g, 0, none⟩)] w fun e w' => ∃ A n c, e = .returned (.tuple #[.slice A n c, .int .i64 0]) ∧ BS w' A n c l ∧ (∀ a, A = some a → ∃ l, BL w' a.block 5 l) ∧ Below w.heap.size w w' := by
 obtain ⟨v, m, h1, h2, h3, _⟩ := h
 have hm : m ≤ 1048576 := by omega
 obtain ⟨A, c, rfl, hbs⟩ := BS.of_own h2 (by unfold lim; omega)
 have HBS := Lib.hid hbs
 have q0 := h1.get (j := 0) rfl
 have q1 := h1.get (j := 1) rfl
 have f1 : decide ((1048576 : Int) < (m : Int)) = false := decide_eq_false (by omega)
 clear h1 h2 h3 hbs hl
 go_enter Tryz.func62, Tryz.ntmps62
 go_wp2_with (first
  | ((with_reducible show wpList _ _ _ (⟨some 19, _, _, _, _, _⟩ :: _) _ _); refine wpList_bslice _ rfl 31 5 0 _ rfl #[] (by rw [List.map_toArray]; rfl) [] (bsl0 _) ?_; intro w1 y1 y2 y3; have HG1 := Lib.hid y1; have HB1 := Lib.hid y2; have q0 := cell_kept y2 q0; clear y1 y2 y3)
  | ((with_reducible show wpList _ _ _ (⟨some 24, _, _, _, _, _⟩ :: _) _ _); refine wpList_appB _ rfl (.tmp 19) (.tmp 23) rfl w.heap.size _ 0 [] rfl (BL.own HG1.out (Nat.le_refl _) rfl (by decide)) A m c l rfl (HBS.out.kept HB1.out) (by omega) HB1.out.size ?_; intro v2 w2 hp; have HP := Lib.hid hp; clear hp))
 have hown := HP.out.own
 rw [Nat.zero_add, List.nil_append] at hown
 obtain ⟨A2, c2, rfl, hb2⟩ := BS.of_own hown (by unfold lim; omega)
 have HB2 := Lib.hid hb2
 have HTY := Lib.hid (fun a (ha : A2 = some a) => (RW.of_own hown).1.tyb ha)
 go_ret2
 exact ⟨A2, m, c2, rfl, HB2.out, HTY.out, HP.out.below (BL.own HG1.out (Nat.le_refl _) rfl (by decide)) HB1.out (Nat.le_refl _) HB1.out.size⟩
theorem encp_t (cs : List Value) (p : Pp) (w : World) (h : rPp w cs p) (hv : validB p = true) :
  Calls Tryz.prog 27 #[.agg cs.toArray] w fun e w' => ∃ A n c, e = .returned (.tuple #[.slice A n c, .int .i64 0]) ∧ BS w' A n c (bodyL p) ∧ (∀ a, A = some a → ∃ l, BL w' a.block 5 l) ∧ Below w.heap.size w w' := by
 have H := Lib.hid h
 have HV := Lib.hid (valid_p hv)
 obtain ⟨A1, n1, c1, A2, n2, c2, rfl, hl1, hl2, _⟩ := h
 have H1 := Lib.hid hl1
 have H2 := Lib.hid hl2
 have HL1 := Lib.hid hl1.1
 have HL2 := Lib.hid hl2.1
 have HN1 : Hid (n1 ≤ 3) := Lib.hid (by have := HV.out.w3; rw [hl1.1] at this; exact this)
 have HN2 : Hid (n2 ≤ 1024) := Lib.hid (by have := HV.out.s2; rw [hl2.1] at this; exact this)
 have HVH := Lib.hid hv
 obtain ⟨V, hV⟩ : ∃ V, V = p.vault.toNat := ⟨_, rfl⟩
 have HVV : Hid (p.vault = (V : Int)) := Lib.hid (by have := HV.out.v0; omega)
 have HVB : Hid (V ≤ 11) := Lib.hid (by have := HV.out.v1; omega)
 have HVE := Lib.hid hV
 have fv : IntKind.u64.wrap p.vault = (V : Int) := wrapN HVV.out (by have := HVB.out; omega)
 have HU1 := Lib.hid (uv_length V).2
 have HU2 := Lib.hid (uv_length n1).2
 have hn1 := HN1.out
 have hn2 := HN2.out
 clear hl1 hl2 hV
 go_enter Tryz.func27, Tryz.ntmps27
 go_wp2_with (first
  | ((with_reducible show wpList _ _ _ (⟨some 1, _, _, _, _, _⟩ :: _) _ _); refine wpList_box _ rfl 42 (.tmp 0) rfl (ppC p A1 n1 c1 A2 n2 c2) rfl ?_; intro w1 y1 y2 y3; have HB1 := Lib.hid y2; have HP1 := Lib.hid y1; clear y1 y2 y3)
  | ((with_reducible show wpList _ _ _ (⟨some 9, _, _, _, _, _⟩ :: _) _ _); refine wpList_loadv _ rfl 42 (.tmp 1) rfl 5 (by kernel_rfl) w.heap.size 0 _ rfl (BL.all HP1.out) rfl ?_)
  | (go_at_call 57; refine (valid_any _ p w1 (stay_pp _ _ _ _ H.out HB1.out)).mono ?_; rintro e w2 ⟨rfl, b2⟩; rw [hv]; have HB2 := Lib.hid (below_then HB1.out b2); have HP2 := Lib.hid (HP1.out.kept b2); clear b2)
  | (go_at_call 58; refine (newWriter_any w2).mono ?_; rintro e w3 ⟨rfl, b1, b2⟩; have HW3 := Lib.hid b1; have HB3 := Lib.hid (below_then HB2.out b2); have HP3 := Lib.hid (HP2.out.kept b2); have q2 := (HP2.out.kept b2).get (j := 2) rfl; clear b1 b2)
  | (go_at_call 59; refine (wuint_any w3 w2.heap.size V [] HW3.out (by decide) (by have := HVB.out; omega)).mono ?_; rintro e w4 ⟨rfl, b1, b2⟩; rw [List.nil_append] at b1; have HW4 := Lib.hid b1; have HB4 : Hid (Below w.heap.size w w4) := Lib.hid (HB3.out.trans (b2.mono HB2.out.size)); have HP4 := Lib.hid (HP3.out.belowB HP2.out.lt b2); have q3 := (HP3.out.belowB HP2.out.lt b2).get (j := 3) rfl; clear b1 b2)
  | (go_at_call 60; refine (wcount_any w4 w2.heap.size n1 _ HW4.out (by have := HU1.out; omega) (by have := HN1.out; omega)).mono ?_; rintro e w5 ⟨rfl, b1, b2⟩; have HW5 := Lib.hid b1; have HB5 : Hid (Below w.heap.size w w5) := Lib.hid (HB4.out.trans (b2.mono HB2.out.size)); have HP5 := Lib.hid (HP4.out.belowB HP2.out.lt b2); have q4 := (HP4.out.belowB HP2.out.lt b2).get (j := 3) rfl; clear b1 b2))
 clear q2 q3 q4
 go_loopw [26] (fun iv wr => ∃ k : Nat, k ≤ n1 ∧ iv = .int .i64 (k : Int) ∧ Hid (WrOk wr w2.heap.size (bl1 p k)) ∧ Hid (BL wr w.heap.size 42 (ppC p A1 n1 c1 A2 n2 c2)) ∧ Hid (Below w.heap.size w wr)) (fun iv _ => n1 - (intOf iv).toNat)
 case atStart => exact ⟨0, by omega, rfl, Lib.hid (by
  have h9 := HW5.out
  have e9 : uv V ++ uv n1 = bl1 p 0 := by rw [bl1, HL1.out, HVE.out]; simp [uvs]
  rwa [e9] at h9), HP5, HB5⟩
 case round =>
  obtain ⟨k, hk, rfl, hw, hp, hb⟩ := hrel
  obtain ⟨wx, hwx⟩ : ∃ x, x = wr := ⟨_, rfl⟩
  rw [← hwx] at hw hp hb ⊢
  clear hwx
  by_cases hlt : k < n1
  ·
   obtain ⟨x, g, o, hx, rfl, q5⟩ := H1.out.int_at hb.out hlt
   obtain ⟨X, hX⟩ : ∃ X, X = x.toNat := ⟨_, rfl⟩
   have hx12 := HV.out.ws x (mem_of hx)
   have fx : IntKind.u64.wrap x = (X : Int) := wrapN (by omega) (by omega)
   have HXB : Hid (X < 12) := Lib.hid (by omega)
   have HST : Hid (bl1 p k ++ uv X = bl1 p (k + 1)) := Lib.hid (by rw [hX]; exact bl1_step hx)
   clear hx hX hx12
   go_wp2_with (first
    | (go_at_call 59; refine (wuint_any wx w2.heap.size X _ hw.out (by have := bl1_len p k; have := HL1.out; have := HN1.out; omega) (by have := HXB.out; omega)).mono ?_; rintro e w6 ⟨rfl, b1, b2⟩; rw [HST.out] at b1; have HW6 := Lib.hid b1; have HB6 : Hid (Below w.heap.size w w6) := Lib.hid (hb.out.trans (b2.mono HB2.out.size)); have HP6 := Lib.hid (hp.out.belowB HP2.out.lt b2); clear b1 b2))
   go_roundw
   case rel => exact ⟨k + 1, by omega, by go_num, HW6, HP6, HB6⟩
   case measure => simp [intOf]; omega
  ·
   obtain rfl : k = n1 := by omega
   have q4 := hp.out.get (j := 4) rfl
   have HWX : Hid (WrOk wx w2.heap.size (bl1 p p.ws.length)) := Lib.hid (by have h9 := hw.out; rwa [← HL1.out] at h9)
   go_wp2_with (first
    | (go_at_call 60; refine (wcount_any wx w2.heap.size n2 _ HWX.out (by have := bl1_len p p.ws.length; have := HL1.out; have := HN1.out; omega) (by have := HN2.out; omega)).mono ?_; rintro e w6 ⟨rfl, b1, b2⟩; have HW6 := Lib.hid b1; have HB6 : Hid (Below w.heap.size w w6) := Lib.hid (hb.out.trans (b2.mono HB2.out.size)); have q5 := (hp.out.belowB HP2.out.lt b2).get (j := 4) rfl; clear b1 b2))
   clear q4 q5
   go_loopw [43] (fun iv wr => ∃ k : Nat, k ≤ n2 ∧ iv = .int .i64 (k : Int) ∧ Hid (WrOk wr w2.heap.size (bl2 p k)) ∧ Hid (Below w.heap.size w wr)) (fun iv _ => n2 - (intOf iv).toNat)
   case atStart => exact ⟨0, by omega, rfl, Lib.hid (by
    have h9 := HW6.out
    have e9 : bl1 p p.ws.length ++ uv n2 = bl2 p 0 := by rw [bl2, HL2.out]; simp
    rwa [e9] at h9), HB6⟩
   case round =>
    obtain ⟨i, hi, rfl, hw', hb'⟩ := hrel
    obtain ⟨wy, hwy⟩ : ∃ x, x = wr := ⟨_, rfl⟩
    rw [← hwy] at hw' hb' ⊢
    clear hwy
    by_cases hlt : i < n2
    ·
     obtain ⟨x, g, o, hx, rfl, q5⟩ := H2.out.str_at hb'.out hlt
     have HX32 := Lib.hid (HV.out.ss x (mem_of hx))
     have HST : Hid (bl2 p i ++ x = bl2 p (i + 1)) := Lib.hid (bl2_step hx)
     clear hx
     go_wp2_with (first
      | (go_at_call 61; refine (wsum_any wy w2.heap.size _ x hw'.out (by have := bl2_len HVH.out i; omega) HX32.out).mono ?_; rintro e w7 ⟨rfl, b1, b2⟩; rw [HST.out] at b1; have HW7 := Lib.hid b1; have HB7 : Hid (Below w.heap.size w w7) := Lib.hid (hb'.out.trans (b2.mono HB2.out.size)); clear b1 b2))
     go_roundw
     case rel => exact ⟨i + 1, by omega, by go_num, HW7, HB7⟩
     case measure => simp [intOf]; omega
    ·
     obtain rfl : i = n2 := by omega
     have HWX : Hid (WrOk wy w2.heap.size (bodyL p)) := Lib.hid (by have h9 := hw'.out; rwa [← HL2.out] at h9)
     go_wp2_with (first
      | (go_at_call 62; refine (wdone_t wy w2.heap.size _ HWX.out (by have := bl2_len HVH.out p.ss.length; unfold bodyL; omega)).mono ?_; rintro e w7 ⟨A, n, c, rfl, b1, b3, b2⟩; have HS7 := Lib.hid b1; have HTY := Lib.hid b3; have HB7 : Hid (Below w.heap.size w w7) := Lib.hid (below_thenB hb'.out hb'.out.size b2); clear b1 b2))
     go_ret2
     exact ⟨A, n, c, rfl, HS7.out, HTY.out, HB7.out⟩
theorem replyBody_t (cs : List Value) (p : Pp) (w : World) (h : rPp w cs p) (hd : 0 ≤ p.dev) (hs : 0 ≤ p.seq) :
  Calls Tryz.prog 63 #[.agg cs.toArray] w fun e w' => ∃ A n c, e = .returned (.slice A n c) ∧ BS w' A n c (rbL p) ∧ (∀ a, A = some a → ∃ l, BL w' a.block 5 l) ∧ Below w.heap.size w w' := by
 obtain ⟨A1, n1, c1, A2, n2, c2, rfl, hl1, hl2, hwd, hws, _⟩ := h
 clear hl1 hl2
 obtain ⟨D, hD⟩ : ∃ D, D = p.dev.toNat := ⟨_, rfl⟩
 obtain ⟨S, hS⟩ : ∃ D, D = p.seq.toNat := ⟨_, rfl⟩
 have fd : IntKind.u64.wrap p.dev = (D : Int) := wrapN (by omega) (by have := wfI_lt hwd; omega)
 have fs : IntKind.u64.wrap p.seq = (S : Int) := wrapN (by omega) (by have := wfI_lt hws; omega)
 have HD : Hid (D < 9223372036854775808) := Lib.hid (by have := wfI_lt hwd; omega)
 have HS : Hid (S < 9223372036854775808) := Lib.hid (by have := wfI_lt hws; omega)
 have HE : Hid (rbL p = uv D ++ uv S) := Lib.hid (by rw [rbL, hD, hS])
 clear hD hS hwd hws hd hs
 go_enter Tryz.func63, Tryz.ntmps63
 go_wp2_with (first
  | ((with_reducible show wpList _ _ _ (⟨some 1, _, _, _, _, _⟩ :: _) _ _); refine wpList_box _ rfl 42 (.tmp 0) rfl (ppC p A1 n1 c1 A2 n2 c2) rfl ?_; intro w1 y1 y2 y3; have HB1 := Lib.hid y2; have HP1 := Lib.hid y1; clear y1 y2 y3))
 refine Text.wp_region_text (fun w' => w'.cell? ⟨w.heap.size, 0, none⟩ = some (.int .i64 p.dev) ∧ w'.cell? ⟨w.heap.size, 1, none⟩ = some (.int .i64 p.seq)) [(0, 4), (4, 4), (1, 0), (2, 4), (5, 0), (6, 4), (3, 2), (7, 2), (8, 4)] (by kernel_rfl) (by kernel_rfl) (fun _ _ _ _ _ h => h) (⟨HP1.out.get (j := 0) rfl, HP1.out.get (j := 1) rfl⟩) ?_
 iterate 2 (refine Text.purek rfl rfl (fun K hK => ⟨_, fun w' => by go_simp <;> rfl, ?_⟩); go_simp; refine hK _ ?_; clear hK K)
 (refine Text.heldk rfl rfl (fun K hK => ⟨_, fun w' hw' => by go_simp <;> rfl, ?_⟩); go_simp; refine hK _ ?_; clear hK K)
 (refine Text.purek rfl rfl (fun K hK => ⟨_, fun w' => by go_simp <;> rfl, ?_⟩); go_simp; refine hK _ ?_; clear hK K)
 (refine Text.heldk rfl rfl (fun K hK => ⟨_, fun w' hw' => by go_simp <;> rfl, ?_⟩); go_simp; refine hK _ ?_; clear hK K)
 (refine Text.purek rfl rfl (fun K hK => ⟨_, fun w' => by go_simp <;> rfl, ?_⟩); go_simp; refine hK _ ?_; clear hK K)
 refine Text.eff rfl rfl (fun K hK => ?_)
 go_simp
 refine (appu_any none 0 0 D [] w1.drew BS.nil (by decide) HD.out).mono ?_
 rintro e w2 ⟨v, g, n, c, rfl, rfl, h1, h2, h3, h4⟩
 have HP2 := Lib.hid (HP1.out.drew.kept h3)
 have HB2 : Hid (Below w.heap.size w w2) := Lib.hid (below_thenB HB1.out.drew HB1.out.size h3)
 obtain ⟨A9, c9, e9, hbs⟩ := BS.of_own h2 (by rw [List.nil_append] at h1; have := (uv_length D).2; unfold lim; omega)
 cases e9
 rw [List.nil_append] at hbs h1
 have HBS := Lib.hid hbs
 have HN : Hid (n ≤ 11) := Lib.hid (by have := (uv_length D).2; omega)
 refine hK _ _ ⟨HP2.out.get (j := 0) rfl, HP2.out.get (j := 1) rfl⟩ ?_
 clear hK K h1 h2 h3 h4 hbs
 refine Text.eff rfl rfl (fun K hK => ?_)
 go_simp
 refine (appu_any _ n c S _ w2 HBS.out (by have := HN.out; omega) HS.out).mono ?_
 rintro e w3 ⟨v, g3, n3, c3, rfl, rfl, h1, h2, h3, h4⟩
 obtain ⟨A9, c9, e9, hbs⟩ := BS.of_own h2 (by rw [← h1, List.length_append]; have := (uv_length D).2; have := (uv_length S).2; unfold lim; omega)
 cases e9
 have HBS3 := Lib.hid hbs
 have HTY := Lib.hid (fun a ha => (RW.of_own h2).1.tyb (a := a) ha)
 have HB3 : Hid (Below w.heap.size w w3) := Lib.hid (below_thenB HB2.out HB2.out.size h3)
 refine hK _ _ ⟨(HP2.out.kept h3).get (j := 0) rfl, (HP2.out.kept h3).get (j := 1) rfl⟩ ?_
 clear hK K h1 h2 h3 h4 hbs
 (refine Text.purek rfl rfl (fun K hK => ⟨_, fun w' => by go_simp <;> rfl, ?_⟩); go_simp; refine hK _ ?_; clear hK K)
 refine Text.done ?_
 go_wp2_with fail
 go_ret
 exact ⟨_, _, _, rfl, by rw [HE.out]; exact HBS3.out, HTY.out, HB3.out⟩
theorem encr_t (cs : List Value) (p : Pp) (w : World) (h : rPp w cs p) (hv : validB p = true) :
  Calls Tryz.prog 29 #[.agg cs.toArray] w fun e w' => ∃ A n c, e = .returned (.tuple #[.slice A n c, .int .i64 0]) ∧ BS w' A n c (rbL p) ∧ (∀ a, A = some a → ∃ l, BL w' a.block 5 l) ∧ Below w.heap.size w w' := by
 have H := Lib.hid h
 have HVD := Lib.hid (valid_dev hv)
 obtain ⟨A1, n1, c1, A2, n2, c2, rfl, _⟩ := h
 go_enter Tryz.func29, Tryz.ntmps29
 go_wp2_with (first
  | ((with_reducible show wpList _ _ _ (⟨some 1, _, _, _, _, _⟩ :: _) _ _); refine wpList_box _ rfl 42 (.tmp 0) rfl (ppC p A1 n1 c1 A2 n2 c2) rfl ?_; intro w1 y1 y2 y3; have HB1 := Lib.hid y2; have HP1 := Lib.hid y1; clear y1 y2 y3)
  | ((with_reducible show wpList _ _ _ (⟨some 4, _, _, _, _, _⟩ :: _) _ _); refine wpList_loadv _ rfl 42 (.tmp 1) rfl 5 (by kernel_rfl) w.heap.size 0 _ rfl (BL.all HP1.out) rfl ?_)
  | (go_at_call 57; refine (valid_any _ p w1 (stay_pp _ _ _ _ H.out HB1.out)).mono ?_; rintro e w2 ⟨rfl, b2⟩; rw [hv]; have HB2 := Lib.hid (below_then HB1.out b2); have HP2 := Lib.hid (HP1.out.kept b2); clear b2)
  | ((with_reducible show wpList _ _ _ (⟨some 7, _, _, _, _, _⟩ :: _) _ _); refine wpList_loadv _ rfl 42 (.tmp 1) rfl 5 (by kernel_rfl) w.heap.size 0 _ rfl (BL.all HP2.out) rfl ?_)
  | (go_at_call 63; refine (replyBody_t _ p w2 (stay_pp _ _ _ _ H.out HB2.out) HVD.out.1 (by have := HVD.out.2.2; omega)).mono ?_; rintro e w3 ⟨A, n, c, rfl, b1, b3, b2⟩; have HS3 := Lib.hid b1; have HTY := Lib.hid b3; have HB3 := Lib.hid (below_thenB HB2.out HB2.out.size b2); clear b1 b2 b3))
 go_ret2
 exact ⟨A, n, c, rfl, HS3.out, HTY.out, HB3.out⟩
end
end Go.Proofs.YtfonbliomokffaaGreat
