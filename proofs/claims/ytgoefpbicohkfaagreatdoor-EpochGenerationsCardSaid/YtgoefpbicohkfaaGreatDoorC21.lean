/- Several texts in one: El, Em. -/
import Derived.Test.YtgoefpbicohkfaaGreatDoorC20
import Derived.DeepKeys4
/- epoch.DecodeProposal. -/
namespace Go.Proofs.YtgoefpbicohkfaaGreatDoor
open Go Go.RowKit Gf Sha

/-- A proposal in memory whose lists do not lie in proposals. -/
def PpT (w : World) (cs : List Value) : Prop := ∀ (A : Option Addr) (n c : Nat), Value.slice A n c ∈ cs → ∀ a, A = some a → ∃ t l, BL w a.block t l ∧ (t = 3 ∨ t = 9)
def rPpT : Rdg Pp := fun w cs p => rPp w cs p ∧ PpT w cs
theorem PpT.kept {w w' : World} {cs : List Value} (h : PpT w cs) (hb : Below w.heap.size w w') : PpT w' cs := fun A n c hm a e => let ⟨t, l, hl, ht⟩ := h A n c hm a e; ⟨t, l, hl.kept hb, ht⟩
theorem stay_ppt : Stay rPpT := fun _ _ _ _ ⟨h, ht⟩ hb => ⟨stay_pp _ _ _ _ h hb, ht.kept hb⟩
theorem rPpT.kp {w w' : World} {cs : List Value} {p : Pp} (h : rPpT w cs p) {S : Nat → Prop} (hk : Kp S w w') (hS : ∀ i t l, BL w i t l → (t = 3 ∨ t = 9) → ¬ S i) : rPpT w' cs p := by
  obtain ⟨⟨A1, n1, c1, A2, n2, c2, rfl, h1, h2, h3⟩, ht⟩ := h
  refine ⟨⟨A1, n1, c1, A2, n2, c2, rfl, h1.kpn (fun _ _ h => h) hk (fun a e => ?_), h2.kpn (fun _ _ h => h) hk (fun a e => ?_), h3⟩, fun A n c hm a e => ?_⟩
  · obtain ⟨t, l, hl, hx⟩ := ht A1 n1 c1 (by simp) a e
    exact hS _ t l hl hx
  · obtain ⟨t, l, hl, hx⟩ := ht A2 n2 c2 (by simp) a e
    exact hS _ t l hl hx
  · obtain ⟨t, l, hl, hx⟩ := ht A n c hm a e
    exact ⟨t, l, hk.bl hl (hS _ t l hl hx), hx⟩
theorem OL.ty {α : Type} {R : Rdg α} {te : TypeId} {w0 w : World} {v : Value} {L : List α} (h : OL R 1 te w0 w v L) {A : Option Addr} {n c : Nat} (e : v = .slice A n c) {a : Addr} (ha : A = some a) : ∃ l, BL w a.block te l := by
  obtain ⟨_, hr⟩ := h.row
  subst e
  exact hr.tyb ha
/-- What DecodeProposal hands back. -/
def DecPR (x : En) (w : World) (e : Ending) (w' : World) : Prop :=
  (∀ p, decM x = some p → ∃ cs, e = .returned (.tuple #[.agg cs.toArray, .int .i64 0]) ∧ rPpT w' cs p) ∧ (decM x = none → e = .returned (.tuple #[.agg ppZ.toArray, .int .i64 (if x.kind = 3 then 3 else 1)])) ∧ Below w.heap.size w w'
theorem bldPp (w : World) : (Instr.build 34 #[]).run Tryz.prog w = .ok (.agg ppZ.toArray) w := by kernel_rfl
theorem one_ppz : ∀ v ∈ ppZ, v.oneCell' = true := one_val _ rfl
theorem splice_pp (l vs : List Value) (h : vs.length = l.length) : splice l 0 vs = vs := by
  rw [splice, h, Nat.zero_add, List.drop_length, List.take_zero, List.nil_append, List.append_nil]
theorem wf_small {z : Int} (h : 0 ≤ z) (h1 : z < 1000000) : (Lit.int .i64 z).wf = true := by
  have hmin : IntKind.i64.min = -9223372036854775808 := rfl
  have hmax : IntKind.i64.max = 9223372036854775807 := rfl
  simp only [Lit.wf, Bool.and_eq_true, decide_eq_true_eq]
  omega
section
set_option maxRecDepth 100000
set_option maxHeartbeats 8000000
theorem decp_kind (cs : List Value) (x : En) (w : World) (h : rEn w cs x) (hk : ¬ x.kind = 3) :
    Calls Tryz.prog 48 #[.agg cs.toArray] w (DecPR x w) := by
  obtain ⟨A, n, c, rfl, _⟩ := h
  have f0 : (x.kind != 3) = true := by rw [bne_iff_ne]; exact hk
  have HK := Lib.hid hk
  clear hk
  go_enter Tryz.func48, Tryz.ntmps48
  go_wp2_with (first
    | ((with_reducible show wpList _ _ _ (⟨some 1, _, _, _, _, _⟩ :: _) _ _); refine wpList_box _ rfl 38 (.tmp 0) rfl (enC x A n c) rfl ?_; intro w1 y1 y2 y3; have HB1 := Lib.hid y2; have HX1 := Lib.hid y1; clear y1 y2 y3)
    | ((with_reducible show wpList _ _ _ (⟨some 2, _, _, _, _, _⟩ :: _) _ _); refine wpList_alloc _ rfl 34 rfl ppZ ppZero ?_; intro w2 y1 y2 y3; have HP2 := Lib.hid y1; have HB2 := Lib.hid (below_then HB1.out y2); have q2 := (HX1.out.kept y2).get (j := 2) rfl; clear y1 y2 y3)
    | ((with_reducible show wpList _ _ _ (⟨some 10, _, _, _, _, _⟩ :: _) _ _); refine wpList_build _ rfl 34 _ rfl #[] (by rfl) _ (bldPp _) ?_)
    | ((with_reducible show wpList _ _ _ (⟨none, _, _, _, _, _⟩ :: _) _ _); refine wpList_storev _ rfl 34 (.tmp 2) (.tmp 10) rfl 5 (by kernel_rfl) w1.heap.size 0 _ _ ppZ rfl rfl HP2.out rfl one_ppz (by decide) ?_; intro w3 y1 y2 y3; rw [splice_pp _ _ rfl] at y1; have HP3 := Lib.hid y1; have HB3 : Hid (Below w.heap.size w w3) := Lib.hid (low_kp HB2.out y2 (fun i hi e => by have := HB1.out.size; omega)); clear y1 y2 y3))
  refine bodyPost_ret (results_at2 _ Tryz.results48 (by kernel_rfl) rfl (BL.all HP3.out) rfl) rfl ?_
  refine ⟨fun p e => ?_, fun _ => ?_, HB3.out⟩
  · rw [decM, if_neg HK.out] at e; cases e
  · rw [if_neg HK.out]; rfl
theorem decp_walk (cs : List Value) (x : En) (w : World) (h : rEn w cs x) (hk : x.kind = 3) :
    Calls Tryz.prog 48 #[.agg cs.toArray] w (DecPR x w) := by
  obtain ⟨A, n, c, rfl, hbs, hw1, hw2, _⟩ := h
  have HBS := Lib.hid hbs
  have HW1 := Lib.hid hw1
  have HW2 := Lib.hid hw2
  have f0 : (x.kind != 3) = false := by rw [hk]; rfl
  have HK := Lib.hid hk
  clear hk hbs hw1 hw2
  go_enter Tryz.func48, Tryz.ntmps48
  go_wp2_with (first
    | ((with_reducible show wpList _ _ _ (⟨some 1, _, _, _, _, _⟩ :: _) _ _); refine wpList_box _ rfl 38 (.tmp 0) rfl (enC x A n c) rfl ?_; intro w1 y1 y2 y3; have HB1 := Lib.hid y2; have HX1 := Lib.hid y1; clear y1 y2 y3)
    | ((with_reducible show wpList _ _ _ (⟨some 2, _, _, _, _, _⟩ :: _) _ _); refine wpList_alloc _ rfl 34 rfl ppZ ppZero ?_; intro w2 y1 y2 y3; have HP2 := Lib.hid y1; have HX2 := Lib.hid (HX1.out.kept y2); have HB2 := Lib.hid (below_then HB1.out y2); have q2 := (HX1.out.kept y2).get (j := 2) rfl; have q4 := (HX1.out.kept y2).get (j := 4) rfl; clear y1 y2 y3)
    | (go_at_call 69; refine (newReader_any w2 A n c x.body (HBS.out.kept HB2.out)).mono ?_; rintro e w3 ⟨g, A2, c2, rfl, g1, g2, g3, b3⟩; have HG := Lib.hid g1; have HR3 := Lib.hid g2; have HT3 := Lib.hid g3; have HP3 := Lib.hid (HP2.out.kept b3); have HX3 := Lib.hid (HX2.out.kept b3); have HB3 := Lib.hid (below_then HB2.out b3); clear b3 g1 g2 g3))
  obtain ⟨gp, hgp⟩ : ∃ g, g = w1.heap.size := ⟨_, rfl⟩
  rw [← hgp] at HP3 ⊢
  have HD3 : Hid (DF w w3 g A2 n c2 x.body ⟨0, 0, 0⟩ gp 0 0 0 (.slice none 0 0) (.slice none 0 0) (.slice none 0 0) (.slice none 0 0) [] []) := Lib.hid
    ⟨HR3.out, HT3.out, HP3.out, OL.nil _ _ _ _ _, OL.nil _ _ _ _ _, HB3.out, by have := HB2.out.size; have := HG.out; omega, by have := HB1.out.size; omega⟩
  have HGP : Hid (¬ w.heap.size = gp) := Lib.hid (by have := HX1.out.lt; omega)
  clear q2 q4 hgp
  refine Text.wp_region_text (fun w' => w'.cell? ⟨w.heap.size, 0, none⟩ = some (.int .i64 x.dev) ∧ w'.cell? ⟨w.heap.size, 1, none⟩ = some (.int .i64 x.seq)) [(0, 4), (2, 4), (1, 0), (4, 4), (3, 0), (5, 2), (6, 4), (7, 3)] (by kernel_rfl) (by kernel_rfl) (fun _ _ _ _ _ h => h) (⟨HX3.out.get (j := 0) rfl, HX3.out.get (j := 1) rfl⟩) ?_
  iterate 2 (refine Text.purek rfl rfl (fun K hK => ⟨_, fun w' => by go_simp <;> rfl, ?_⟩); go_simp; refine hK _ ?_; clear hK K)
  (refine Text.heldk rfl rfl (fun K hK => ⟨_, fun w' hw' => by go_simp <;> rfl, ?_⟩); go_simp; refine hK _ ?_; clear hK K)
  (refine Text.purek rfl rfl (fun K hK => ⟨_, fun w' => by go_simp <;> rfl, ?_⟩); go_simp; refine hK _ ?_; clear hK K)
  (refine Text.heldk rfl rfl (fun K hK => ⟨_, fun w' hw' => by go_simp <;> rfl, ?_⟩); go_simp; refine hK _ ?_; clear hK K)
  refine Text.eff rfl rfl (fun K hK => ?_)
  refine wp_store1 _ 3 (.tmp 18) (.tmp 15) rfl (sz1 _ (by kernel_rfl) _) gp 0 _ _ (.int .i64 x.dev) rfl rfl HD3.out.bl.drew rfl rfl (by simp) ?_
  intro w4 y1 y2 y3
  have HD4 := Lib.hid ((HD3.out.kept (Below.refl _ _).drew).put (dev' := x.dev) (seq' := 0) (vt' := 0) (u1' := .slice none 0 0) (u2' := .slice none 0 0) y1 y2)
  have HX4 := Lib.hid (y2.bl HX3.out.drew HGP.out)
  clear y1 y2 y3
  refine hK _ _ ⟨HX4.out.get (j := 0) rfl, HX4.out.get (j := 1) rfl⟩ ?_
  clear hK K
  (refine Text.purek rfl rfl (fun K hK => ⟨_, fun w' => by go_simp <;> rfl, ?_⟩); go_simp; refine hK _ ?_; clear hK K)
  refine Text.last rfl rfl (fun K hK => ?_)
  refine wp_store1 _ 3 (.tmp 19) (.tmp 17) rfl (sz1 _ (by kernel_rfl) _) gp 1 _ _ (.int .i64 x.seq) rfl rfl HD4.out.bl rfl rfl (by simp) ?_
  intro w5 y1 y2 y3
  have HD5 := Lib.hid (HD4.out.put (dev' := x.dev) (seq' := x.seq) (vt' := 0) (u1' := .slice none 0 0) (u2' := .slice none 0 0) y1 y2)
  clear y1 y2 y3
  refine hK _ _ ?_
  clear hK K
  refine Text.done ?_
  go_wp2_with (first
    | (go_at_call 70; refine (readUint_any 11 (by decide) w5 g n c2 A2 x.body _ HD5.out.rd).mono ?_; rintro e w6 ⟨rfl, g2, b4⟩; rw [show (rU 11 x.body ⟨0, 0, 0⟩) = dV x.body from rfl] at g2 ⊢; have HD6 := Lib.hid (HD5.out.rdn g2 b4); clear b4 g2)
    | ((with_reducible show wpList _ _ _ (⟨none, _, _, _, _, _⟩ :: _) _ _); refine wpList_store1 _ rfl 3 (.tmp 22) (.tmp 21) rfl (sz1 _ (by kernel_rfl) _) gp 2 _ _ (.int .i64 (((dV x.body).1 : Nat) : Int)) rfl rfl HD6.out.bl rfl rfl (by simp) ?_; intro w7 y1 y2 y3; have HD7 := Lib.hid (HD6.out.put (dev' := x.dev) (seq' := x.seq) (vt' := (((dV x.body).1 : Nat) : Int)) (u1' := .slice none 0 0) (u2' := .slice none 0 0) y1 y2); clear y1 y2 y3)
    | (go_at_call 71; refine (rcount_any 3 (by decide) w7 g n c2 A2 x.body _ HD7.out.rd).mono ?_; rintro e w8 ⟨rfl, g2, b4⟩; rw [show (rdV 0 (cD 3) x.body (dV x.body).2) = dN x.body from rfl] at g2 ⊢; have HD8 := Lib.hid (HD7.out.rdn g2 b4); clear b4 g2))
  obtain ⟨N, hN⟩ : ∃ N, N = (dN x.body).1 := ⟨_, rfl⟩
  obtain ⟨s0, hs0⟩ : ∃ s, s = (dN x.body).2 := ⟨_, rfl⟩
  rw [← hN]
  rw [← hs0] at HD8
  have hn3 : N ≤ 3 := by rw [hN]; exact cD_le _ _
  have HN := Lib.hid hN
  have HS0 := Lib.hid hs0
  clear hN hs0
  go_loopw [25] (fun iv wr => ∃ (k : Nat) (v1 : Value), k ≤ N ∧ iv = .int .i64 (k : Int) ∧ Hid (DF w wr g A2 n c2 x.body (stW x.body s0 k).2 gp x.dev x.seq (((dV x.body).1 : Nat) : Int) v1 (.slice none 0 0) v1 (.slice none 0 0) (stW x.body s0 k).1 [])) (fun iv _ => N - (intOf iv).toNat)
  case atStart => exact ⟨0, _, by omega, rfl, HD8⟩
  case round =>
    obtain ⟨k, v1, hk, rfl, hd⟩ := hrel
    obtain ⟨wx, hwx⟩ : ∃ x, x = wr := ⟨_, rfl⟩
    rw [← hwx] at hd ⊢
    clear hwx
    by_cases hlt : k < N
    · obtain ⟨Y, hY⟩ : ∃ Y, Y = (rU 11 x.body (stW x.body s0 k).2).1 := ⟨_, rfl⟩
      have HY := Lib.hid hY
      have hy11 : Y ≤ 11 := by rw [hY]; exact rU_le _ _ _
      clear hY
      go_wp2_with fail
      refine Text.wp_region_text (fun w' => w'.cell? ⟨gp, 3, none⟩ = some v1) [(0, 4), (2, 4), (1, 0), (3, 2), (4, 2), (5, 2), (6, 4), (7, 3)] (by kernel_rfl) (by kernel_rfl) (fun _ _ _ _ _ h => h) (hd.out.bl.get (j := 3) rfl) ?_
      iterate 2 (refine Text.purek rfl rfl (fun K hK => ⟨_, fun w' => by go_simp <;> rfl, ?_⟩); go_simp; refine hK _ ?_; clear hK K)
      (refine Text.heldk rfl rfl (fun K hK => ⟨_, fun w' hw' => by go_simp <;> rfl, ?_⟩); go_simp; refine hK _ ?_; clear hK K)
      refine Text.eff rfl rfl (fun K hK => ?_)
      go_simp
      refine (readUint_any 11 (by decide) wx.drew g n c2 A2 x.body _ (hd.out.kept (Below.refl _ _).drew).rd).mono ?_
      rintro e w6 ⟨rfl, hr, hk6⟩
      rw [← HY.out]
      have HD6 := Lib.hid ((hd.out.kept (Below.refl _ _).drew).rdn hr hk6)
      refine hK _ _ (HD6.out.bl.get (j := 3) rfl) ?_
      clear hK K hr hk6
      refine Text.eff rfl rfl (fun K hK => ?_)
      refine wp_bslice 31 3 1 _ rfl #[(0, .int .i64 ((Y : Nat) : Int))] (by rw [List.map_toArray]; rfl) [.int .i64 ((Y : Nat) : Int)] (bslI _ _) ?_
      intro w7 y1 y2 y3
      have HD7 := Lib.hid (HD6.out.kept y2)
      have HG7 := Lib.hid y1
      clear y1 y2 y3
      refine hK _ _ (HD7.out.bl.get (j := 3) rfl) ?_
      clear hK K
      refine Text.eff rfl rfl (fun K hK => ?_)
      obtain ⟨iS, i1, i2, i3, i4⟩ := info_some infoI
      obtain ⟨css, hC1, hC2, hC3, hC4, hC5⟩ := HD7.out.o1
      refine wp_appRW _ (.tmp 28) (.tmp 31) 31 3 1 iS _ rfl Tryz.underlying31 i1 i2 i3 rfl v1 (stW x.body s0 k).1.length _ rfl hC4 w6.heap.size [.int .i64 ((Y : Nat) : Int)] rfl HG7.out rfl (one_val _ rfl) (by rw [i4, stW_len]; omega) (by rw [stW_len]; omega) ?_
      intro v' w8 ap
      have HD8 := Lib.hid (HD7.out.app1 hC4 ap (OL.push hC1 hC2 hC3 hC5 rfl rfl ⟨rfl, wf_small (by omega) (by omega)⟩ (Nat.le_trans HD7.out.low.size (Nat.le_refl _)) ap))
      obtain ⟨A9, c9, e9, _⟩ := ap.row.form
      subst e9
      refine hK _ _ (HD8.out.bl.get (j := 3) rfl) ?_
      clear hK K i1 i2 i3 i4 hC1 hC2 hC3 hC4 hC5 ap
      (refine Text.purek rfl rfl (fun K hK => ⟨_, fun w' => by go_simp <;> rfl, ?_⟩); go_simp; refine hK _ ?_; clear hK K)
      refine Text.last rfl rfl (fun K hK => ?_)
      refine wp_store1 _ 31 (.tmp 33) (.tmp 32) rfl (sz1 _ (by kernel_rfl) _) gp 3 _ _ (.slice A9 ((stW x.body s0 k).1.length + 1) c9) rfl rfl HD8.out.bl rfl rfl (by simp) ?_
      intro w9 y1 y2 y3
      have HD9 := Lib.hid (HD8.out.put (dev' := x.dev) (seq' := x.seq) (vt' := (((dV x.body).1 : Nat) : Int)) (u1' := .slice A9 ((stW x.body s0 k).1.length + 1) c9) (u2' := .slice none 0 0) y1 y2)
      clear y1 y2 y3
      refine hK _ _ ?_
      clear hK K
      refine Text.done ?_
      go_wp2_with fail
      go_roundw
      case rel => exact ⟨k + 1, _, by omega, by go_num, Lib.hid (by have h9 := HD9.out; rw [HY.out] at h9; exact h9)⟩
      case measure => simp [intOf]; omega
    · obtain rfl : k = N := by omega
      have HDW : Hid (stW x.body s0 k = dW x.body) := Lib.hid (by rw [HS0.out, HN.out]; rfl)
      have HDX : Hid (DF w wx g A2 n c2 x.body (dW x.body).2 gp x.dev x.seq (((dV x.body).1 : Nat) : Int) v1 (.slice none 0 0) v1 (.slice none 0 0) (dW x.body).1 []) := Lib.hid (by have h9 := hd.out; rwa [HDW.out] at h9)
      clear HDW hd HS0
      go_wp2_with (first
        | (go_at_call 71; refine (rcount_any 1024 (by decide) wx g n c2 A2 x.body _ HDX.out.rd).mono ?_; rintro e w8 ⟨rfl, g2, b4⟩; rw [show (rdV 0 (cD 1024) x.body (dW x.body).2) = dM x.body from rfl] at g2 ⊢; have HD9 := Lib.hid (HDX.out.rdn g2 b4); clear b4 g2))
      obtain ⟨M, hM⟩ : ∃ N, N = (dM x.body).1 := ⟨_, rfl⟩
      obtain ⟨s0, hs0⟩ : ∃ s, s = (dM x.body).2 := ⟨_, rfl⟩
      rw [← hM]
      rw [← hs0] at HD9
      have hm3 : M ≤ 1024 := by rw [hM]; exact cD_le _ _
      have HM := Lib.hid hM
      have HS0 := Lib.hid hs0
      clear hM hs0
      go_loopw [37] (fun iv wr => ∃ (k : Nat) (v2 : Value), k ≤ M ∧ iv = .int .i64 (k : Int) ∧ Hid (DF w wr g A2 n c2 x.body (stS x.body s0 k).2 gp x.dev x.seq (((dV x.body).1 : Nat) : Int) v1 v2 v1 v2 (dW x.body).1 (stS x.body s0 k).1)) (fun iv _ => M - (intOf iv).toNat)
      case atStart => exact ⟨0, _, by omega, rfl, HD9⟩
      case round =>
        obtain ⟨k, v2, hk, rfl, hd⟩ := hrel
        obtain ⟨wx, hwx⟩ : ∃ x, x = wr := ⟨_, rfl⟩
        rw [← hwx] at hd ⊢
        clear hwx
        by_cases hlt : k < M
        · obtain ⟨Y, hY⟩ : ∃ Y, Y = (rdV [] sD x.body (stS x.body s0 k).2).1 := ⟨_, rfl⟩
          have HY := Lib.hid hY
          have HY32 : Hid (Y.length ≤ reachBytes) := Lib.hid (by rw [hY]; exact Nat.le_trans (sD_le _ _) (by decide))
          clear hY
          go_wp2_with fail
          refine Text.wp_region_text (fun w' => w'.cell? ⟨gp, 4, none⟩ = some v2) [(0, 4), (2, 4), (1, 0), (3, 2), (4, 2), (5, 2), (6, 4), (7, 3)] (by kernel_rfl) (by kernel_rfl) (fun _ _ _ _ _ h => h) (hd.out.bl.get (j := 4) rfl) ?_
          iterate 2 (refine Text.purek rfl rfl (fun K hK => ⟨_, fun w' => by go_simp <;> rfl, ?_⟩); go_simp; refine hK _ ?_; clear hK K)
          (refine Text.heldk rfl rfl (fun K hK => ⟨_, fun w' hw' => by go_simp <;> rfl, ?_⟩); go_simp; refine hK _ ?_; clear hK K)
          refine Text.eff rfl rfl (fun K hK => ?_)
          go_simp
          refine (rsum_any wx.drew g n c2 A2 x.body _ (hd.out.kept (Below.refl _ _).drew).rd).mono ?_
          rintro e w6 ⟨rfl, hr, hk6⟩
          rw [← HY.out]
          have HD6 := Lib.hid ((hd.out.kept (Below.refl _ _).drew).rdn hr hk6)
          refine hK _ _ (HD6.out.bl.get (j := 4) rfl) ?_
          clear hK K hr hk6
          refine Text.eff rfl rfl (fun K hK => ?_)
          refine wp_bslice 25 9 1 _ rfl #[(0, .string (strB Y))] (by rw [List.map_toArray]; rfl) [.string (strB Y)] (bslStr _ _) ?_
          intro w7 y1 y2 y3
          have HD7 := Lib.hid (HD6.out.kept y2)
          have HG7 := Lib.hid y1
          clear y1 y2 y3
          refine hK _ _ (HD7.out.bl.get (j := 4) rfl) ?_
          clear hK K
          refine Text.eff rfl rfl (fun K hK => ?_)
          obtain ⟨iS, i1, i2, i3, i4⟩ := info_some infoStr
          obtain ⟨css, hC1, hC2, hC3, hC4, hC5⟩ := HD7.out.o2
          refine wp_appRW _ (.tmp 40) (.tmp 43) 25 9 1 iS _ rfl Tryz.underlying25 i1 i2 i3 rfl v2 (stS x.body s0 k).1.length _ rfl hC4 w6.heap.size [.string (strB Y)] rfl HG7.out rfl (one_val _ rfl) (by rw [i4, stS_len]; omega) (by rw [stS_len]; omega) ?_
          intro v' w8 ap
          have HD8 := Lib.hid (HD7.out.app2 hC4 ap (OL.push hC1 hC2 hC3 hC5 rfl rfl ⟨rfl, HY32.out⟩ (Nat.le_trans HD7.out.low.size (Nat.le_refl _)) ap))
          obtain ⟨A9, c9, e9, _⟩ := ap.row.form
          subst e9
          refine hK _ _ (HD8.out.bl.get (j := 4) rfl) ?_
          clear hK K i1 i2 i3 i4 hC1 hC2 hC3 hC4 hC5 ap
          (refine Text.purek rfl rfl (fun K hK => ⟨_, fun w' => by go_simp <;> rfl, ?_⟩); go_simp; refine hK _ ?_; clear hK K)
          refine Text.last rfl rfl (fun K hK => ?_)
          refine wp_store1 _ 25 (.tmp 45) (.tmp 44) rfl (sz1 _ (by kernel_rfl) _) gp 4 _ _ (.slice A9 ((stS x.body s0 k).1.length + 1) c9) rfl rfl HD8.out.bl rfl rfl (by simp) ?_
          intro w9 y1 y2 y3
          have HD9 := Lib.hid (HD8.out.put (dev' := x.dev) (seq' := x.seq) (vt' := (((dV x.body).1 : Nat) : Int)) (u1' := v1) (u2' := .slice A9 ((stS x.body s0 k).1.length + 1) c9) y1 y2)
          clear y1 y2 y3
          refine hK _ _ ?_
          clear hK K
          refine Text.done ?_
          go_wp2_with fail
          go_roundw
          case rel => exact ⟨k + 1, _, by omega, by go_num, Lib.hid (by have h9 := HD9.out; rw [HY.out] at h9; exact h9)⟩
          case measure => simp [intOf]; omega
        · obtain rfl : k = M := by omega
          have HDW : Hid (stS x.body s0 k = dS x.body) := Lib.hid (by rw [HS0.out, HM.out]; rfl)
          have HDX : Hid (DF w wx g A2 n c2 x.body (dS x.body).2 gp x.dev x.seq (((dV x.body).1 : Nat) : Int) v1 v2 v1 v2 (dW x.body).1 (dS x.body).1) := Lib.hid (by have h9 := hd.out; rwa [HDW.out] at h9)
          clear HDW hd HS0
          have hlw : (dW x.body).1.length ≤ 3 := by rw [dW, stW_len]; exact cD_le _ _
          have hls : (dS x.body).1.length ≤ 1024 := by rw [dS, stS_len]; exact cD_le _ _
          have hlv : (dV x.body).1 ≤ 11 := rU_le _ _ _
          obtain ⟨B1, d1, e1, hl1⟩ := HDX.out.o1.ls stay_int HDX.out.low (b := 8) (by unfold lim; omega)
          obtain ⟨B2, d2, e2, hl2⟩ := HDX.out.o2.ls stay_str HDX.out.low (b := 16) (by unfold lim; omega)
          have HPP : Hid (rPpT wx [.int .i64 x.dev, .int .i64 x.seq, .int .i64 (((dV x.body).1 : Nat) : Int), v1, v2] (decP x)) := Lib.hid (by
            refine ⟨⟨B1, _, d1, B2, _, d2, by rw [e1, e2]; rfl, hl1, hl2, HW1.out, HW2.out, wf_small (by show (0 : Int) ≤ ((dV x.body).1 : Int); omega) (by show (((dV x.body).1 : Nat) : Int) < 1000000; omega)⟩, fun A9 n9 c9 hm a ha => ?_⟩
            simp only [List.mem_cons, List.not_mem_nil, or_false, reduceCtorEq, false_or] at hm
            rcases hm with hm | hm
            · obtain ⟨l, hl⟩ := HDX.out.o1.ty hm.symm ha
              exact ⟨_, l, hl, .inl rfl⟩
            · obtain ⟨l, hl⟩ := HDX.out.o2.ty hm.symm ha
              exact ⟨_, l, hl, .inr rfl⟩)
          have HONE : Hid (∀ u ∈ [.int .i64 x.dev, .int .i64 x.seq, .int .i64 (((dV x.body).1 : Nat) : Int), v1, v2], u.oneCell' = true) := Lib.hid (ones_pp _ _ HPP.out.1)
          have HL : Hid (x.body.length = n) := Lib.hid HBS.out.1
          obtain ⟨z, hz⟩ : ∃ z, z = endR n (dS x.body).2 := ⟨_, rfl⟩
          have HZ := Lib.hid hz
          clear hz hlw hls hlv e1 e2 hl1 hl2
          by_cases hz0 : z = 0
          rotate_left
          · have HE : Hid (decM x = none) := Lib.hid (by rw [decM, if_pos HK.out, if_neg (fun h => hz0 (by rw [HZ.out, ← HL.out]; exact h.1))])
            have f1 : (z != 0) = true := by rw [bne_iff_ne]; exact hz0
            clear hz0
            go_wp2_with (first
              | (go_at_call 73; refine (end_any wx g n c2 A2 x.body _ HDX.out.rd).mono ?_; rintro e w10 ⟨⟨z0, rfl⟩, b6⟩; rw [← HZ.out]; have HDY := Lib.hid (HDX.out.kept b6); clear b6)
              | ((with_reducible show wpList _ _ _ (⟨some 59, _, _, _, _, _⟩ :: _) _ _); refine wpList_build _ rfl 34 _ rfl #[] (by rfl) _ (bldPp _) ?_)
              | ((with_reducible show wpList _ _ _ (⟨none, _, _, _, _, _⟩ :: _) _ _); refine wpList_storev _ rfl 34 (.tmp 2) (.tmp 59) rfl 5 (by kernel_rfl) gp 0 _ _ ppZ rfl rfl HDY.out.bl rfl one_ppz (by simp) ?_; intro w11 y1 y2 y3; rw [splice_pp _ ppZ (by rfl)] at y1; have HP11 := Lib.hid y1; have HB11 := Lib.hid (low_kp HDY.out.low y2 (fun i hi e => by have := HDY.out.hp; omega)); clear y1 y2 y3))
            refine bodyPost_ret (results_at2 _ Tryz.results48 (by kernel_rfl) rfl (BL.all HP11.out) rfl) rfl ?_
            refine ⟨fun p e => ?_, fun _ => ?_, HB11.out⟩
            · rw [HE.out] at e; cases e
            · rw [if_pos HK.out]; rfl
          subst hz0
          cases hv : validB (decP x) with
          | false =>
            have HE : Hid (decM x = none) := Lib.hid (by rw [decM, if_pos HK.out, if_neg (fun h => by rw [hv] at h; cases h.2)])
            go_wp2_with (first
              | (go_at_call 73; refine (end_any wx g n c2 A2 x.body _ HDX.out.rd).mono ?_; rintro e w10 ⟨⟨z0, rfl⟩, b6⟩; rw [← HZ.out]; have HDY := Lib.hid (HDX.out.kept b6); have HPY := Lib.hid (stay_ppt _ _ _ _ HPP.out b6); clear b6)
              | ((with_reducible show wpList _ _ _ (⟨some 55, _, _, _, _, _⟩ :: _) _ _); refine wpList_loadvg _ rfl 34 (.tmp 2) rfl 5 (by kernel_rfl) gp 0 _ rfl (BL.all HDY.out.bl) rfl ?_)
              | (go_at_call 18; refine (valid_any _ _ w10 HPY.out.1).mono ?_; rintro e w11 ⟨rfl, b6⟩; rw [hv]; have HDZ := Lib.hid (HDY.out.kept b6); clear b6)
              | ((with_reducible show wpList _ _ _ (⟨some 59, _, _, _, _, _⟩ :: _) _ _); refine wpList_build _ rfl 34 _ rfl #[] (by rfl) _ (bldPp _) ?_)
              | ((with_reducible show wpList _ _ _ (⟨none, _, _, _, _, _⟩ :: _) _ _); refine wpList_storev _ rfl 34 (.tmp 2) (.tmp 59) rfl 5 (by kernel_rfl) gp 0 _ _ ppZ rfl rfl HDZ.out.bl rfl one_ppz (by simp) ?_; intro w12 y1 y2 y3; rw [splice_pp _ ppZ (by rfl)] at y1; have HP11 := Lib.hid y1; have HB11 := Lib.hid (low_kp HDZ.out.low y2 (fun i hi e => by have := HDZ.out.hp; omega)); clear y1 y2 y3))
            refine bodyPost_ret (results_at2 _ Tryz.results48 (by kernel_rfl) rfl (BL.all HP11.out) rfl) rfl ?_
            refine ⟨fun p e => ?_, fun _ => ?_, HB11.out⟩
            · rw [HE.out] at e; cases e
            · rw [if_pos HK.out]; rfl
          | true =>
            have HE : Hid (decM x = some (decP x)) := Lib.hid (by rw [decM, if_pos HK.out, if_pos ⟨by rw [HL.out, ← HZ.out], hv⟩])
            go_wp2_with (first
              | (go_at_call 73; refine (end_any wx g n c2 A2 x.body _ HDX.out.rd).mono ?_; rintro e w10 ⟨⟨z0, rfl⟩, b6⟩; rw [← HZ.out]; have HDY := Lib.hid (HDX.out.kept b6); have HPY := Lib.hid (stay_ppt _ _ _ _ HPP.out b6); clear b6)
              | ((with_reducible show wpList _ _ _ (⟨some 55, _, _, _, _, _⟩ :: _) _ _); refine wpList_loadvg _ rfl 34 (.tmp 2) rfl 5 (by kernel_rfl) gp 0 _ rfl (BL.all HDY.out.bl) rfl ?_)
              | (go_at_call 18; refine (valid_any _ _ w10 HPY.out.1).mono ?_; rintro e w11 ⟨rfl, b6⟩; rw [hv]; have HDZ := Lib.hid (HDY.out.kept b6); have HPZ := Lib.hid (stay_ppt _ _ _ _ HPY.out b6); clear b6)
              | ((with_reducible show wpList _ _ _ (⟨some 60, _, _, _, _, _⟩ :: _) _ _); refine wpList_loadv _ rfl 34 (.tmp 2) rfl 5 (by kernel_rfl) gp 0 _ rfl (BL.all HDZ.out.bl) rfl ?_)
              | ((with_reducible show wpList _ _ _ (⟨none, _, _, _, _, _⟩ :: _) _ _); refine wpList_storev _ rfl 34 (.tmp 2) (.tmp 60) rfl 5 (by kernel_rfl) gp 0 _ _ [.int .i64 x.dev, .int .i64 x.seq, .int .i64 (((dV x.body).1 : Nat) : Int), v1, v2] rfl rfl HDZ.out.bl rfl HONE.out (by simp) ?_; intro w12 y1 y2 y3; rw [splice_pp _ _ rfl] at y1; have HP11 := Lib.hid y1; have HPV := Lib.hid (HPZ.out.kp y2 (fun i t l hl ht => hl.ne HDZ.out.bl (by rcases ht with rfl | rfl <;> decide))); have HB11 := Lib.hid (low_kp HDZ.out.low y2 (fun i hi e => by have := HDZ.out.hp; omega)); clear y1 y2 y3))
            refine bodyPost_ret (results_at2 _ Tryz.results48 (by kernel_rfl) rfl (BL.all HP11.out) rfl) rfl ?_
            refine ⟨fun p e => ?_, fun e => ?_, HB11.out⟩
            · rw [HE.out] at e
              cases e
              exact ⟨_, rfl, HPV.out⟩
            · rw [HE.out] at e; cases e
end
theorem decp_any (cs : List Value) (x : En) (w : World) (h : rEn w cs x) :
    Calls Tryz.prog 48 #[.agg cs.toArray] w (DecPR x w) := by
  by_cases hk : x.kind = 3
  · exact decp_walk cs x w h hk
  · exact decp_kind cs x w h hk
end Go.Proofs.YtgoefpbicohkfaaGreatDoor
/- What a view is, plainly; numbers and answers as keys of maps. -/
namespace Go.Proofs.YtgoefpbicohkfaaGreatDoor
open Go Go.RowKit Go.WideMaps Gf Sha

def keyE (x : En) : Int × Int := (x.dev, x.seq)
def keyA (x : En) : Int × List UInt8 := (x.dev, x.body)
def okRep (x : En) : Bool := isRep x && decide (x.body.length ≤ 20)
/-- One entry more, unless its number is there. -/
def ddS (D : List En) (x : En) : List En := if D.any (fun y => keyE y == keyE x) then D else D ++ [x]
/-- The entries that count. -/
def dd (es : List En) : List En := es.foldl ddS []
theorem dd_step {es : List En} {k : Nat} {x : En} (h : es[k]? = some x) : dd (es.take (k + 1)) = ddS (dd (es.take k)) x := by
  rw [dd, take_next h, List.foldl_append]; rfl
/-- The proposals of entries. -/
def pps (D : List En) : List Pp := D.filterMap decM
theorem pps_snoc (D : List En) (x : En) : pps (D ++ [x]) = pps D ++ (match decM x with | some p => [p] | none => []) := by
  rw [pps, pps, List.filterMap_append]
  congr 1
  rw [List.filterMap_cons]
  cases decM x <;> rfl
def bestS (key : Int × List UInt8) (b : Option En) (x : En) : Option En := if okRep x && keyA x == key then (match b with | none => some x | some y => if x.seq < y.seq then some x else some y) else b
/-- The reply with the least number. -/
def best (D : List En) (key : Int × List UInt8) : Option En := D.foldl (bestS key) none
theorem best_snoc (D : List En) (x : En) (key : Int × List UInt8) : best (D ++ [x]) key = bestS key (best D key) x := by rw [best, List.foldl_append]; rfl
theorem best_nil (key : Int × List UInt8) : best [] key = none := rfl
def numV (k : Int × Int) : Value := .agg [.int .i64 k.1, .int .i64 k.2].toArray
def ansV (k : Int × List UInt8) : Value := .agg [.int .i64 k.1, .string (strB k.2)].toArray
theorem numV_inj (x y : Int × Int) (h : numV x = numV y) : x = y := by
  obtain ⟨a, b⟩ := x; obtain ⟨c, d⟩ := y
  injection h with h
  have h1 : [Value.int .i64 a, .int .i64 b] = [.int .i64 c, .int .i64 d] := congrArg Array.toList h
  injection h1 with h2 h3
  injection h3 with h3 _
  injection h2 with _ h2
  injection h3 with _ h3
  rw [h2, h3]
theorem ansV_inj (x y : Int × List UInt8) (h : ansV x = ansV y) : x = y := by
  obtain ⟨a, b⟩ := x; obtain ⟨c, d⟩ := y
  injection h with h
  have h1 : [Value.int .i64 a, .string (strB b)] = [.int .i64 c, .string (strB d)] := congrArg Array.toList h
  injection h1 with h2 h3
  injection h3 with h3 _
  injection h2 with _ h2
  injection h3 with h3
  rw [h2, strB_inj h3]
set_option maxRecDepth 100000
theorem laidOutT : laidOutB Tryz.prog = true := by kernel_rfl
theorem strKeyed : Go.Maps.Keyed Tryz.prog 9 := Go.Maps.string_keyed Tryz.underlying9
theorem numRow : (82 : TypeId) < Tryz.prog.types.size := of_decide_eq_true (by kernel_rfl)
theorem numWide : (match Tryz.prog.underlying 82 with | some (.array _ _) | some (.struct _) => true | _ => false) = true := by kernel_rfl
theorem numKeyed : Go.Maps.Keyed Tryz.prog 82 := Go.Maps.Keyed.of_law (deep_law_laid laidOutT (m := 2) (by omega) numRow (by kernel_rfl) numWide)
theorem numType : Tryz.prog.keyType 82 = true := by kernel_rfl
theorem ansRow : (87 : TypeId) < Tryz.prog.types.size := of_decide_eq_true (by kernel_rfl)
theorem ansWide : (match Tryz.prog.underlying 87 with | some (.array _ _) | some (.struct _) => true | _ => false) = true := by kernel_rfl
theorem ansKeyed : Go.Maps.Keyed Tryz.prog 87 := Go.Maps.Keyed.of_law (deep_law_laid laidOutT (m := 2) (by omega) ansRow (by kernel_rfl) ansWide)
theorem ansType : Tryz.prog.keyType 87 = true := by kernel_rfl
theorem keyNum (k : Int × Int) (h1 : wfI k.1) (h2 : wfI k.2) : ∃ lx, keyOf Tryz.prog 82 (numV k) = some lx := by
  obtain ⟨i, j⟩ := k
  have hi' : (Lit.int .i64 i).wf = true := h1
  have hj' : (Lit.int .i64 j).wf = true := h2
  have hc : Tryz.prog.cellsOf 82 = 2 := by kernel_rfl
  have hci : Tryz.prog.cellsOf 3 = 1 := by kernel_rfl
  have hf : (Value.agg #[.int .i64 i, .int .i64 j]).formed Tryz.prog 82 = true := by
    simp [Value.formed, Tryz.underlying82, hc]
  have hk : ∃ ls, Tryz.prog.keyLits (Tryz.prog.types.size + 1) 82 (Value.agg #[.int .i64 i, .int .i64 j]).cells.toList = some ls := by
    obtain ⟨m, hm'⟩ : ∃ m, Tryz.prog.types.size = m + 1 := ⟨Tryz.prog.types.size - 1, by kernel_rfl⟩
    rw [hm']
    unfold Program.keyLits
    rw [Tryz.underlying82]
    simp only [Value.cells, hc]
    simp [Program.keyLits, Tryz.underlying3, hci, hi', hj']
  obtain ⟨ls, hk⟩ := hk
  exact ⟨.string (keyBytes ls), by
    show keyOf Tryz.prog 82 (Value.agg #[.int .i64 i, .int .i64 j]) = _
    unfold keyOf
    rw [Tryz.underlying82]
    simp only [numType, hf, hk]
    rfl⟩
theorem keyAns (k : Int × List UInt8) (h1 : wfI k.1) (h2 : k.2.length ≤ 9223372036854775807) : ∃ lx, keyOf Tryz.prog 87 (ansV k) = some lx := by
  obtain ⟨i, s⟩ := k
  have hi' : (Lit.int .i64 i).wf = true := h1
  have hm : (strB s).size ≤ maxLen := by rw [strB_size]; exact h2
  have hc : Tryz.prog.cellsOf 87 = 2 := by kernel_rfl
  have hcs : Tryz.prog.cellsOf 9 = 1 := by kernel_rfl
  have hci : Tryz.prog.cellsOf 3 = 1 := by kernel_rfl
  have hf : (Value.agg #[.int .i64 i, .string (strB s)]).formed Tryz.prog 87 = true := by
    simp [Value.formed, Tryz.underlying87, hc]
  have hk : ∃ ls, Tryz.prog.keyLits (Tryz.prog.types.size + 1) 87 (Value.agg #[.int .i64 i, .string (strB s)]).cells.toList = some ls := by
    obtain ⟨m, hm'⟩ : ∃ m, Tryz.prog.types.size = m + 1 := ⟨Tryz.prog.types.size - 1, by kernel_rfl⟩
    rw [hm']
    unfold Program.keyLits
    rw [Tryz.underlying87]
    simp only [Value.cells, hc]
    simp [Program.keyLits, Tryz.underlying3, Tryz.underlying9, hci, hcs, hm, hi']
  obtain ⟨ls, hk⟩ := hk
  exact ⟨.string (keyBytes ls), by
    show keyOf Tryz.prog 87 (Value.agg #[.int .i64 i, .string (strB s)]) = _
    unfold keyOf
    rw [Tryz.underlying87]
    simp only [ansType, hf, hk]
    rfl⟩
theorem mapNB : Tryz.prog.underlying 80 = some (.map 82 4) := Tryz.underlying80
theorem mapAL : Tryz.prog.underlying 58 = some (.map 87 38) := Tryz.underlying58
/-- A proposal's cells. -/
structure PpV where
  p : Pp
  A1 : Option Addr
  n1 : Nat
  c1 : Nat
  A2 : Option Addr
  n2 : Nat
  c2 : Nat
instance : Inhabited PpV := ⟨⟨pp0, none, 0, 0, none, 0, 0⟩⟩
def pvC (x : PpV) : List Value := ppC x.p x.A1 x.n1 x.c1 x.A2 x.n2 x.c2
theorem pvC_len (x : PpV) : (pvC x).length = 5 := rfl
theorem one_pv (x : PpV) : ∀ v ∈ pvC x, v.oneCell' = true := one_pp _ _ _ _ _ _ _
theorem pv_of {w : World} {cs : List Value} {p : Pp} (h : rPp w cs p) : ∃ x : PpV, cs = pvC x ∧ x.p = p := by
  obtain ⟨A1, n1, c1, A2, n2, c2, e, _⟩ := h
  exact ⟨⟨p, A1, n1, c1, A2, n2, c2⟩, e, rfl⟩
theorem pvs_len (vs : List PpV) : (vs.flatMap pvC).length = vs.length * 5 := flat_length pvC_len vs
/-- A list of proposals, its block whole. -/
structure PvL (w : World) (v : Value) (vs : List PpV) : Prop where
  row : RW w 34 5 v vs.length (vs.flatMap pvC)
  each : ∀ x ∈ vs, rPpT w (pvC x) x.p
theorem PvL.kp {w w' : World} {v : Value} {vs : List PpV} (h : PvL w v vs) {S : Nat → Prop} (hk : Kp S w w') (h1 : ∀ b, v.ownBlock = some b → ¬ S b) (h2 : ∀ i t l, BL w i t l → (t = 3 ∨ t = 9) → ¬ S i) : PvL w' v vs :=
  ⟨h.row.kp hk h1, fun x hx => (h.each x hx).kp hk h2⟩
theorem PvL.kept {w w' : World} {v : Value} {vs : List PpV} (h : PvL w v vs) (hb : Below w.heap.size w w') : PvL w' v vs := ⟨h.row.kept hb, fun x hx => stay_ppt _ _ _ _ (h.each x hx) hb⟩
theorem PvL.nil (w : World) : PvL w (.slice none 0 0) [] := ⟨RW.nil _ _ _, fun x hx => by cases hx⟩
theorem PvL.push {w w' : World} {v v' : Value} {vs : List PpV} (h : PvL w v vs) {x : PpV} (hx : rPpT w (pvC x) x.p) (ap : AppR w 34 5 v vs.length 1 (vs.flatMap pvC) (pvC x) v' w') : PvL w' v' (vs ++ [x]) := by
  have hS : ∀ i t l, BL w i t l → (t = 3 ∨ t = 9) → ¬ v.ownBlock = some i := fun i t l hl ht e => h.row.ne_bl hl (by rcases ht with rfl | rfl <;> decide) i e rfl
  refine ⟨?_, fun y hy => ?_⟩
  · have h1 := ap.row
    rw [List.length_append, List.flatMap_append]
    simpa using h1
  · rcases List.mem_append.1 hy with h1 | h1
    · exact (h.each y h1).kp ap.kp hS
    · rw [List.mem_singleton] at h1
      subst h1
      exact hx.kp ap.kp hS
end Go.Proofs.YtgoefpbicohkfaaGreatDoor
