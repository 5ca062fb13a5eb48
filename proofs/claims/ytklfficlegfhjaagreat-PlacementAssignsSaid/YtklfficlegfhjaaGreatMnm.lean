/- The reference's Look, as Assign calls it. -/
import Derived.Test.YtklfficlegfhjaaGreatMdm
import Derived.Test.YtklfficlegfhjaaGreatLgm
namespace Go.Proofs.YtklfficlegfhjaaGreat
open Go Go.RowKit Gf Sha

theorem szBool : (Tryz.prog.info? 4).map (·.size) = some 1 := by kernel_rfl
theorem szRps : (Tryz.prog.info? 34).map (·.size) = some 1 := by kernel_rfl
set_option maxRecDepth 100000 in
set_option maxHeartbeats 8000000 in
theorem rlookA_any {g : Nat} {A : Option Addr} {n c : Nat} {ws : List Wt} {B : Option Addr} {m d : Nat} {hs : List Hd} {bu : Nat} (hgA : 0 < n → ∀ a, A = some a → a.block ≠ g) (hgB : 0 < m → ∀ a, B = some a → a.block ≠ g) (hw : wantsB ws = true) (hwo : ∀ (i : Nat) (x : Wt), ws[i]? = some x → okWt x) (hm12 : m ≤ 12) (hbu : (bu : Int) ≤ 1048576) :
  ∀ (r : List Wt) (k : Nat) (P : Option Addr) (p q : Nat) (ps : List Pl) (s : RS) (w : World), ws.drop k = r → k + r.length = n → (p : Int) + 16 * (r.length : Int) ≤ 1000 → s.n ≤ bu → LS rWt 4 40 w A n c ws → LS rHd 3 24 w B m d hs → LS rPl 3 32 w P p q ps → (0 < p → ∀ a, P = some a → a.block ≠ g) → SSt g A n c B m d (-1) false bu w w s →
  Calls Tryz.prog 54 #[.pointer (some ⟨g, 0, none⟩), .int .i64 (k : Int), .slice P p q] w fun e w' => (∃ v, e = .returned v) ∧ SSt g A n c B m d (-1) false bu w w' (rlook ws hs none false bu r ps s) := by
 intro r
 induction r with
 | nil =>
  intro k P p q ps s w hdk hkn hp9 hsn hA hBB hP hgP hSS
  obtain rfl : n = k := by simpa using hkn.symm
  have hn9 := hA.len_le
  obtain ⟨sn, sf, sb⟩ := s
  obtain ⟨F, f, e, hB, hL, hF, hf, _, _⟩ := hSS
  have HB := Lib.hid hB
  have HBL := Lib.hid hL
  have HFF := Lib.hid hF
  have HF9 := Lib.hid hf
  have hsn' : sn ≤ bu := hsn
  obtain ⟨S, hS⟩ : ∃ S, S = sn + 1 := ⟨_, rfl⟩
  have HS := Lib.hid hS
  have hwr : IntKind.i64.wrap ((sn : Int) + 1) = (S : Int) := by rw [IntWalk.i64_in _ (by omega)]; omega
  have HSB : Hid (S ≤ bu + 1) := Lib.hid (by omega)
  have q5 := hB.get (j := 5) rfl
  have HH := Lib.hid hA
  have HHB := Lib.hid hBB
  have HP := Lib.hid hP
  have HGP := Lib.hid hgP
  have HGA := Lib.hid hgA
  have HGB := Lib.hid hgB
  have HWS := Lib.hid hw
  have HP9 := Lib.hid hp9
  clear hB hL hF hf hsn' hsn hS hA hBB hP hp9
  go_enter Tryz.func54, Tryz.ntmps54
  go_wp2_with (first
   | ((with_reducible show OpN); refine wpList_store1 _ rfl 3 (.tmp 19) (.tmp 17) rfl (sz1 _ szIn _) g 5 _ _ (.int .i64 (S : Int)) rfl rfl HB.out rfl rfl (by show 5 < 8; decide) ?_; intro w1 a1 a2 a3; have HB1 : Hid (BL w1 g 106 (seC A n c B m d (-1) false bu S sf F f e)) := Lib.hid a1; have HK1 : Hid (Kp (· = g) w w1) := Lib.hid a2; clear a1 a2 a3))
  have HS1 : Hid (SSt g A n c B m d (-1) false bu w w1 ⟨S, sf, sb⟩) := Lib.hid ⟨F, f, e, HB1.out, LS.kpg HBL.out HK1.out HFF.out, HFF.out, HF9.out, HSB.out, HK1.out⟩
  have p0 := HB1.out.get (j := 0) rfl
  have p2 := HB1.out.get (j := 2) rfl
  have p3 := HB1.out.get (j := 3) rfl
  have p4 := HB1.out.get (j := 4) rfl
  have p5 := HB1.out.get (j := 5) rfl
  have p6 := HB1.out.get (j := 6) rfl
  clear q5
  have f1 : ((n : Int) == (n : Int)) = true := beq_self_eq_true _
  have HNP : Hid ((p : Int) ≤ 1000) := Lib.hid (by have := HP9.out; simp at this; omega)
  clear hdk hkn
  cases c1 : decide (S > bu) with
  | true =>
   have hc1 := of_decide_eq_true c1
   have c2 : decide (bu < S) = true := c1
   have c3 : decide ((S : Int) > (bu : Int)) = true := decide_eq_true (by omega)
   have c4 : decide ((bu : Int) < (S : Int)) = true := c3
   clear hc1
   have HR : Hid (rlook ws hs none false bu [] ps ⟨sn, sf, sb⟩ = ⟨S, sf, sb⟩) := Lib.hid (by rw [rlk_stop (by show (decide (bu < sn + 1) || _) = true; rw [decide_eq_true (by have := of_decide_eq_true c1; have := HS.out; omega)]; rfl), HS.out])
   refine Text.wp_region_text (fun _ => True) [(0, 4), (1, 4), (2, 4), (4, 4), (5, 4), (6, 4), (3, 1), (7, 1), (8, 4), (9, 4), (10, 4), (11, 4), (12, 4), (13, 4), (14, 4), (15, 4), (16, 4), (17, 4), (18, 4), (19, 4), (20, 4)] (by kernel_rfl) (by kernel_rfl) (fun _ _ _ _ _ h => h) (trivial) ?_
   iterate 6 (refine Text.purek rfl rfl (fun K hK => ⟨_, fun w' => by go_simp <;> rfl, ?_⟩); go_simp; refine hK _ ?_; clear hK K)
   iterate 2 (refine Text.readk rfl rfl (fun K hK => ⟨_, by go_simp <;> rfl, ?_⟩); go_simp; refine hK _ ?_; clear hK K)
   iterate 2 (refine Text.purek rfl rfl (fun K hK => ⟨_, fun w' => by go_simp <;> rfl, ?_⟩); go_simp; refine hK _ ?_; clear hK K)
   iterate 10 (refine Text.skipk (.inr (.inr rfl)) rfl rfl (fun K hK => ?_); go_simp; refine hK _ ?_; clear hK K)
   (refine Text.purek rfl rfl (fun K hK => ⟨_, fun w' => by go_simp <;> rfl, ?_⟩); go_simp; refine hK _ ?_; clear hK K)
   refine Text.done ?_
   go_wp2_with fail
   refine bodyPost_ret (results_none rfl _ _ _) rfl ?_
   exact ⟨⟨_, rfl⟩, by rw [HR.out]; exact HS1.out.kept (Below.refl _ _).drew⟩
  | false =>
   have hc1 := of_decide_eq_false c1
   have c2 : decide (bu < S) = false := c1
   have c3 : decide ((S : Int) > (bu : Int)) = false := decide_eq_false (by omega)
   have c4 : decide ((bu : Int) < (S : Int)) = false := c3
   clear hc1
   have HST : Hid ((⟨sn + 1, sf, sb⟩ : RS).stop false bu = false) := Lib.hid (by show (decide (bu < sn + 1) || (false && sf)) = false; rw [decide_eq_false (by have := of_decide_eq_false c1; have := HS.out; omega)]; rfl)
   refine Text.wp_region_text (fun _ => True) [(0, 4), (1, 4), (2, 4), (4, 4), (5, 4), (6, 4), (3, 1), (7, 1), (8, 4), (9, 4), (10, 4), (11, 4), (12, 4), (13, 1), (14, 4), (15, 4), (16, 4), (17, 4), (18, 4), (19, 4), (20, 4)] (by kernel_rfl) (by kernel_rfl) (fun _ _ _ _ _ h => h) (trivial) ?_
   iterate 6 (refine Text.purek rfl rfl (fun K hK => ⟨_, fun w' => by go_simp <;> rfl, ?_⟩); go_simp; refine hK _ ?_; clear hK K)
   iterate 2 (refine Text.readk rfl rfl (fun K hK => ⟨_, by go_simp <;> rfl, ?_⟩); go_simp; refine hK _ ?_; clear hK K)
   iterate 5 (refine Text.purek rfl rfl (fun K hK => ⟨_, fun w' => by go_simp <;> rfl, ?_⟩); go_simp; refine hK _ ?_; clear hK K)
   (refine Text.readk rfl rfl (fun K hK => ⟨_, by go_simp <;> rfl, ?_⟩); go_simp; refine hK _ ?_; clear hK K)
   (refine Text.purek rfl rfl (fun K hK => ⟨_, fun w' => by go_simp <;> rfl, ?_⟩); go_simp; refine hK _ ?_; clear hK K)
   iterate 4 (refine Text.skipk (.inr (.inr rfl)) rfl rfl (fun K hK => ?_); go_simp; refine hK _ ?_; clear hK K)
   iterate 2 (refine Text.purek rfl rfl (fun K hK => ⟨_, fun w' => by go_simp <;> rfl, ?_⟩); go_simp; refine hK _ ?_; clear hK K)
   refine Text.done ?_
   go_wp2_with fail
   cases sf with
   | false =>
    have HR : Hid (rlook ws hs none false bu [] ps ⟨sn, false, sb⟩ = ⟨S, true, ps⟩) := Lib.hid (by rw [rlk_nil HST.out, HS.out]; rfl)
    have HB2 := Lib.hid (HB1.out.kept (Below.refl _ _).drew.drew)
    have HK2 := Lib.hid (HK1.out.drew.drew)
    refine Text.wp_region_text (fun _ => True) [(0, 4), (1, 4), (2, 4), (3, 1), (4, 4), (5, 4), (6, 4), (7, 4), (8, 4), (9, 4), (10, 4), (11, 4), (12, 4), (13, 4), (14, 4), (15, 4), (16, 4), (17, 4), (18, 4), (19, 4), (20, 4), (21, 4), (22, 4), (23, 4), (24, 4), (25, 4), (26, 4), (27, 4), (28, 4), (29, 4)] (by kernel_rfl) (by kernel_rfl) (fun _ _ _ _ _ h => h) (trivial) ?_
    iterate 3 (refine Text.purek rfl rfl (fun K hK => ⟨_, fun w' => by go_simp <;> rfl, ?_⟩); go_simp; refine hK _ ?_; clear hK K)
    (refine Text.readk rfl rfl (fun K hK => ⟨_, by go_simp <;> rfl, ?_⟩); go_simp; refine hK _ ?_; clear hK K)
    iterate 2 (refine Text.purek rfl rfl (fun K hK => ⟨_, fun w' => by go_simp <;> rfl, ?_⟩); go_simp; refine hK _ ?_; clear hK K)
    iterate 23 (refine Text.skipk (.inr (.inr rfl)) rfl rfl (fun K hK => ?_); go_simp; refine hK _ ?_; clear hK K)
    (refine Text.purek rfl rfl (fun K hK => ⟨_, fun w' => by go_simp <;> rfl, ?_⟩); go_simp; refine hK _ ?_; clear hK K)
    refine Text.done ?_
    go_wp2_with (first
     | ((with_reducible show OpN); refine wpList_store1 _ rfl 4 (.tmp 82) (.const (.bool true)) rfl (sz1 _ szBool _) g 6 _ _ (.bool true) rfl rfl HB2.out rfl rfl (by show 6 < 8; decide) ?_; intro w7 a1 a2 a3; have HB7 : Hid (BL w7 g 106 (seC A n c B m d (-1) false bu S true F f e)) := Lib.hid a1; have HK7 : Hid (Kp (· = g) w w7) := Lib.hid (HK2.out.trans a2); clear a1 a2 a3)
     | ((with_reducible show OpN); refine wpList_store1 _ rfl 34 (.tmp 84) (.tmp 80) rfl (sz1 _ szRps _) g 7 _ _ (.slice P p q) rfl rfl HB7.out rfl rfl (by show 7 < 8; decide) ?_; intro w8 a1 a2 a3; have HB8 : Hid (BL w8 g 106 (seC A n c B m d (-1) false bu S true P p q)) := Lib.hid a1; have HK8 : Hid (Kp (· = g) w w8) := Lib.hid (HK7.out.trans a2); clear a1 a2 a3))
    refine bodyPost_ret (results_none rfl _ _ _) rfl ?_
    exact ⟨⟨_, rfl⟩, by rw [HR.out]; exact ⟨P, p, q, HB8.out, LS.kpg HP.out HK8.out HGP.out, HGP.out, by have := HNP.out; omega, HSB.out, HK8.out⟩⟩
   | true =>
    have HWk := Lib.hid (LS.kpg HH.out HK1.out HGA.out)
    have HPk := Lib.hid (LS.kpg HP.out HK1.out HGP.out)
    have HFk := Lib.hid (LS.kpg HBL.out HK1.out HFF.out)
    have p7 := HB1.out.get (j := 7) rfl
    have b2 : Below w1.heap.size w1 w1.drew.drew := (Below.refl _ _).drew.drew
    have HX2 := Lib.hid b2
    clear b2
    refine Text.wp_region_text (fun w' => w'.cell? ⟨g, 0, none⟩ = some (.slice A n c) ∧ w'.cell? ⟨g, 7, none⟩ = some (.slice F f e)) [(0, 4), (1, 4), (2, 4), (3, 1), (4, 4), (5, 4), (6, 4), (7, 4), (8, 4), (9, 1), (10, 4), (11, 4), (12, 4), (13, 4), (14, 4), (16, 4), (18, 4), (19, 4), (20, 4), (22, 4), (23, 4), (24, 4), (21, 0), (25, 0), (15, 1), (17, 2), (26, 2), (27, 2), (28, 4), (29, 4)] (by kernel_rfl) (by kernel_rfl) (fun _ _ _ _ _ h => h) (⟨p0, p7⟩) ?_
    iterate 3 (refine Text.purek rfl rfl (fun K hK => ⟨_, fun w' => by go_simp <;> rfl, ?_⟩); go_simp; refine hK _ ?_; clear hK K)
    (refine Text.readk rfl rfl (fun K hK => ⟨_, by go_simp <;> rfl, ?_⟩); go_simp; refine hK _ ?_; clear hK K)
    iterate 5 (refine Text.purek rfl rfl (fun K hK => ⟨_, fun w' => by go_simp <;> rfl, ?_⟩); go_simp; refine hK _ ?_; clear hK K)
    (refine Text.readk rfl rfl (fun K hK => ⟨_, by go_simp <;> rfl, ?_⟩); go_simp; refine hK _ ?_; clear hK K)
    iterate 12 (refine Text.purek rfl rfl (fun K hK => ⟨_, fun w' => by go_simp <;> rfl, ?_⟩); go_simp; refine hK _ ?_; clear hK K)
    iterate 2 (refine Text.heldk rfl rfl (fun K hK => ⟨_, fun w' hw' => by go_simp <;> rfl, ?_⟩); go_simp; refine hK _ ?_; clear hK K)
    (refine Text.readk rfl rfl (fun K hK => ⟨_, by go_simp <;> rfl, ?_⟩); go_simp; refine hK _ ?_; clear hK K)
    refine Text.effw rfl rfl (fun K hK => ?_)
    go_simp
    refine (rsurpl_any A n c ws P p q ps _ (HWk.out.kept stay_wt HX2.out) (HPk.out.kept stay_pl HX2.out) HWS.out (by have := HNP.out; omega)).mono ?_
    rintro e2 w3 ⟨A3, c3, rfl, r1, r2⟩
    have HX3 := Lib.hid (below_then HX2.out r2)
    have HG3 := Lib.hid r1
    clear r1 r2
    refine hK _ _ ⟨cell_kept HX3.out p0, cell_kept HX3.out p7⟩ ?_
    clear hK K
    refine Text.effw rfl rfl (fun K hK => ?_)
    go_simp
    refine (rsurpl_any A n c ws F f e sb _ (HWk.out.kept stay_wt HX3.out) (HFk.out.kept stay_pl HX3.out) HWS.out (by have := HF9.out; omega)).mono ?_
    rintro e2 w4 ⟨A4, c4, rfl, r1, r2⟩
    have HX4 := Lib.hid (below_then HX3.out r2)
    have HG4 := Lib.hid r1
    have HG34 := Lib.hid (HG3.out.kept stay_int r2)
    clear r1 r2
    refine hK _ _ ⟨cell_kept HX4.out p0, cell_kept HX4.out p7⟩ ?_
    clear hK K
    refine Text.effw rfl rfl (fun K hK => ?_)
    go_simp
    obtain ⟨G, hG⟩ : ∃ G, G = greaterB (surplL ws ps) (surplL ws sb) := ⟨_, rfl⟩
    have HGE := Lib.hid hG
    clear hG
    refine (rgreat_any A3 n c3 _ A4 c4 _ w4 HG34.out HG4.out).mono ?_
    rintro e2 w5 ⟨rfl, r2⟩
    rw [← HGE.out]
    have HX5 := Lib.hid (below_then HX4.out r2)
    clear r2
    refine hK _ _ ⟨cell_kept HX5.out p0, cell_kept HX5.out p7⟩ ?_
    clear hK K
    have HB2 := Lib.hid (HB1.out.kept HX5.out)
    have HK2 : Hid (Kp (· = g) w w5) := Lib.hid (HK1.out.trans (Kp.of_below HX5.out))
    have HS5 := Lib.hid (HS1.out.kept HX5.out)
    iterate 2 (refine Text.purek rfl rfl (fun K hK => ⟨_, fun w' => by go_simp <;> rfl, ?_⟩); go_simp; refine hK _ ?_; clear hK K)
    refine Text.done ?_
    cases G with
    | true =>
     have HR : Hid (rlook ws hs none false bu [] ps ⟨sn, true, sb⟩ = ⟨S, true, ps⟩) := Lib.hid (by rw [rlk_nil HST.out, HS.out, ← HGE.out]; rfl)
     go_wp2_with (first
      | ((with_reducible show OpN); refine wpList_store1 _ rfl 4 (.tmp 82) (.const (.bool true)) rfl (sz1 _ szBool _) g 6 _ _ (.bool true) rfl rfl HB2.out rfl rfl (by show 6 < 8; decide) ?_; intro w7 a1 a2 a3; have HB7 : Hid (BL w7 g 106 (seC A n c B m d (-1) false bu S true F f e)) := Lib.hid a1; have HK7 : Hid (Kp (· = g) w w7) := Lib.hid (HK2.out.trans a2); clear a1 a2 a3)
      | ((with_reducible show OpN); refine wpList_store1 _ rfl 34 (.tmp 84) (.tmp 80) rfl (sz1 _ szRps _) g 7 _ _ (.slice P p q) rfl rfl HB7.out rfl rfl (by show 7 < 8; decide) ?_; intro w8 a1 a2 a3; have HB8 : Hid (BL w8 g 106 (seC A n c B m d (-1) false bu S true P p q)) := Lib.hid a1; have HK8 : Hid (Kp (· = g) w w8) := Lib.hid (HK7.out.trans a2); clear a1 a2 a3))
     refine bodyPost_ret (results_none rfl _ _ _) rfl ?_
     exact ⟨⟨_, rfl⟩, by rw [HR.out]; exact ⟨P, p, q, HB8.out, LS.kpg HP.out HK8.out HGP.out, HGP.out, by have := HNP.out; omega, HSB.out, HK8.out⟩⟩
    | false =>
     have HR : Hid (rlook ws hs none false bu [] ps ⟨sn, true, sb⟩ = ⟨S, true, sb⟩) := Lib.hid (by rw [rlk_nil HST.out, HS.out, ← HGE.out]; rfl)
     go_wp2_with fail
     refine bodyPost_ret (results_none rfl _ _ _) rfl ?_
     exact ⟨⟨_, rfl⟩, by rw [HR.out]; exact HS5.out⟩
 | cons y r ih =>
  intro k P p q ps s w hdk hkn hp9 hsn hA hBB hP hgP hSS
  have hn9 := hA.len_le
  have hy : ws[k]? = some y := by
   have h9 : (ws.drop k)[0]? = some y := by rw [hdk]; rfl
   rw [List.getElem?_drop] at h9
   simpa using h9
  have hdk1 : ws.drop (k + 1) = r := by
   rw [← List.drop_drop, hdk]; rfl
  have hkn' : k + (r.length + 1) = n := by simpa using hkn
  have hkl : k < n := by omega
  have hkI : (k : Int) < (n : Int) := by omega
  have hp99 : (p : Int) + 16 * (r.length : Int) + 16 ≤ 1000 := by have h9 := hp9; rw [List.length_cons] at h9; omega
  obtain ⟨k1, hk1⟩ : ∃ a, a = k + 1 := ⟨_, rfl⟩
  have HK1E := Lib.hid hk1
  have hwk : IntKind.i64.wrap ((k : Int) + 1) = (k1 : Int) := by rw [IntWalk.i64_in _ (by omega), hk1]; omega
  have IH := Lib.hid (fun (P : Option Addr) (p q : Nat) (ps : List Pl) (s : RS) (w : World) => ih k1 P p q ps s w (by rw [hk1]; exact hdk1) (by rw [hk1]; omega))
  have HY := Lib.hid hy
  have HWT := Lib.hid (wants_wt hw y (List.mem_of_getElem? hy))
  have HOY := Lib.hid (hwo k y hy)
  have HP99 := Lib.hid hp99
  obtain ⟨sn, sf, sb⟩ := s
  obtain ⟨F, f, e, hB, hL, hF, hf, _, _⟩ := hSS
  have HB := Lib.hid hB
  have HBL := Lib.hid hL
  have HFF := Lib.hid hF
  have HF9 := Lib.hid hf
  have hsn' : sn ≤ bu := hsn
  obtain ⟨S, hS⟩ : ∃ S, S = sn + 1 := ⟨_, rfl⟩
  have HS := Lib.hid hS
  have hwr : IntKind.i64.wrap ((sn : Int) + 1) = (S : Int) := by rw [IntWalk.i64_in _ (by omega)]; omega
  have HSB : Hid (S ≤ bu + 1) := Lib.hid (by omega)
  have q5 := hB.get (j := 5) rfl
  have HH := Lib.hid hA
  have HHB := Lib.hid hBB
  have HP := Lib.hid hP
  have HGP := Lib.hid hgP
  have HGA := Lib.hid hgA
  have HGB := Lib.hid hgB
  have HWS := Lib.hid hw
  have HP9 := Lib.hid hp9
  clear hB hL hF hf hsn' hsn hS hA hBB hP hp9
  go_enter Tryz.func54, Tryz.ntmps54
  go_wp2_with (first
   | ((with_reducible show OpN); refine wpList_store1 _ rfl 3 (.tmp 19) (.tmp 17) rfl (sz1 _ szIn _) g 5 _ _ (.int .i64 (S : Int)) rfl rfl HB.out rfl rfl (by show 5 < 8; decide) ?_; intro w1 a1 a2 a3; have HB1 : Hid (BL w1 g 106 (seC A n c B m d (-1) false bu S sf F f e)) := Lib.hid a1; have HK1 : Hid (Kp (· = g) w w1) := Lib.hid a2; clear a1 a2 a3))
  have HS1 : Hid (SSt g A n c B m d (-1) false bu w w1 ⟨S, sf, sb⟩) := Lib.hid ⟨F, f, e, HB1.out, LS.kpg HBL.out HK1.out HFF.out, HFF.out, HF9.out, HSB.out, HK1.out⟩
  have p0 := HB1.out.get (j := 0) rfl
  have p2 := HB1.out.get (j := 2) rfl
  have p3 := HB1.out.get (j := 3) rfl
  have p4 := HB1.out.get (j := 4) rfl
  have p5 := HB1.out.get (j := 5) rfl
  have p6 := HB1.out.get (j := 6) rfl
  clear q5
  have HGC := Lib.hid HS1.out.lt
  have f1 : ((k : Int) == (n : Int)) = false := by rw [beq_eq_false_iff_ne]; omega
  obtain ⟨gw, ow, eA, _, hat⟩ := (LS.kpg HH.out HK1.out HGA.out).wt_at (Below.refl _ w1) HY.out
  have HAT := Lib.hid hat
  subst eA
  clear hdk hkn hy hdk1 hkn' hp99 hk1 ih hat
  cases c1 : decide (S > bu) with
  | true =>
   have hc1 := of_decide_eq_true c1
   have c2 : decide (bu < S) = true := c1
   have c3 : decide ((S : Int) > (bu : Int)) = true := decide_eq_true (by omega)
   have c4 : decide ((bu : Int) < (S : Int)) = true := c3
   clear hc1
   have HR : Hid (rlook ws hs none false bu (y :: r) ps ⟨sn, sf, sb⟩ = ⟨S, sf, sb⟩) := Lib.hid (by rw [rlk_stop (by show (decide (bu < sn + 1) || _) = true; rw [decide_eq_true (by have := of_decide_eq_true c1; have := HS.out; omega)]; rfl), HS.out])
   refine Text.wp_region_text (fun _ => True) [(0, 4), (1, 4), (2, 4), (4, 4), (5, 4), (6, 4), (3, 1), (7, 1), (8, 4), (9, 4), (10, 4), (11, 4), (12, 4), (13, 4), (14, 4), (15, 4), (16, 4), (17, 4), (18, 4), (19, 4), (20, 4)] (by kernel_rfl) (by kernel_rfl) (fun _ _ _ _ _ h => h) (trivial) ?_
   iterate 6 (refine Text.purek rfl rfl (fun K hK => ⟨_, fun w' => by go_simp <;> rfl, ?_⟩); go_simp; refine hK _ ?_; clear hK K)
   iterate 2 (refine Text.readk rfl rfl (fun K hK => ⟨_, by go_simp <;> rfl, ?_⟩); go_simp; refine hK _ ?_; clear hK K)
   iterate 2 (refine Text.purek rfl rfl (fun K hK => ⟨_, fun w' => by go_simp <;> rfl, ?_⟩); go_simp; refine hK _ ?_; clear hK K)
   iterate 10 (refine Text.skipk (.inr (.inr rfl)) rfl rfl (fun K hK => ?_); go_simp; refine hK _ ?_; clear hK K)
   (refine Text.purek rfl rfl (fun K hK => ⟨_, fun w' => by go_simp <;> rfl, ?_⟩); go_simp; refine hK _ ?_; clear hK K)
   refine Text.done ?_
   go_wp2_with fail
   refine bodyPost_ret (results_none rfl _ _ _) rfl ?_
   exact ⟨⟨_, rfl⟩, by rw [HR.out]; exact HS1.out.kept (Below.refl _ _).drew⟩
  | false =>
   have hc1 := of_decide_eq_false c1
   have c2 : decide (bu < S) = false := c1
   have c3 : decide ((S : Int) > (bu : Int)) = false := decide_eq_false (by omega)
   have c4 : decide ((bu : Int) < (S : Int)) = false := c3
   clear hc1
   have HST : Hid ((⟨sn + 1, sf, sb⟩ : RS).stop false bu = false) := Lib.hid (by show (decide (bu < sn + 1) || (false && sf)) = false; rw [decide_eq_false (by have := of_decide_eq_false c1; have := HS.out; omega)]; rfl)
   obtain ⟨SF, hSF⟩ : ∃ z, z = rlook ws hs none false bu (y :: r) ps ⟨sn, sf, sb⟩ := ⟨_, rfl⟩
   obtain ⟨fL, hfL⟩ : ∃ z, z = (fun c s => rlook ws hs none false bu r (addL y ps c) s) := ⟨_, rfl⟩
   obtain ⟨FL, hFL⟩ : ∃ z, z = freeL ws hs ps y := ⟨_, rfl⟩
   obtain ⟨NF, hNF⟩ : ∃ z, z = FL.length := ⟨_, rfl⟩
   obtain ⟨NW, hNW⟩ : ∃ z, z = (withoutL y ps).length := ⟨_, rfl⟩
   obtain ⟨KF, hKF⟩ : ∃ z, z = min NF NW := ⟨_, rfl⟩
   have HGO : Hid (rgo false bu fL (choL FL (0, (KF : Int))) ⟨S, sf, sb⟩ = SF) := Lib.hid (by rw [hSF, rlk_cons HST.out, hfL, choices_none, ← hFL, ← hNF, ← hNW, ← hKF, HS.out])
   have hNF12 : NF ≤ 12 := by
    rw [hNF, hFL]
    unfold freeL
    rw [List.length_map]
    refine Nat.le_trans (List.length_filter_le _ _) ?_
    rw [prefL_len, HHB.out.1]; exact hm12
   have HNF12 := Lib.hid hNF12
   have HSF := Lib.hid hSF
   have HFL := Lib.hid hFL
   have HNF := Lib.hid hNF
   have HNW := Lib.hid hNW
   have HFLF := Lib.hid hfL
   have HKFW : Hid (KF ≤ NW) := Lib.hid (by omega)
   have HKF12 : Hid (KF ≤ 12) := Lib.hid (by omega)
   have hmin : min (NF : Int) (NW : Int) = (KF : Int) := by omega
   have HNFL : Hid (∀ i ∈ FL, wfI i) := Lib.hid (fun i hi => by
    rw [hFL] at hi
    unfold freeL at hi
    obtain ⟨h0, h1, rfl⟩ := List.mem_map.1 hi
    exact (LS.okHd HHB.out h0 ((prefL_perm hs).mem_iff.1 (List.mem_filter.1 h1).1)).1)
   clear hSF hfL hFL hNF hNW hKF hNF12
   refine Text.wp_region_text (fun _ => True) [(0, 4), (1, 4), (2, 4), (4, 4), (5, 4), (6, 4), (3, 1), (7, 1), (8, 4), (9, 4), (10, 4), (11, 4), (12, 4), (13, 1), (14, 4), (15, 4), (16, 4), (17, 4), (18, 4), (19, 4), (20, 4)] (by kernel_rfl) (by kernel_rfl) (fun _ _ _ _ _ h => h) (trivial) ?_
   iterate 6 (refine Text.purek rfl rfl (fun K hK => ⟨_, fun w' => by go_simp <;> rfl, ?_⟩); go_simp; refine hK _ ?_; clear hK K)
   iterate 2 (refine Text.readk rfl rfl (fun K hK => ⟨_, by go_simp <;> rfl, ?_⟩); go_simp; refine hK _ ?_; clear hK K)
   iterate 5 (refine Text.purek rfl rfl (fun K hK => ⟨_, fun w' => by go_simp <;> rfl, ?_⟩); go_simp; refine hK _ ?_; clear hK K)
   (refine Text.readk rfl rfl (fun K hK => ⟨_, by go_simp <;> rfl, ?_⟩); go_simp; refine hK _ ?_; clear hK K)
   (refine Text.purek rfl rfl (fun K hK => ⟨_, fun w' => by go_simp <;> rfl, ?_⟩); go_simp; refine hK _ ?_; clear hK K)
   iterate 4 (refine Text.skipk (.inr (.inr rfl)) rfl rfl (fun K hK => ?_); go_simp; refine hK _ ?_; clear hK K)
   iterate 2 (refine Text.purek rfl rfl (fun K hK => ⟨_, fun w' => by go_simp <;> rfl, ?_⟩); go_simp; refine hK _ ?_; clear hK K)
   refine Text.done ?_
   have HS2 := Lib.hid (HS1.out.kept (Below.refl _ _).drew)
   have HAT2 := Lib.hid (At.kept HAT.out (Below.refl _ w1).drew)
   clear p0 p2 p3 p4 p5 p6 c1 c2 c3 c4
   obtain ⟨wa, hwa⟩ : ∃ z, z = w1.drew := ⟨_, rfl⟩
   rw [← hwa] at HS2 HAT2 ⊢
   clear hwa
   obtain ⟨F2, f2, e2, hB2, hL2, hF2, hf2, _, hK2⟩ := HS2.out
   have p0 := hB2.get (j := 0) rfl
   have HBx := Lib.hid hB2
   clear hB2 hL2 hF2 hf2 hK2
   go_wp2_with (first
    | ((with_reducible show OpW 91); refine wpList_loadv _ rfl 42 (.tmp 90) rfl 4 (by kernel_rfl) gw (ow + k * 4) (wtL y) (by go_simp) HAT2.out rfl ?_)
    | ((with_reducible show OpW 6); refine wpList_alloc _ rfl 42 rfl wtZ rwtZero ?_; intro w3 a1 a2 a3; have HV3 := Lib.hid a1; have HX3 := Lib.hid a2; clear a1 a2 a3)
    | ((with_reducible show OpN); refine wpList_storev _ rfl 42 (.tmp 6) (.tmp 91) rfl 4 (by kernel_rfl) wa.heap.size 0 _ wtZ (wtL y) rfl rfl HV3.out rfl (one_wt y) (by decide) ?_; intro w4 a1 a2 a3; have HV4 : Hid (BL w4 wa.heap.size 42 (wtL y)) := Lib.hid a1; have HX4 : Hid (Below wa.heap.size wa w4) := Lib.hid (((Kp.of_below (S := fun _ => False) HX3.out).after a2 (fun i hi e => by omega)).below (Nat.le_refl _) (fun _ h => h.elim)); clear a1 a2 a3)
    | fail)
   have HSa := Lib.hid (HS2.out.kept HX4.out)
   have HZ4 := Lib.hid HV4.out.lt
   have p0 := (HBx.out.kept HX4.out).get (j := 0) rfl
   have p1 := (HBx.out.kept HX4.out).get (j := 1) rfl
   obtain ⟨gy, hgy⟩ : ∃ z, z = wa.heap.size := ⟨_, rfl⟩
   have HGY : Hid (g < gy) := Lib.hid (by rw [hgy]; exact HS2.out.lt)
   rw [← hgy] at HV4 HZ4 ⊢
   clear hgy
   obtain ⟨wb, hwb⟩ : ∃ z, z = w4 := ⟨_, rfl⟩
   rw [← hwb] at HSa HV4 HZ4 p0 p1 ⊢
   clear hwb
   have KB := Lib.hid HSa.out.kp.drew
   have HVd := Lib.hid (BL.all (HV4.out.kept (Below.refl _ wb).drew))
   refine Text.wp_region_text (fun w' => At w' gy 0 (wtL y)) [(0, 4), (1, 4), (2, 4), (4, 4), (5, 4), (6, 4), (8, 4), (9, 0), (3, 1), (7, 1), (10, 2), (11, 4)] (by kernel_rfl) (by kernel_rfl) (fun _ _ _ _ _ h => h) (HVd.out) ?_
   iterate 7 (refine Text.purek rfl rfl (fun K hK => ⟨_, fun w' => by go_simp <;> rfl, ?_⟩); go_simp; refine hK _ ?_; clear hK K)
   refine Text.heldk rfl rfl (fun K hK => ?_)
   refine ⟨_, fun w' hw' => exec_loadv 42 (.tmp 6) rfl 4 (by kernel_rfl) gy 0 (wtL y) rfl hw' rfl, ?_⟩
   go_simp
   refine hK _ ?_
   clear hK K
   iterate 2 (refine Text.readk rfl rfl (fun K hK => ⟨_, by go_simp <;> rfl, ?_⟩); go_simp; refine hK _ ?_; clear hK K)
   refine Text.eff rfl rfl (fun K hK => ?_)
   go_simp
   refine (rfree_any _ n c ws B m d hs P p q ps y _ (LS.kpg HH.out KB.out HGA.out) (LS.kpg HHB.out KB.out HGB.out) (LS.kpg HP.out KB.out HGP.out) HWS.out HWT.out (by omega) (by have := HP99.out; omega)).mono ?_
   rintro e9 w6 ⟨A6, c6, rfl, r1, r2, r3⟩
   rw [← HFL.out, ← HNF.out] at r1 ⊢
   have HF6 := Lib.hid r1
   have HA6 : Hid (∀ a, A6 = some a → a.block ≠ g) := Lib.hid (fun a ha => by have h8 := (r3 a ha).1; have h9 := HSa.out.lt; have h7 : wb.heap.size ≤ a.block := h8; omega)
   have HS6 := Lib.hid ((HSa.out.kept (Below.refl _ _).drew).kept r2)
   have HV6 : Hid (BL w6 gy 42 (wtL y)) := Lib.hid ((HV4.out.kept (Below.refl _ _).drew).kept r2)
   clear r1 r2 r3
   refine hK _ _ (BL.all HV6.out) ?_
   clear hK K p0 p1
   (refine Text.purek rfl rfl (fun K hK => ⟨_, fun w' => by go_simp <;> rfl, ?_⟩); go_simp; refine hK _ ?_; clear hK K)
   refine Text.done ?_
   have KC := Lib.hid HS6.out.kp
   go_wp2_with (first
    | ((with_reducible show OpW 105); refine wpList_loadv _ rfl 42 (.tmp 6) rfl 4 (by kernel_rfl) gy 0 (wtL y) rfl (BL.all HV6.out) rfl ?_)
    | (go_at_call 19; refine (rwithout_any y P p q ps w6 HWT.out (LS.kpg HP.out KC.out HGP.out)).mono ?_; rintro e9 w7 ⟨A7, c7, rfl, r1, r2, _⟩; rw [← HNW.out]; have HF7 := Lib.hid (HF6.out.kept stay_int r2); have HS7 := Lib.hid (HS6.out.kept r2); have HV7 := Lib.hid (HV6.out.kept r2); clear r1 r2; obtain ⟨F7, f7, e7, hB7, _⟩ := HS7.out; have p2 := hB7.get (j := 2) rfl; clear hB7))
   clear p2
   have HLOW : Hid (gy < w7.heap.size) := Lib.hid HV7.out.lt
   go_loopw [10] (fun kv wr => ∃ (kk : Int) (sc : RS), kv = .int .i64 kk ∧ -1 ≤ kk ∧ kk ≤ (KF : Int) ∧ Hid (rgo false bu fL (choL FL (0, kk)) sc = SF) ∧ Hid (SSt g (some ⟨gw, ow, none⟩) n c B m d (-1) false bu w wr sc) ∧ Hid (BL wr gy 42 (wtL y)) ∧ Hid (LS rInt 1 8 wr A6 NF c6 FL)) (fun kv _ => (intOf kv - 0 + 1).toNat)
   case atStart => exact ⟨(KF : Int), ⟨S, sf, sb⟩, rfl, by omega, by omega, HGO, HS7, HV7, HF7⟩
   case round =>
    obtain ⟨kk, sc, rfl, hk0, hkf, hgo, hss, hv, hfl⟩ := hrel
    obtain ⟨wx, hwx⟩ : ∃ x, x = wr := ⟨_, rfl⟩
    rw [← hwx] at hss hv hfl ⊢
    clear hwx
    by_cases hlt : 0 ≤ kk
    ·
     obtain ⟨kn, hkn⟩ : ∃ a : Nat, kk = (a : Int) := ⟨kk.toNat, by omega⟩
     subst hkn
     have HKF := Lib.hid hkf
     have hkn12 : kn ≤ 12 := by have := HKF12.out; omega
     have HKNW : Hid (kn ≤ NW) := Lib.hid (by have := HKFW.out; omega)
     have t1 : decide ((kn : Int) ≥ 0) = true := decide_eq_true (by omega)
     have t2 : decide (0 ≤ (kn : Int)) = true := decide_eq_true (by omega)
     have hwk2 : IntKind.i64.wrap ((kn : Int) - 1) = (kn : Int) - 1 := IntWalk.i64_in _ (by omega)
     obtain ⟨CL, hCL⟩ : ∃ z, z = combos FL kn := ⟨_, rfl⟩
     obtain ⟨RL, hRL⟩ : ∃ z, z = choL FL (0, (kn : Int) - 1) := ⟨_, rfl⟩
     have HGX : Hid (rgo false bu fL (CL ++ RL) sc = SF) := Lib.hid (by
      have h9 := hgo.out
      rw [choL_step _ (by omega) hlt, Int.toNat_natCast, ← hCL, ← hRL] at h9
      exact h9)
     have HCX : Hid (∀ x ∈ CL, x.length = kn ∧ ∀ i ∈ x, wfI i) := Lib.hid (fun x hx => by
      rw [hCL] at hx
      obtain ⟨h1, h2⟩ := combos_sub _ _ _ hx
      exact ⟨h2, fun i hi => HNFL.out i (h1.subset hi)⟩)
     obtain ⟨N9, hN9⟩ : ∃ z, z = CL.length := ⟨_, rfl⟩
     have HN9 := Lib.hid hN9
     have hN94 : (N9 : Int) ≤ 4096 := by
      have h9 : CL.length ≤ 4096 := by rw [hCL]; exact combos_4096 _ (by rw [← HNF.out]; exact HNF12.out)
      rw [hN9]; omega
     have HCE := Lib.hid hCL
     have HRE := Lib.hid hRL
     have HKN := Lib.hid hkn12
     clear hCL hRL hN9
     go_wp2_with (first
      | (go_at_call 75; refine (rchoi_any kn A6 NF c6 FL wx hfl.out HNF12.out (by have := HKN.out; omega)).mono ?_; rintro e9 w9 ⟨v9, rfl, r1, r2⟩; rw [← HCE.out] at r1; obtain ⟨A9, c9, e9⟩ := r1.form; rw [← HN9.out] at e9; subst e9; have HC9 : Hid (OC w9 wx.heap.size (.slice A9 N9 c9) CL) := Lib.hid r1; have HS9 := Lib.hid (hss.out.kept r2); have HV9 := Lib.hid (hv.out.kept r2); have HF9' := Lib.hid (hfl.out.kept stay_int r2); clear r1 r2))
     have HGB9 : Hid (g < wx.heap.size) := Lib.hid hss.out.lt
     go_loopw [12] (fun iv wr => ∃ (i : Nat) (sd : RS), iv = .int .i64 (i : Int) ∧ i ≤ N9 ∧ Hid (rgo false bu fL (CL.drop i ++ RL) sd = SF) ∧ Hid (SSt g (some ⟨gw, ow, none⟩) n c B m d (-1) false bu w wr sd) ∧ Hid (BL wr gy 42 (wtL y)) ∧ Hid (LS rInt 1 8 wr A6 NF c6 FL) ∧ Hid (OC wr wx.heap.size (.slice A9 N9 c9) CL)) (fun iv _ => N9 - (intOf iv).toNat)
     case atStart => exact ⟨0, sc, rfl, by omega, Lib.hid (by simpa using HGX.out), HS9, HV9, HF9', HC9⟩
     case round =>
      obtain ⟨i, sd, rfl, hi, hgo2, hss2, hv2, hfl2, hoc2⟩ := hrel
      obtain ⟨wz, hwz⟩ : ∃ x, x = wr := ⟨_, rfl⟩
      rw [← hwz] at hss2 hv2 hfl2 hoc2 ⊢
      clear hwz
      by_cases hlt2 : i < N9
      ·
       obtain ⟨x, hx⟩ : ∃ x, CL[i]? = some x := ⟨_, List.getElem?_eq_getElem (by rw [← HN9.out]; exact hlt2)⟩
       have HX := Lib.hid hx
       have HDR := Lib.hid (drop_at hx)
       have HXP := Lib.hid (HCX.out x (List.mem_of_getElem? hx))
       obtain ⟨dn, df, db⟩ := sd
       obtain ⟨Fz, fz, ez, hBz, hLz, hFz, hfz, hdn, hKz⟩ := hss2.out
       have p3 := hBz.get (j := 3) rfl
       have p4 := hBz.get (j := 4) rfl
       have p5 := hBz.get (j := 5) rfl
       have p6 := hBz.get (j := 6) rfl
       have HKZ := Lib.hid hKz
       have hdnI : (dn : Int) ≤ (bu : Int) + 1 := by have h9 : dn ≤ bu + 1 := hdn; omega
       clear hx hBz hLz hFz hfz hdn hKz
       cases d1 : decide (dn > bu) with
       | true =>
        have hd1 := of_decide_eq_true d1
        have d2 : decide (bu < dn) = true := d1
        have d3 : decide ((dn : Int) > (bu : Int)) = true := decide_eq_true (by omega)
        have d4 : decide ((bu : Int) < (dn : Int)) = true := d3
        clear hd1
        have HFIN : Hid ((⟨dn, df, db⟩ : RS) = SF) := Lib.hid (by
         have h9 := hgo2.out
         rw [rgo_halt (by show (decide (bu < dn) || _) = true; rw [d2]; rfl)] at h9
         exact h9)
        go_wp2_with fail
        refine Text.wp_region_text (fun _ => True) [(0, 4), (1, 4), (2, 4), (4, 4), (5, 4), (6, 4), (3, 1), (7, 1), (8, 4), (9, 4), (10, 4), (11, 4), (12, 4), (13, 4), (14, 4), (15, 4), (16, 4), (17, 4), (18, 4), (19, 4), (20, 4)] (by kernel_rfl) (by kernel_rfl) (fun _ _ _ _ _ h => h) (trivial) ?_
        iterate 6 (refine Text.purek rfl rfl (fun K hK => ⟨_, fun w' => by go_simp <;> rfl, ?_⟩); go_simp; refine hK _ ?_; clear hK K)
        iterate 2 (refine Text.readk rfl rfl (fun K hK => ⟨_, by go_simp <;> rfl, ?_⟩); go_simp; refine hK _ ?_; clear hK K)
        iterate 2 (refine Text.purek rfl rfl (fun K hK => ⟨_, fun w' => by go_simp <;> rfl, ?_⟩); go_simp; refine hK _ ?_; clear hK K)
        iterate 10 (refine Text.skipk (.inr (.inr rfl)) rfl rfl (fun K hK => ?_); go_simp; refine hK _ ?_; clear hK K)
        (refine Text.purek rfl rfl (fun K hK => ⟨_, fun w' => by go_simp <;> rfl, ?_⟩); go_simp; refine hK _ ?_; clear hK K)
        refine Text.done ?_
        go_wp2_with fail
        refine bodyPost_ret (results_none rfl _ _ _) rfl ?_
        exact ⟨⟨_, rfl⟩, by rw [← HSF.out, ← HFIN.out]; exact hss2.out.kept (Below.refl _ _).drew⟩
       | false =>
        have hd1 := of_decide_eq_false d1
        have d2 : decide (bu < dn) = false := d1
        have d3 : decide ((dn : Int) > (bu : Int)) = false := decide_eq_false (by omega)
        have d4 : decide ((bu : Int) < (dn : Int)) = false := d3
        have HDN : Hid (dn ≤ bu) := Lib.hid (by omega)
        clear hd1
        go_wp2_with fail
        refine Text.wp_region_text (fun _ => True) [(0, 4), (1, 4), (2, 4), (4, 4), (5, 4), (6, 4), (3, 1), (7, 1), (8, 4), (9, 4), (10, 4), (11, 4), (12, 4), (13, 1), (14, 4), (15, 4), (16, 4), (17, 4), (18, 4), (19, 4), (20, 4)] (by kernel_rfl) (by kernel_rfl) (fun _ _ _ _ _ h => h) (trivial) ?_
        iterate 6 (refine Text.purek rfl rfl (fun K hK => ⟨_, fun w' => by go_simp <;> rfl, ?_⟩); go_simp; refine hK _ ?_; clear hK K)
        iterate 2 (refine Text.readk rfl rfl (fun K hK => ⟨_, by go_simp <;> rfl, ?_⟩); go_simp; refine hK _ ?_; clear hK K)
        iterate 5 (refine Text.purek rfl rfl (fun K hK => ⟨_, fun w' => by go_simp <;> rfl, ?_⟩); go_simp; refine hK _ ?_; clear hK K)
        (refine Text.readk rfl rfl (fun K hK => ⟨_, by go_simp <;> rfl, ?_⟩); go_simp; refine hK _ ?_; clear hK K)
        (refine Text.purek rfl rfl (fun K hK => ⟨_, fun w' => by go_simp <;> rfl, ?_⟩); go_simp; refine hK _ ?_; clear hK K)
        iterate 4 (refine Text.skipk (.inr (.inr rfl)) rfl rfl (fun K hK => ?_); go_simp; refine hK _ ?_; clear hK K)
        iterate 2 (refine Text.purek rfl rfl (fun K hK => ⟨_, fun w' => by go_simp <;> rfl, ?_⟩); go_simp; refine hK _ ?_; clear hK K)
        refine Text.done ?_
        go_wp2_with fail
        obtain ⟨Az, oz, cz, u, eA9, q8, hu⟩ := hoc2.out.at_ HX.out
        obtain ⟨A4, c4, e4, hxl, hfr⟩ := hu.ls HXP.out.2 (by rw [HXP.out.1]; have := HKN.out; unfold lim; omega)
        rw [HXP.out.1] at e4 hxl
        subst e4
        have eA : A9 = some ⟨Az, oz, none⟩ := by cases eA9; rfl
        subst eA
        have HXL := Lib.hid hxl
        have q8d : wz.drew.drew.cell? ⟨Az, oz + i, none⟩ = some (.slice A4 kn c4) := q8
        have hiI : (i : Int) < (N9 : Int) := by omega
        have HVd := Lib.hid (BL.all (hv2.out.kept (Below.refl _ wz).drew.drew))
        have KD := Lib.hid (HKZ.out.drew.drew)
        have HZZ : Hid (Below wz.heap.size wz wz.drew.drew) := Lib.hid (Below.refl _ _).drew.drew
        have HSd := Lib.hid (hss2.out.kept (Below.refl _ wz).drew.drew)
        clear hu hxl hfr eA9 q8
        refine Text.wp_region_text (fun w' => At w' gy 0 (wtL y)) [(0, 4), (1, 4), (2, 4), (4, 4), (5, 4), (6, 4), (7, 4), (3, 0), (8, 1), (9, 2), (10, 2)] (by kernel_rfl) (by kernel_rfl) (fun _ _ _ _ _ h => h) (HVd.out) ?_
        iterate 7 (refine Text.purek rfl rfl (fun K hK => ⟨_, fun w' => by go_simp <;> rfl, ?_⟩); go_simp; refine hK _ ?_; clear hK K)
        refine Text.heldk rfl rfl (fun K hK => ?_)
        refine ⟨_, fun w' hw' => exec_loadv 42 (.tmp 6) rfl 4 (by kernel_rfl) gy 0 (wtL y) rfl hw' rfl, ?_⟩
        go_simp
        refine hK _ ?_
        clear hK K
        (refine Text.readk rfl rfl (fun K hK => ⟨_, by go_simp <;> rfl, ?_⟩); go_simp; refine hK _ ?_; clear hK K)
        refine Text.eff rfl rfl (fun K hK => ?_)
        go_simp
        refine (radd_any y P p q ps A4 kn c4 x _ HWT.out HOY.out (LS.kpg HP.out KD.out HGP.out) (HXL.out.kept stay_int (Below.refl _ _).drew.drew) (by rw [← HNW.out]; exact HKNW.out) (by have := HP99.out; omega)).mono ?_
        rintro e9' wA ⟨A8, c8, rfl, r1, r2, r3⟩
        obtain ⟨NA, hNA⟩ : ∃ z, z = (addL y ps x).length := ⟨_, rfl⟩
        rw [← hNA] at r1 ⊢
        have HNA : Hid ((NA : Int) + 16 * (r.length : Int) ≤ 1000) := Lib.hid (by
         have h8 := add_len (P := ps) (ds := x) HWT.out
         have h9 := HP99.out
         have h7 := HP.out.1
         rw [hNA]
         omega)
        have HA8 := Lib.hid r1
        have HGA8 : Hid (0 < NA → ∀ a, A8 = some a → a.block ≠ g) := Lib.hid (fun _ a ha => by have h8 := r3 a ha; have h9 := HSd.out.lt; omega)
        have HSA := Lib.hid (HSd.out.kept r2)
        have HVA := Lib.hid (hv2.out.kept (below_thenB HZZ.out HZZ.out.size r2))
        have HFA := Lib.hid (hfl2.out.kept stay_int (below_thenB HZZ.out HZZ.out.size r2))
        have HCA := Lib.hid (hoc2.out.kept (below_thenB HZZ.out HZZ.out.size r2))
        clear r1 r2 r3 hNA
        refine hK _ _ (BL.all HVA.out) ?_
        clear hK K
        refine Text.eff rfl rfl (fun K hK => ?_)
        go_simp
        refine (IH.out A8 NA c8 (addL y ps x) ⟨dn, df, db⟩ wA HNA.out HDN.out (LS.kpg HH.out HSA.out.kp HGA.out) (LS.kpg HHB.out HSA.out.kp HGB.out) HA8.out HGA8.out HSA.out.here).mono ?_
        rintro e9' wB ⟨⟨vB, rfl⟩, r1⟩
        have HSB2 := Lib.hid (r1.then HSA.out.kp)
        have HVB : Hid (BL wB gy 42 (wtL y)) := Lib.hid (r1.kp.bl HVA.out (fun e => by have := HGY.out; omega))
        have HFB : Hid (LS rInt 1 8 wB A6 NF c6 FL) := Lib.hid (LS.kpI HFA.out r1.kp (fun a ha => HA6.out a ha))
        have HCB : Hid (OC wB wx.heap.size (.slice (some ⟨Az, oz, none⟩) N9 c9) CL) := Lib.hid (HCA.out.kp r1.kp (fun b hb e => by have := HGB9.out; omega))
        have HNX : Hid (rgo false bu fL (CL.drop (i + 1) ++ RL) (fL x ⟨dn, df, db⟩) = SF) := Lib.hid (by
         have h9 := hgo2.out
         rw [HDR.out, List.cons_append, rgo_cons (Bool.or_eq_false_iff.2 ⟨d2, rfl⟩)] at h9
         exact h9)
        have HSB3 : Hid (SSt g (some ⟨gw, ow, none⟩) n c B m d (-1) false bu w wB (fL x ⟨dn, df, db⟩)) := Lib.hid (by rw [HFLF.out]; exact HSB2.out)
        clear r1
        refine hK _ _ (BL.all HVB.out) ?_
        clear hK K
        refine Text.done ?_
        go_wp2_with fail
        go_roundw
        case rel => exact ⟨i + 1, fL x ⟨dn, df, db⟩, by go_num, by omega, HNX, HSB3, HVB, HFB, HCB⟩
        case measure => simp [intOf] <;> omega
      ·
       obtain rfl : i = N9 := by omega
       have HG2 : Hid (rgo false bu fL RL sd = SF) := Lib.hid (by
        have h9 := hgo2.out
        rw [List.drop_eq_nil_of_le (by rw [← HN9.out]; exact Nat.le_refl _), List.nil_append] at h9
        exact h9)
       go_wp2_with fail
       go_roundw
       case rel => exact ⟨(kn : Int) - 1, sd, (by first | rfl | go_num), by omega, by omega, by rw [HRE.out] at HG2; exact HG2, hss2, hv2, hfl2⟩
       case measure => simp [intOf] <;> omega
    ·
     have HFIN : Hid (sc = SF) := Lib.hid (by
      have h9 := hgo.out
      rw [choL_end _ (by omega)] at h9
      exact h9)
     have t1 : decide (kk ≥ 0) = false := decide_eq_false (by omega)
     have t2 : decide (0 ≤ kk) = false := decide_eq_false (by omega)
     go_wp2_with fail
     go_end0
     exact ⟨⟨_, rfl⟩, by rw [← HSF.out, ← HFIN.out]; exact hss.out⟩
end Go.Proofs.YtklfficlegfhjaaGreat
