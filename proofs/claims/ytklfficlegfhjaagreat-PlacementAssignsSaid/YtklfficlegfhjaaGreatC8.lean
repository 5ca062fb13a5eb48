/- Several texts in one: La, Lb. -/
import Derived.Test.YtklfficlegfhjaaGreatC6
/- The reference's Find and Device. -/
namespace Go.Proofs.YtklfficlegfhjaaGreat
open Go Go.RowKit Gf Sha

theorem gfi_hit {α : Type} {q : α → Bool} {l : List α} (h : 0 ≤ gfi q l) : ∃ v ∈ l, q v = true := by
 unfold gfi at h
 cases hf : l.findIdx? q with
 | none => rw [hf] at h; simp at h
 | some k =>
  obtain ⟨hk, h1, _⟩ := List.findIdx?_eq_some_iff_getElem.1 hf
  exact ⟨_, List.getElem_mem hk, h1⟩
theorem gfi_miss {α : Type} {q : α → Bool} {l : List α} (h : ¬ 0 ≤ gfi q l) : ∀ v ∈ l, q v = false := by
 unfold gfi at h
 cases hf : l.findIdx? q with
 | none => exact List.findIdx?_eq_none_iff.1 hf
 | some k => rw [hf] at h; simp at h
theorem fdI_hit {ws : List Wt} {s : List UInt8} (h : 0 ≤ fdI ws s) : ∃ v ∈ ws, v.st = s := let ⟨v, h1, h2⟩ := gfi_hit h; ⟨v, h1, of_decide_eq_true h2⟩
theorem fdI_miss {ws : List Wt} {s : List UInt8} (h : ¬ fdI ws s ≥ 0) : ∀ v ∈ ws, v.st ≠ s := fun v hv => of_decide_eq_false (gfi_miss h v hv)
theorem hxI_hit {hs : List Hd} {d : Int} (h : 0 ≤ hxI hs d) : ∃ v ∈ hs, v.dv = d := let ⟨v, h1, h2⟩ := gfi_hit h; ⟨v, h1, of_decide_eq_true h2⟩
theorem hxI_miss {hs : List Hd} {d : Int} (h : ¬ hxI hs d ≥ 0) : ∀ v ∈ hs, v.dv ≠ d := fun v hv => of_decide_eq_false (gfi_miss h v hv)
section
set_option maxRecDepth 100000
set_option maxHeartbeats 2000000
theorem idx_gfi {α : Type} {p : α → Bool} {L : List α} {r : Int} (h : idxP p L r) : gfi p L = r := (idx_of p L r h).symm
theorem rfind_any (A : Option Addr) (n c : Nat) (L : List Wt) (s : List UInt8) (w : World) (h : LS rWt 4 40 w A n c L) :
  Calls Tryz.prog 17 #[.slice A n c, .string (strB s)] w fun e w' => e = .returned (.int .i64 (fdI L s)) ∧ w' = w := by
 have hn := h.len_le
 have H := Lib.hid h
 have HL := Lib.hid h.1
 clear h
 go_enter Tryz.func17, Tryz.ntmps17
 go_wp2_with fail
 go_loopw [5] (fun iv wr => w = wr ∧ ∃ k : Nat, k ≤ n ∧ iv = .int .i64 (k : Int) ∧ Hid (∀ x ∈ L.take k, decide (Wt.st x = s) = false)) (fun iv _ => n - (intOf iv).toNat)
 case atStart => exact ⟨rfl, 0, by omega, rfl, Lib.hid (fun x hx => by simp at hx)⟩
 case round =>
  obtain ⟨rfl, k, hk, rfl, hall⟩ := hrel
  by_cases hlt : k < n
  ·
   obtain ⟨x, g, o, cs, hs, ea, hat, hr⟩ := H.out.at_ stay_wt (Below.refl _ _) hlt
   obtain ⟨rfl, _⟩ := hr
   subst ea
   have HX := Lib.hid hs
   have q0 : w.cell? ⟨g, o + k * 4, none⟩ = some (.string (strB x.st)) := hat 0 _ rfl
   clear hs hat
   by_cases h1 : Wt.st x = s
   ·
    have e1 : ((strB x.st).toList == (strB s).toList) = true := by rw [strB_eq]; exact decide_eq_true h1
    have HK := Lib.hid h1
    clear h1
    go_wp2_with fail
    go_ret
    exact ⟨by rw [show fdI L s = gfi (fun y => decide (Wt.st y = s)) L from rfl, idx_gfi (.inr ⟨k, x, rfl, HX.out, decide_eq_true HK.out, hall.out⟩)]; rfl, rfl⟩
   ·
    have e1 : ((strB x.st).toList == (strB s).toList) = false := by rw [strB_eq]; exact decide_eq_false h1
    have HK := Lib.hid h1
    clear h1
    have HALL : Hid (∀ x ∈ L.take (k + 1), decide (Wt.st x = s) = false) := Lib.hid (fun y hy => by
     rw [take_next HX.out] at hy
     rcases List.mem_append.1 hy with h | h
     ·
      exact hall.out y h
     ·
      rw [List.mem_singleton.1 h]; exact decide_eq_false HK.out)
    go_wp2_with fail
    go_roundw
    case rel => exact ⟨trivial, k + 1, by omega, by go_num, HALL⟩
    case measure => simp [intOf]; omega
  ·
   obtain rfl : k = n := by omega
   go_wp2_with fail
   go_ret
   exact ⟨by rw [show fdI L s = gfi (fun y => decide (Wt.st y = s)) L from rfl, idx_gfi (.inl ⟨rfl, fun x hx => hall.out x (by rw [take_end HL.out]; exact hx)⟩)]; rfl, rfl⟩
theorem rdev_any (A : Option Addr) (n c : Nat) (L : List Hd) (s : Int) (w : World) (h : LS rHd 3 24 w A n c L) :
  Calls Tryz.prog 45 #[.slice A n c, .int .i64 s] w fun e w' => e = .returned (.int .i64 (hxI L s)) ∧ w' = w := by
 have hn := h.len_le
 have H := Lib.hid h
 have HL := Lib.hid h.1
 clear h
 go_enter Tryz.func45, Tryz.ntmps45
 go_wp2_with fail
 go_loopw [5] (fun iv wr => w = wr ∧ ∃ k : Nat, k ≤ n ∧ iv = .int .i64 (k : Int) ∧ Hid (∀ x ∈ L.take k, decide (Hd.dv x = s) = false)) (fun iv _ => n - (intOf iv).toNat)
 case atStart => exact ⟨rfl, 0, by omega, rfl, Lib.hid (fun x hx => by simp at hx)⟩
 case round =>
  obtain ⟨rfl, k, hk, rfl, hall⟩ := hrel
  by_cases hlt : k < n
  ·
   obtain ⟨x, g, o, cs, hs, ea, hat, hr⟩ := H.out.at_ stay_hd (Below.refl _ _) hlt
   obtain ⟨rfl, _⟩ := hr
   subst ea
   have HX := Lib.hid hs
   have q0 : w.cell? ⟨g, o + k * 3, none⟩ = some (.int .i64 x.dv) := hat 0 _ rfl
   clear hs hat
   by_cases h1 : Hd.dv x = s
   ·
    have e1 : (x.dv == s) = true := by rw [show (x.dv == s) = decide (x.dv = s) from rfl]; exact decide_eq_true h1
    have HK := Lib.hid h1
    clear h1
    go_wp2_with fail
    go_ret
    exact ⟨by rw [show hxI L s = gfi (fun y => decide (Hd.dv y = s)) L from rfl, idx_gfi (.inr ⟨k, x, rfl, HX.out, decide_eq_true HK.out, hall.out⟩)]; rfl, rfl⟩
   ·
    have e1 : (x.dv == s) = false := by rw [show (x.dv == s) = decide (x.dv = s) from rfl]; exact decide_eq_false h1
    have HK := Lib.hid h1
    clear h1
    have HALL : Hid (∀ x ∈ L.take (k + 1), decide (Hd.dv x = s) = false) := Lib.hid (fun y hy => by
     rw [take_next HX.out] at hy
     rcases List.mem_append.1 hy with h | h
     ·
      exact hall.out y h
     ·
      rw [List.mem_singleton.1 h]; exact decide_eq_false HK.out)
    go_wp2_with fail
    go_roundw
    case rel => exact ⟨trivial, k + 1, by omega, by go_num, HALL⟩
    case measure => simp [intOf]; omega
  ·
   obtain rfl : k = n := by omega
   go_wp2_with fail
   go_ret
   exact ⟨by rw [show hxI L s = gfi (fun y => decide (Hd.dv y = s)) L from rfl, idx_gfi (.inl ⟨rfl, fun x hx => hall.out x (by rw [take_end HL.out]; exact hx)⟩)]; rfl, rfl⟩
end
end Go.Proofs.YtklfficlegfhjaaGreat
/- The reference's Wants and Holders. (Printed by wip/gen_lb.py.) -/
namespace Go.Proofs.YtklfficlegfhjaaGreat
open Go Go.RowKit Gf Sha

theorem rwtZero : (Tryz.prog.info? 42).map (·.zero) = some (some (.agg wtZ.toArray)) := by kernel_rfl
theorem rhdZero : (Tryz.prog.info? 93).map (·.zero) = some (some (.agg hdZ.toArray)) := by kernel_rfl
section
set_option maxRecDepth 100000
set_option maxHeartbeats 4000000

theorem rwants_any (A : Option Addr) (n c : Nat) (l : List Wt) (w : World) (h : LS rWt 4 40 w A n c l) :
  Calls Tryz.prog 25 #[.slice A n c] w fun e w' => e = .returned (.bool (wantsB l)) ∧ Below w.heap.size w w' := by
 have hn := h.len_le
 have H := Lib.hid h
 have HL := Lib.hid h.1
 clear h
 go_enter Tryz.func25, Tryz.ntmps25
 go_wp2_with fail
 go_loopw [3] (fun iv wr => ∃ k : Nat, k ≤ n ∧ iv = .int .i64 (k : Int) ∧ Hid ((∀ x ∈ l.take k, wtB x = true) ∧ ∀ (j : Nat) (x : Wt), j < k → l[j]? = some x → ∀ v ∈ l.take j, Wt.st v ≠ Wt.st x) ∧ Hid (Below w.heap.size w wr)) (fun iv _ => n - (intOf iv).toNat)
 case atStart => exact ⟨0, by omega, rfl, Lib.hid ⟨fun x hx => by simp at hx, fun j x hj => by omega⟩, Lib.hid (Below.refl _ _)⟩
 case round =>
  obtain ⟨k, hk, rfl, hg, hb⟩ := hrel
  obtain ⟨wx, hwx⟩ : ∃ x, x = wr := ⟨_, rfl⟩
  rw [← hwx] at hb ⊢
  clear hwx
  by_cases hlt : k < n
  ·
   obtain ⟨x, g, o, cs, hs, ea, hat, hr⟩ := H.out.at_ stay_wt hb.out hlt
   obtain ⟨rfl, hok⟩ := hr
   have HX := Lib.hid hs
   have HA := Lib.hid hat
   have HM : Hid (x ∈ l) := Lib.hid (List.mem_of_getElem? hs)
   have HBAD : Hid (wtB x = false → wantsB l = false) := Lib.hid (fun h1 => by
    unfold wantsB
    have h2 : l.all wtB = false := List.all_eq_false.2 ⟨x, HM.out, by rw [h1]; decide⟩
    rw [h2, Bool.and_false, Bool.false_and])
   have hkc : k ≤ c := Nat.le_trans hk H.out.2.1
   have HP := Lib.hid ((H.out.kept stay_wt hb.out).pre hk)
   subst ea
   clear hs hat hok
   go_wp2_with (first
    | ((with_reducible show OpW 14); refine wpList_loadv _ rfl 42 (.tmp 13) rfl 4 (by kernel_rfl) g (o + k * 4) (wtL x) (by go_simp) HA.out rfl ?_)
    | ((with_reducible show OpW 4); refine wpList_alloc _ rfl 42 rfl wtZ rwtZero ?_; intro w3 a1 a2 a3; have HV3 := Lib.hid a1; have HX3 := Lib.hid a2; clear a1 a2 a3)
    | ((with_reducible show OpN); refine wpList_storev _ rfl 42 (.tmp 4) (.tmp 14) rfl 4 (by kernel_rfl) wx.heap.size 0 _ wtZ (wtL x) rfl rfl HV3.out rfl (one_wt x) (by decide) ?_; intro w4 a1 a2 a3; have HV4 : Hid (BL w4 wx.heap.size 42 (wtL x)) := Lib.hid a1; have HX4 : Hid (Below wx.heap.size wx w4) := Lib.hid (((Kp.of_below (S := fun _ => False) HX3.out).after a2 (fun i hi e => by omega)).below (Nat.le_refl _) (fun _ h => h.elim)); clear a1 a2 a3)
    | fail)
   have HB4 := Lib.hid (below_thenB hb.out hb.out.size HX4.out)
   have HP4 := Lib.hid (HP.out.kept stay_wt (HX4.out.trans (Below.refl _ _).drew))
   have q0 := HV4.out.drew.get (j := 0) rfl
   have q1 := HV4.out.drew.get (j := 1) rfl
   have q2 := HV4.out.drew.get (j := 2) rfl
   have q3 := HV4.out.drew.get (j := 3) rfl
   clear HV3 HX3
   cases f1 : decide (x.sz < 1) with
   | true =>
    have HR : Hid (wantsB l = false) := Lib.hid (HBAD.out (by have := of_decide_eq_true f1; unfold wtB; rw [decide_eq_false]; omega))
    refine Text.wp_region_text (fun _ => True) [(0, 4), (1, 1), (2, 4), (3, 4), (4, 4), (5, 4), (6, 4), (7, 4), (8, 4), (9, 4), (10, 4), (11, 4), (12, 4), (13, 4), (14, 4), (15, 4), (16, 4), (17, 4), (18, 4), (19, 4), (20, 4), (21, 4), (22, 4), (23, 4), (24, 4), (25, 4), (26, 4), (27, 4), (28, 4), (29, 4), (30, 4), (31, 4), (32, 4), (33, 4), (34, 4), (35, 4), (36, 4), (37, 4), (38, 4)] (by kernel_rfl) (by kernel_rfl) (fun _ _ _ _ _ h => h) (trivial) ?_
    (refine Text.purek rfl rfl (fun K hK => ⟨_, fun w' => by go_simp <;> rfl, ?_⟩); go_simp; refine hK _ ?_; clear hK K)
    (refine Text.readk rfl rfl (fun K hK => ⟨_, by go_simp <;> rfl, ?_⟩); go_simp; refine hK _ ?_; clear hK K)
    iterate 2 (refine Text.purek rfl rfl (fun K hK => ⟨_, fun w' => by go_simp <;> rfl, ?_⟩); go_simp; refine hK _ ?_; clear hK K)
    iterate 3 (refine Text.skipk (.inr (.inr rfl)) rfl rfl (fun K hK => ?_); go_simp; refine hK _ ?_; clear hK K)
    iterate 2 (refine Text.purek rfl rfl (fun K hK => ⟨_, fun w' => by go_simp <;> rfl, ?_⟩); go_simp; refine hK _ ?_; clear hK K)
    iterate 3 (refine Text.skipk (.inr (.inr rfl)) rfl rfl (fun K hK => ?_); go_simp; refine hK _ ?_; clear hK K)
    iterate 2 (refine Text.purek rfl rfl (fun K hK => ⟨_, fun w' => by go_simp <;> rfl, ?_⟩); go_simp; refine hK _ ?_; clear hK K)
    iterate 3 (refine Text.skipk (.inr (.inr rfl)) rfl rfl (fun K hK => ?_); go_simp; refine hK _ ?_; clear hK K)
    iterate 2 (refine Text.purek rfl rfl (fun K hK => ⟨_, fun w' => by go_simp <;> rfl, ?_⟩); go_simp; refine hK _ ?_; clear hK K)
    iterate 5 (refine Text.skipk (.inr (.inr rfl)) rfl rfl (fun K hK => ?_); go_simp; refine hK _ ?_; clear hK K)
    iterate 2 (refine Text.purek rfl rfl (fun K hK => ⟨_, fun w' => by go_simp <;> rfl, ?_⟩); go_simp; refine hK _ ?_; clear hK K)
    iterate 3 (refine Text.skipk (.inr (.inr rfl)) rfl rfl (fun K hK => ?_); go_simp; refine hK _ ?_; clear hK K)
    iterate 2 (refine Text.purek rfl rfl (fun K hK => ⟨_, fun w' => by go_simp <;> rfl, ?_⟩); go_simp; refine hK _ ?_; clear hK K)
    iterate 7 (refine Text.skipk (.inr (.inr rfl)) rfl rfl (fun K hK => ?_); go_simp; refine hK _ ?_; clear hK K)
    (refine Text.purek rfl rfl (fun K hK => ⟨_, fun w' => by go_simp <;> rfl, ?_⟩); go_simp; refine hK _ ?_; clear hK K)
    refine Text.done ?_
    go_wp2_with fail
    go_ret
    exact ⟨by rw [HR.out]; rfl, HB4.out.drew⟩
   | false =>
    cases f2 : decide (x.sz > 65536) with
    | true =>
     have HR : Hid (wantsB l = false) := Lib.hid (HBAD.out (by have := of_decide_eq_true f2; unfold wtB; rw [decide_eq_false]; omega))
     refine Text.wp_region_text (fun _ => True) [(0, 4), (1, 1), (2, 4), (3, 4), (4, 4), (5, 1), (6, 4), (7, 4), (8, 4), (9, 4), (10, 4), (11, 4), (12, 4), (13, 4), (14, 4), (15, 4), (16, 4), (17, 4), (18, 4), (19, 4), (20, 4), (21, 4), (22, 4), (23, 4), (24, 4), (25, 4), (26, 4), (27, 4), (28, 4), (29, 4), (30, 4), (31, 4), (32, 4), (33, 4), (34, 4), (35, 4), (36, 4), (37, 4), (38, 4)] (by kernel_rfl) (by kernel_rfl) (fun _ _ _ _ _ h => h) (trivial) ?_
     (refine Text.purek rfl rfl (fun K hK => ⟨_, fun w' => by go_simp <;> rfl, ?_⟩); go_simp; refine hK _ ?_; clear hK K)
     (refine Text.readk rfl rfl (fun K hK => ⟨_, by go_simp <;> rfl, ?_⟩); go_simp; refine hK _ ?_; clear hK K)
     iterate 3 (refine Text.purek rfl rfl (fun K hK => ⟨_, fun w' => by go_simp <;> rfl, ?_⟩); go_simp; refine hK _ ?_; clear hK K)
     (refine Text.readk rfl rfl (fun K hK => ⟨_, by go_simp <;> rfl, ?_⟩); go_simp; refine hK _ ?_; clear hK K)
     iterate 3 (refine Text.purek rfl rfl (fun K hK => ⟨_, fun w' => by go_simp <;> rfl, ?_⟩); go_simp; refine hK _ ?_; clear hK K)
     iterate 3 (refine Text.skipk (.inr (.inr rfl)) rfl rfl (fun K hK => ?_); go_simp; refine hK _ ?_; clear hK K)
     iterate 2 (refine Text.purek rfl rfl (fun K hK => ⟨_, fun w' => by go_simp <;> rfl, ?_⟩); go_simp; refine hK _ ?_; clear hK K)
     iterate 3 (refine Text.skipk (.inr (.inr rfl)) rfl rfl (fun K hK => ?_); go_simp; refine hK _ ?_; clear hK K)
     iterate 2 (refine Text.purek rfl rfl (fun K hK => ⟨_, fun w' => by go_simp <;> rfl, ?_⟩); go_simp; refine hK _ ?_; clear hK K)
     iterate 5 (refine Text.skipk (.inr (.inr rfl)) rfl rfl (fun K hK => ?_); go_simp; refine hK _ ?_; clear hK K)
     iterate 2 (refine Text.purek rfl rfl (fun K hK => ⟨_, fun w' => by go_simp <;> rfl, ?_⟩); go_simp; refine hK _ ?_; clear hK K)
     iterate 3 (refine Text.skipk (.inr (.inr rfl)) rfl rfl (fun K hK => ?_); go_simp; refine hK _ ?_; clear hK K)
     iterate 2 (refine Text.purek rfl rfl (fun K hK => ⟨_, fun w' => by go_simp <;> rfl, ?_⟩); go_simp; refine hK _ ?_; clear hK K)
     iterate 7 (refine Text.skipk (.inr (.inr rfl)) rfl rfl (fun K hK => ?_); go_simp; refine hK _ ?_; clear hK K)
     (refine Text.purek rfl rfl (fun K hK => ⟨_, fun w' => by go_simp <;> rfl, ?_⟩); go_simp; refine hK _ ?_; clear hK K)
     refine Text.done ?_
     go_wp2_with fail
     go_ret
     exact ⟨by rw [HR.out]; rfl, HB4.out.drew⟩
    | false =>
     cases f3 : decide (x.da < 1) with
     | true =>
      have HR : Hid (wantsB l = false) := Lib.hid (HBAD.out (by have := of_decide_eq_true f3; unfold wtB; rw [decide_eq_false]; omega))
      refine Text.wp_region_text (fun _ => True) [(0, 4), (1, 1), (2, 4), (3, 4), (4, 4), (5, 1), (6, 4), (7, 4), (8, 4), (9, 4), (10, 1), (11, 4), (12, 4), (13, 4), (14, 4), (15, 4), (16, 4), (17, 4), (18, 4), (19, 4), (20, 4), (21, 4), (22, 4), (23, 4), (24, 4), (25, 4), (26, 4), (27, 4), (28, 4), (29, 4), (30, 4), (31, 4), (32, 4), (33, 4), (34, 4), (35, 4), (36, 4), (37, 4), (38, 4)] (by kernel_rfl) (by kernel_rfl) (fun _ _ _ _ _ h => h) (trivial) ?_
      (refine Text.purek rfl rfl (fun K hK => ⟨_, fun w' => by go_simp <;> rfl, ?_⟩); go_simp; refine hK _ ?_; clear hK K)
      (refine Text.readk rfl rfl (fun K hK => ⟨_, by go_simp <;> rfl, ?_⟩); go_simp; refine hK _ ?_; clear hK K)
      iterate 3 (refine Text.purek rfl rfl (fun K hK => ⟨_, fun w' => by go_simp <;> rfl, ?_⟩); go_simp; refine hK _ ?_; clear hK K)
      (refine Text.readk rfl rfl (fun K hK => ⟨_, by go_simp <;> rfl, ?_⟩); go_simp; refine hK _ ?_; clear hK K)
      iterate 4 (refine Text.purek rfl rfl (fun K hK => ⟨_, fun w' => by go_simp <;> rfl, ?_⟩); go_simp; refine hK _ ?_; clear hK K)
      (refine Text.readk rfl rfl (fun K hK => ⟨_, by go_simp <;> rfl, ?_⟩); go_simp; refine hK _ ?_; clear hK K)
      iterate 3 (refine Text.purek rfl rfl (fun K hK => ⟨_, fun w' => by go_simp <;> rfl, ?_⟩); go_simp; refine hK _ ?_; clear hK K)
      iterate 3 (refine Text.skipk (.inr (.inr rfl)) rfl rfl (fun K hK => ?_); go_simp; refine hK _ ?_; clear hK K)
      iterate 2 (refine Text.purek rfl rfl (fun K hK => ⟨_, fun w' => by go_simp <;> rfl, ?_⟩); go_simp; refine hK _ ?_; clear hK K)
      iterate 5 (refine Text.skipk (.inr (.inr rfl)) rfl rfl (fun K hK => ?_); go_simp; refine hK _ ?_; clear hK K)
      iterate 2 (refine Text.purek rfl rfl (fun K hK => ⟨_, fun w' => by go_simp <;> rfl, ?_⟩); go_simp; refine hK _ ?_; clear hK K)
      iterate 3 (refine Text.skipk (.inr (.inr rfl)) rfl rfl (fun K hK => ?_); go_simp; refine hK _ ?_; clear hK K)
      iterate 2 (refine Text.purek rfl rfl (fun K hK => ⟨_, fun w' => by go_simp <;> rfl, ?_⟩); go_simp; refine hK _ ?_; clear hK K)
      iterate 7 (refine Text.skipk (.inr (.inr rfl)) rfl rfl (fun K hK => ?_); go_simp; refine hK _ ?_; clear hK K)
      (refine Text.purek rfl rfl (fun K hK => ⟨_, fun w' => by go_simp <;> rfl, ?_⟩); go_simp; refine hK _ ?_; clear hK K)
      refine Text.done ?_
      go_wp2_with fail
      go_ret
      exact ⟨by rw [HR.out]; rfl, HB4.out.drew⟩
     | false =>
      cases f4 : decide (x.da > 8) with
      | true =>
       have HR : Hid (wantsB l = false) := Lib.hid (HBAD.out (by have := of_decide_eq_true f4; unfold wtB; rw [decide_eq_false]; omega))
       refine Text.wp_region_text (fun _ => True) [(0, 4), (1, 1), (2, 4), (3, 4), (4, 4), (5, 1), (6, 4), (7, 4), (8, 4), (9, 4), (10, 1), (11, 4), (12, 4), (13, 4), (14, 4), (15, 1), (16, 4), (17, 4), (18, 4), (19, 4), (20, 4), (21, 4), (22, 4), (23, 4), (24, 4), (25, 4), (26, 4), (27, 4), (28, 4), (29, 4), (30, 4), (31, 4), (32, 4), (33, 4), (34, 4), (35, 4), (36, 4), (37, 4), (38, 4)] (by kernel_rfl) (by kernel_rfl) (fun _ _ _ _ _ h => h) (trivial) ?_
       (refine Text.purek rfl rfl (fun K hK => ⟨_, fun w' => by go_simp <;> rfl, ?_⟩); go_simp; refine hK _ ?_; clear hK K)
       (refine Text.readk rfl rfl (fun K hK => ⟨_, by go_simp <;> rfl, ?_⟩); go_simp; refine hK _ ?_; clear hK K)
       iterate 3 (refine Text.purek rfl rfl (fun K hK => ⟨_, fun w' => by go_simp <;> rfl, ?_⟩); go_simp; refine hK _ ?_; clear hK K)
       (refine Text.readk rfl rfl (fun K hK => ⟨_, by go_simp <;> rfl, ?_⟩); go_simp; refine hK _ ?_; clear hK K)
       iterate 4 (refine Text.purek rfl rfl (fun K hK => ⟨_, fun w' => by go_simp <;> rfl, ?_⟩); go_simp; refine hK _ ?_; clear hK K)
       (refine Text.readk rfl rfl (fun K hK => ⟨_, by go_simp <;> rfl, ?_⟩); go_simp; refine hK _ ?_; clear hK K)
       iterate 4 (refine Text.purek rfl rfl (fun K hK => ⟨_, fun w' => by go_simp <;> rfl, ?_⟩); go_simp; refine hK _ ?_; clear hK K)
       (refine Text.readk rfl rfl (fun K hK => ⟨_, by go_simp <;> rfl, ?_⟩); go_simp; refine hK _ ?_; clear hK K)
       iterate 3 (refine Text.purek rfl rfl (fun K hK => ⟨_, fun w' => by go_simp <;> rfl, ?_⟩); go_simp; refine hK _ ?_; clear hK K)
       iterate 5 (refine Text.skipk (.inr (.inr rfl)) rfl rfl (fun K hK => ?_); go_simp; refine hK _ ?_; clear hK K)
       iterate 2 (refine Text.purek rfl rfl (fun K hK => ⟨_, fun w' => by go_simp <;> rfl, ?_⟩); go_simp; refine hK _ ?_; clear hK K)
       iterate 3 (refine Text.skipk (.inr (.inr rfl)) rfl rfl (fun K hK => ?_); go_simp; refine hK _ ?_; clear hK K)
       iterate 2 (refine Text.purek rfl rfl (fun K hK => ⟨_, fun w' => by go_simp <;> rfl, ?_⟩); go_simp; refine hK _ ?_; clear hK K)
       iterate 7 (refine Text.skipk (.inr (.inr rfl)) rfl rfl (fun K hK => ?_); go_simp; refine hK _ ?_; clear hK K)
       (refine Text.purek rfl rfl (fun K hK => ⟨_, fun w' => by go_simp <;> rfl, ?_⟩); go_simp; refine hK _ ?_; clear hK K)
       refine Text.done ?_
       go_wp2_with fail
       go_ret
       exact ⟨by rw [HR.out]; rfl, HB4.out.drew⟩
      | false =>
       cases f5 : decide (x.to < x.da) with
       | true =>
        have HR : Hid (wantsB l = false) := Lib.hid (HBAD.out (by have := of_decide_eq_true f5; unfold wtB; rw [decide_eq_false]; omega))
        refine Text.wp_region_text (fun _ => True) [(0, 4), (1, 1), (2, 4), (3, 4), (4, 4), (5, 1), (6, 4), (7, 4), (8, 4), (9, 4), (10, 1), (11, 4), (12, 4), (13, 4), (14, 4), (15, 1), (16, 4), (17, 4), (18, 4), (19, 4), (21, 4), (20, 1), (22, 1), (23, 4), (24, 4), (25, 4), (26, 4), (27, 4), (28, 4), (29, 4), (30, 4), (31, 4), (32, 4), (33, 4), (34, 4), (35, 4), (36, 4), (37, 4), (38, 4)] (by kernel_rfl) (by kernel_rfl) (fun _ _ _ _ _ h => h) (trivial) ?_
        (refine Text.purek rfl rfl (fun K hK => ⟨_, fun w' => by go_simp <;> rfl, ?_⟩); go_simp; refine hK _ ?_; clear hK K)
        (refine Text.readk rfl rfl (fun K hK => ⟨_, by go_simp <;> rfl, ?_⟩); go_simp; refine hK _ ?_; clear hK K)
        iterate 3 (refine Text.purek rfl rfl (fun K hK => ⟨_, fun w' => by go_simp <;> rfl, ?_⟩); go_simp; refine hK _ ?_; clear hK K)
        (refine Text.readk rfl rfl (fun K hK => ⟨_, by go_simp <;> rfl, ?_⟩); go_simp; refine hK _ ?_; clear hK K)
        iterate 4 (refine Text.purek rfl rfl (fun K hK => ⟨_, fun w' => by go_simp <;> rfl, ?_⟩); go_simp; refine hK _ ?_; clear hK K)
        (refine Text.readk rfl rfl (fun K hK => ⟨_, by go_simp <;> rfl, ?_⟩); go_simp; refine hK _ ?_; clear hK K)
        iterate 4 (refine Text.purek rfl rfl (fun K hK => ⟨_, fun w' => by go_simp <;> rfl, ?_⟩); go_simp; refine hK _ ?_; clear hK K)
        (refine Text.readk rfl rfl (fun K hK => ⟨_, by go_simp <;> rfl, ?_⟩); go_simp; refine hK _ ?_; clear hK K)
        iterate 5 (refine Text.purek rfl rfl (fun K hK => ⟨_, fun w' => by go_simp <;> rfl, ?_⟩); go_simp; refine hK _ ?_; clear hK K)
        iterate 2 (refine Text.readk rfl rfl (fun K hK => ⟨_, by go_simp <;> rfl, ?_⟩); go_simp; refine hK _ ?_; clear hK K)
        iterate 3 (refine Text.purek rfl rfl (fun K hK => ⟨_, fun w' => by go_simp <;> rfl, ?_⟩); go_simp; refine hK _ ?_; clear hK K)
        iterate 3 (refine Text.skipk (.inr (.inr rfl)) rfl rfl (fun K hK => ?_); go_simp; refine hK _ ?_; clear hK K)
        iterate 2 (refine Text.purek rfl rfl (fun K hK => ⟨_, fun w' => by go_simp <;> rfl, ?_⟩); go_simp; refine hK _ ?_; clear hK K)
        iterate 7 (refine Text.skipk (.inr (.inr rfl)) rfl rfl (fun K hK => ?_); go_simp; refine hK _ ?_; clear hK K)
        (refine Text.purek rfl rfl (fun K hK => ⟨_, fun w' => by go_simp <;> rfl, ?_⟩); go_simp; refine hK _ ?_; clear hK K)
        refine Text.done ?_
        go_wp2_with fail
        go_ret
        exact ⟨by rw [HR.out]; rfl, HB4.out.drew⟩
       | false =>
        cases f6 : decide (x.to > 16) with
        | true =>
         have HR : Hid (wantsB l = false) := Lib.hid (HBAD.out (by have := of_decide_eq_true f6; unfold wtB; rw [decide_eq_false]; omega))
         refine Text.wp_region_text (fun _ => True) [(0, 4), (1, 1), (2, 4), (3, 4), (4, 4), (5, 1), (6, 4), (7, 4), (8, 4), (9, 4), (10, 1), (11, 4), (12, 4), (13, 4), (14, 4), (15, 1), (16, 4), (17, 4), (18, 4), (19, 4), (21, 4), (20, 1), (22, 1), (23, 4), (24, 4), (25, 4), (26, 4), (27, 1), (28, 4), (29, 4), (30, 4), (31, 4), (32, 4), (33, 4), (34, 4), (35, 4), (36, 4), (37, 4), (38, 4)] (by kernel_rfl) (by kernel_rfl) (fun _ _ _ _ _ h => h) (trivial) ?_
         (refine Text.purek rfl rfl (fun K hK => ⟨_, fun w' => by go_simp <;> rfl, ?_⟩); go_simp; refine hK _ ?_; clear hK K)
         (refine Text.readk rfl rfl (fun K hK => ⟨_, by go_simp <;> rfl, ?_⟩); go_simp; refine hK _ ?_; clear hK K)
         iterate 3 (refine Text.purek rfl rfl (fun K hK => ⟨_, fun w' => by go_simp <;> rfl, ?_⟩); go_simp; refine hK _ ?_; clear hK K)
         (refine Text.readk rfl rfl (fun K hK => ⟨_, by go_simp <;> rfl, ?_⟩); go_simp; refine hK _ ?_; clear hK K)
         iterate 4 (refine Text.purek rfl rfl (fun K hK => ⟨_, fun w' => by go_simp <;> rfl, ?_⟩); go_simp; refine hK _ ?_; clear hK K)
         (refine Text.readk rfl rfl (fun K hK => ⟨_, by go_simp <;> rfl, ?_⟩); go_simp; refine hK _ ?_; clear hK K)
         iterate 4 (refine Text.purek rfl rfl (fun K hK => ⟨_, fun w' => by go_simp <;> rfl, ?_⟩); go_simp; refine hK _ ?_; clear hK K)
         (refine Text.readk rfl rfl (fun K hK => ⟨_, by go_simp <;> rfl, ?_⟩); go_simp; refine hK _ ?_; clear hK K)
         iterate 5 (refine Text.purek rfl rfl (fun K hK => ⟨_, fun w' => by go_simp <;> rfl, ?_⟩); go_simp; refine hK _ ?_; clear hK K)
         iterate 2 (refine Text.readk rfl rfl (fun K hK => ⟨_, by go_simp <;> rfl, ?_⟩); go_simp; refine hK _ ?_; clear hK K)
         iterate 4 (refine Text.purek rfl rfl (fun K hK => ⟨_, fun w' => by go_simp <;> rfl, ?_⟩); go_simp; refine hK _ ?_; clear hK K)
         (refine Text.readk rfl rfl (fun K hK => ⟨_, by go_simp <;> rfl, ?_⟩); go_simp; refine hK _ ?_; clear hK K)
         iterate 3 (refine Text.purek rfl rfl (fun K hK => ⟨_, fun w' => by go_simp <;> rfl, ?_⟩); go_simp; refine hK _ ?_; clear hK K)
         iterate 7 (refine Text.skipk (.inr (.inr rfl)) rfl rfl (fun K hK => ?_); go_simp; refine hK _ ?_; clear hK K)
         (refine Text.purek rfl rfl (fun K hK => ⟨_, fun w' => by go_simp <;> rfl, ?_⟩); go_simp; refine hK _ ?_; clear hK K)
         refine Text.done ?_
         go_wp2_with fail
         go_ret
         exact ⟨by rw [HR.out]; rfl, HB4.out.drew⟩
        | false =>
         have HGD : Hid (wtB x = true) := Lib.hid (by have h1 := of_decide_eq_false f1; have h2 := of_decide_eq_false f2; have h3 := of_decide_eq_false f3; have h4 := of_decide_eq_false f4; have h5 := of_decide_eq_false f5; have h6 := of_decide_eq_false f6; unfold wtB; rw [decide_eq_true]; omega)
         have HG2 : Hid (∀ y ∈ l.take (k + 1), wtB y = true) := Lib.hid (fun y hy => by
          rw [take_next HX.out] at hy
          rcases List.mem_append.1 hy with h | h
          ·
           exact hg.out.1 y h
          ·
           rw [List.mem_singleton.1 h]; exact HGD.out)
         clear HBAD HGD
         obtain ⟨z, hz⟩ : ∃ z, z = fdI (l.take k) (Wt.st x) := ⟨_, rfl⟩
         have HZ := Lib.hid hz.symm
         clear hz
         cases f9 : decide (z ≥ 0) with
         | true =>
          have HR : Hid (wantsB l = false) := Lib.hid (by
           have h1 := of_decide_eq_true f9
           have h2 : ∃ v ∈ l.take k, Wt.st v = Wt.st x := fdI_hit (by rw [HZ.out]; exact h1)
           obtain ⟨v, hv, e⟩ := h2
           unfold wantsB
           rw [decide_eq_false (nodup_not (f := Wt.st) HX.out hv e), Bool.and_false])
          refine Text.wp_region_text (fun _ => True) [(0, 4), (1, 1), (2, 4), (3, 4), (4, 4), (5, 1), (6, 4), (7, 4), (8, 4), (9, 4), (10, 1), (11, 4), (12, 4), (13, 4), (14, 4), (15, 1), (16, 4), (17, 4), (18, 4), (19, 4), (21, 4), (20, 1), (22, 1), (23, 4), (24, 4), (25, 4), (26, 4), (27, 1), (28, 4), (29, 4), (30, 4), (31, 4), (32, 4), (33, 4), (34, 4), (35, 1), (36, 2), (37, 4), (38, 4)] (by kernel_rfl) (by kernel_rfl) (fun _ _ _ _ _ h => h) (trivial) ?_
          (refine Text.purek rfl rfl (fun K hK => ⟨_, fun w' => by go_simp <;> rfl, ?_⟩); go_simp; refine hK _ ?_; clear hK K)
          (refine Text.readk rfl rfl (fun K hK => ⟨_, by go_simp <;> rfl, ?_⟩); go_simp; refine hK _ ?_; clear hK K)
          iterate 3 (refine Text.purek rfl rfl (fun K hK => ⟨_, fun w' => by go_simp <;> rfl, ?_⟩); go_simp; refine hK _ ?_; clear hK K)
          (refine Text.readk rfl rfl (fun K hK => ⟨_, by go_simp <;> rfl, ?_⟩); go_simp; refine hK _ ?_; clear hK K)
          iterate 4 (refine Text.purek rfl rfl (fun K hK => ⟨_, fun w' => by go_simp <;> rfl, ?_⟩); go_simp; refine hK _ ?_; clear hK K)
          (refine Text.readk rfl rfl (fun K hK => ⟨_, by go_simp <;> rfl, ?_⟩); go_simp; refine hK _ ?_; clear hK K)
          iterate 4 (refine Text.purek rfl rfl (fun K hK => ⟨_, fun w' => by go_simp <;> rfl, ?_⟩); go_simp; refine hK _ ?_; clear hK K)
          (refine Text.readk rfl rfl (fun K hK => ⟨_, by go_simp <;> rfl, ?_⟩); go_simp; refine hK _ ?_; clear hK K)
          iterate 5 (refine Text.purek rfl rfl (fun K hK => ⟨_, fun w' => by go_simp <;> rfl, ?_⟩); go_simp; refine hK _ ?_; clear hK K)
          iterate 2 (refine Text.readk rfl rfl (fun K hK => ⟨_, by go_simp <;> rfl, ?_⟩); go_simp; refine hK _ ?_; clear hK K)
          iterate 4 (refine Text.purek rfl rfl (fun K hK => ⟨_, fun w' => by go_simp <;> rfl, ?_⟩); go_simp; refine hK _ ?_; clear hK K)
          (refine Text.readk rfl rfl (fun K hK => ⟨_, by go_simp <;> rfl, ?_⟩); go_simp; refine hK _ ?_; clear hK K)
          iterate 7 (refine Text.purek rfl rfl (fun K hK => ⟨_, fun w' => by go_simp <;> rfl, ?_⟩); go_simp; refine hK _ ?_; clear hK K)
          (refine Text.readk rfl rfl (fun K hK => ⟨_, by go_simp <;> rfl, ?_⟩); go_simp; refine hK _ ?_; clear hK K)
          refine Text.effw rfl rfl (fun K hK => ?_)
          go_simp
          refine (rfind_any _ k c (l.take k) _ w4.drew HP4.out).mono ?_
          rintro e w5 ⟨rfl, hw⟩
          rw [HZ.out, hw]
          clear hw w5
          refine hK _ _ trivial ?_
          clear hK K
          iterate 2 (refine Text.purek rfl rfl (fun K hK => ⟨_, fun w' => by go_simp <;> rfl, ?_⟩); go_simp; refine hK _ ?_; clear hK K)
          refine Text.done ?_
          go_wp2_with fail
          go_ret
          exact ⟨by rw [HR.out]; rfl, HB4.out.drew⟩
         | false =>
          have HD : Hid (∀ v ∈ l.take k, Wt.st v ≠ Wt.st x) := Lib.hid (fdI_miss (by rw [HZ.out]; exact of_decide_eq_false f9))
          refine Text.wp_region_text (fun _ => True) [(0, 4), (1, 1), (2, 4), (3, 4), (4, 4), (5, 1), (6, 4), (7, 4), (8, 4), (9, 4), (10, 1), (11, 4), (12, 4), (13, 4), (14, 4), (15, 1), (16, 4), (17, 4), (18, 4), (19, 4), (21, 4), (20, 1), (22, 1), (23, 4), (24, 4), (25, 4), (26, 4), (27, 1), (28, 4), (29, 4), (30, 4), (31, 4), (32, 4), (33, 4), (34, 4), (35, 1), (36, 2), (37, 4), (38, 4)] (by kernel_rfl) (by kernel_rfl) (fun _ _ _ _ _ h => h) (trivial) ?_
          (refine Text.purek rfl rfl (fun K hK => ⟨_, fun w' => by go_simp <;> rfl, ?_⟩); go_simp; refine hK _ ?_; clear hK K)
          (refine Text.readk rfl rfl (fun K hK => ⟨_, by go_simp <;> rfl, ?_⟩); go_simp; refine hK _ ?_; clear hK K)
          iterate 3 (refine Text.purek rfl rfl (fun K hK => ⟨_, fun w' => by go_simp <;> rfl, ?_⟩); go_simp; refine hK _ ?_; clear hK K)
          (refine Text.readk rfl rfl (fun K hK => ⟨_, by go_simp <;> rfl, ?_⟩); go_simp; refine hK _ ?_; clear hK K)
          iterate 4 (refine Text.purek rfl rfl (fun K hK => ⟨_, fun w' => by go_simp <;> rfl, ?_⟩); go_simp; refine hK _ ?_; clear hK K)
          (refine Text.readk rfl rfl (fun K hK => ⟨_, by go_simp <;> rfl, ?_⟩); go_simp; refine hK _ ?_; clear hK K)
          iterate 4 (refine Text.purek rfl rfl (fun K hK => ⟨_, fun w' => by go_simp <;> rfl, ?_⟩); go_simp; refine hK _ ?_; clear hK K)
          (refine Text.readk rfl rfl (fun K hK => ⟨_, by go_simp <;> rfl, ?_⟩); go_simp; refine hK _ ?_; clear hK K)
          iterate 5 (refine Text.purek rfl rfl (fun K hK => ⟨_, fun w' => by go_simp <;> rfl, ?_⟩); go_simp; refine hK _ ?_; clear hK K)
          iterate 2 (refine Text.readk rfl rfl (fun K hK => ⟨_, by go_simp <;> rfl, ?_⟩); go_simp; refine hK _ ?_; clear hK K)
          iterate 4 (refine Text.purek rfl rfl (fun K hK => ⟨_, fun w' => by go_simp <;> rfl, ?_⟩); go_simp; refine hK _ ?_; clear hK K)
          (refine Text.readk rfl rfl (fun K hK => ⟨_, by go_simp <;> rfl, ?_⟩); go_simp; refine hK _ ?_; clear hK K)
          iterate 7 (refine Text.purek rfl rfl (fun K hK => ⟨_, fun w' => by go_simp <;> rfl, ?_⟩); go_simp; refine hK _ ?_; clear hK K)
          (refine Text.readk rfl rfl (fun K hK => ⟨_, by go_simp <;> rfl, ?_⟩); go_simp; refine hK _ ?_; clear hK K)
          refine Text.effw rfl rfl (fun K hK => ?_)
          go_simp
          refine (rfind_any _ k c (l.take k) _ w4.drew HP4.out).mono ?_
          rintro e w5 ⟨rfl, hw⟩
          rw [HZ.out, hw]
          clear hw w5
          refine hK _ _ trivial ?_
          clear hK K
          iterate 2 (refine Text.purek rfl rfl (fun K hK => ⟨_, fun w' => by go_simp <;> rfl, ?_⟩); go_simp; refine hK _ ?_; clear hK K)
          refine Text.done ?_
          go_wp2_with fail
          go_roundw
          case rel => exact ⟨k + 1, by omega, by go_num, Lib.hid ⟨HG2.out, fun j y hj hy => by
           by_cases e : j = k
           ·
            subst e
            rw [HX.out] at hy; cases hy; exact HD.out
           ·
            exact hg.out.2 j y (by omega) hy⟩, Lib.hid HB4.out.drew⟩
          case measure => simp [intOf]; omega
  ·
   obtain rfl : k = n := by omega
   cases f0 : decide ((k : Int) ≤ 8) with
   | true =>
    have HR : Hid (wantsB l = true) := Lib.hid (by
     obtain ⟨h1, h2⟩ := hg.out
     rw [take_end HL.out] at h1
     unfold wantsB
     rw [decide_eq_true (by rw [HL.out]; have := of_decide_eq_true f0; omega), List.all_eq_true.2 h1, decide_eq_true (nodup_first (f := Wt.st) (fun j x hj v hv => h2 j x (by have := (List.getElem?_eq_some_iff.1 hj).1; have := HL.out; omega) hj v hv))]; rfl)
    have f00 : decide (k ≤ 8) = true := decide_eq_true (by have := of_decide_eq_true f0; omega)
    go_wp2_with fail
    go_ret
    exact ⟨by rw [HR.out]; rfl, hb.out⟩
   | false =>
    have HR : Hid (wantsB l = false) := Lib.hid (by
     unfold wantsB
     have := of_decide_eq_false f0
     rw [decide_eq_false (by rw [HL.out]; omega)]; rfl)
    have f00 : decide (k ≤ 8) = false := decide_eq_false (by have := of_decide_eq_false f0; omega)
    go_wp2_with fail
    go_ret
    exact ⟨by rw [HR.out]; rfl, hb.out⟩

theorem rholders_any (A : Option Addr) (n c : Nat) (l : List Hd) (w : World) (h : LS rHd 3 24 w A n c l) :
  Calls Tryz.prog 26 #[.slice A n c] w fun e w' => e = .returned (.bool (holdersB l)) ∧ Below w.heap.size w w' := by
 have hn := h.len_le
 have H := Lib.hid h
 have HL := Lib.hid h.1
 clear h
 go_enter Tryz.func26, Tryz.ntmps26
 go_wp2_with fail
 go_loopw [3] (fun iv wr => ∃ k : Nat, k ≤ n ∧ iv = .int .i64 (k : Int) ∧ Hid ((∀ x ∈ l.take k, hdB x = true) ∧ ∀ (j : Nat) (x : Hd), j < k → l[j]? = some x → ∀ v ∈ l.take j, Hd.dv v ≠ Hd.dv x) ∧ Hid (Below w.heap.size w wr)) (fun iv _ => n - (intOf iv).toNat)
 case atStart => exact ⟨0, by omega, rfl, Lib.hid ⟨fun x hx => by simp at hx, fun j x hj => by omega⟩, Lib.hid (Below.refl _ _)⟩
 case round =>
  obtain ⟨k, hk, rfl, hg, hb⟩ := hrel
  obtain ⟨wx, hwx⟩ : ∃ x, x = wr := ⟨_, rfl⟩
  rw [← hwx] at hb ⊢
  clear hwx
  by_cases hlt : k < n
  ·
   obtain ⟨x, g, o, cs, hs, ea, hat, hr⟩ := H.out.at_ stay_hd hb.out hlt
   obtain ⟨rfl, hok⟩ := hr
   have HX := Lib.hid hs
   have HA := Lib.hid hat
   have HM : Hid (x ∈ l) := Lib.hid (List.mem_of_getElem? hs)
   have HBAD : Hid (hdB x = false → holdersB l = false) := Lib.hid (fun h1 => by
    unfold holdersB
    have h2 : l.all hdB = false := List.all_eq_false.2 ⟨x, HM.out, by rw [h1]; decide⟩
    rw [h2, Bool.and_false, Bool.false_and])
   have hkc : k ≤ c := Nat.le_trans hk H.out.2.1
   have HP := Lib.hid ((H.out.kept stay_hd hb.out).pre hk)
   subst ea
   clear hs hat hok
   go_wp2_with (first
    | ((with_reducible show OpW 14); refine wpList_loadv _ rfl 93 (.tmp 13) rfl 3 (by kernel_rfl) g (o + k * 3) (hdL x) (by go_simp) HA.out rfl ?_)
    | ((with_reducible show OpW 4); refine wpList_alloc _ rfl 93 rfl hdZ rhdZero ?_; intro w3 a1 a2 a3; have HV3 := Lib.hid a1; have HX3 := Lib.hid a2; clear a1 a2 a3)
    | ((with_reducible show OpN); refine wpList_storev _ rfl 93 (.tmp 4) (.tmp 14) rfl 3 (by kernel_rfl) wx.heap.size 0 _ hdZ (hdL x) rfl rfl HV3.out rfl (one_hd x) (by decide) ?_; intro w4 a1 a2 a3; have HV4 : Hid (BL w4 wx.heap.size 93 (hdL x)) := Lib.hid a1; have HX4 : Hid (Below wx.heap.size wx w4) := Lib.hid (((Kp.of_below (S := fun _ => False) HX3.out).after a2 (fun i hi e => by omega)).below (Nat.le_refl _) (fun _ h => h.elim)); clear a1 a2 a3)
    | fail)
   have HB4 := Lib.hid (below_thenB hb.out hb.out.size HX4.out)
   have HP4 := Lib.hid (HP.out.kept stay_hd (HX4.out.trans (Below.refl _ _).drew))
   have q0 := HV4.out.drew.get (j := 0) rfl
   have q1 := HV4.out.drew.get (j := 1) rfl
   have q2 := HV4.out.drew.get (j := 2) rfl
   clear HV3 HX3
   cases f1 : decide (x.dv < 0) with
   | true =>
    have HR : Hid (holdersB l = false) := Lib.hid (HBAD.out (by have := of_decide_eq_true f1; unfold hdB; rw [decide_eq_false]; omega))
    refine Text.wp_region_text (fun _ => True) [(0, 4), (1, 1), (2, 4), (3, 4), (4, 4), (5, 4), (6, 4), (7, 4), (8, 4), (9, 4), (10, 4), (11, 4), (12, 4), (13, 4), (14, 4), (15, 4), (16, 4), (17, 4), (18, 4), (19, 4), (20, 4), (21, 4), (22, 4), (23, 4), (24, 4), (25, 4), (26, 4), (27, 4), (28, 4), (29, 4), (30, 4), (31, 4), (32, 4), (33, 4), (34, 4), (35, 4), (36, 4)] (by kernel_rfl) (by kernel_rfl) (fun _ _ _ _ _ h => h) (trivial) ?_
    (refine Text.purek rfl rfl (fun K hK => ⟨_, fun w' => by go_simp <;> rfl, ?_⟩); go_simp; refine hK _ ?_; clear hK K)
    (refine Text.readk rfl rfl (fun K hK => ⟨_, by go_simp <;> rfl, ?_⟩); go_simp; refine hK _ ?_; clear hK K)
    iterate 2 (refine Text.purek rfl rfl (fun K hK => ⟨_, fun w' => by go_simp <;> rfl, ?_⟩); go_simp; refine hK _ ?_; clear hK K)
    iterate 3 (refine Text.skipk (.inr (.inr rfl)) rfl rfl (fun K hK => ?_); go_simp; refine hK _ ?_; clear hK K)
    iterate 2 (refine Text.purek rfl rfl (fun K hK => ⟨_, fun w' => by go_simp <;> rfl, ?_⟩); go_simp; refine hK _ ?_; clear hK K)
    iterate 3 (refine Text.skipk (.inr (.inr rfl)) rfl rfl (fun K hK => ?_); go_simp; refine hK _ ?_; clear hK K)
    iterate 2 (refine Text.purek rfl rfl (fun K hK => ⟨_, fun w' => by go_simp <;> rfl, ?_⟩); go_simp; refine hK _ ?_; clear hK K)
    iterate 3 (refine Text.skipk (.inr (.inr rfl)) rfl rfl (fun K hK => ?_); go_simp; refine hK _ ?_; clear hK K)
    iterate 2 (refine Text.purek rfl rfl (fun K hK => ⟨_, fun w' => by go_simp <;> rfl, ?_⟩); go_simp; refine hK _ ?_; clear hK K)
    iterate 3 (refine Text.skipk (.inr (.inr rfl)) rfl rfl (fun K hK => ?_); go_simp; refine hK _ ?_; clear hK K)
    iterate 2 (refine Text.purek rfl rfl (fun K hK => ⟨_, fun w' => by go_simp <;> rfl, ?_⟩); go_simp; refine hK _ ?_; clear hK K)
    iterate 3 (refine Text.skipk (.inr (.inr rfl)) rfl rfl (fun K hK => ?_); go_simp; refine hK _ ?_; clear hK K)
    iterate 2 (refine Text.purek rfl rfl (fun K hK => ⟨_, fun w' => by go_simp <;> rfl, ?_⟩); go_simp; refine hK _ ?_; clear hK K)
    iterate 7 (refine Text.skipk (.inr (.inr rfl)) rfl rfl (fun K hK => ?_); go_simp; refine hK _ ?_; clear hK K)
    (refine Text.purek rfl rfl (fun K hK => ⟨_, fun w' => by go_simp <;> rfl, ?_⟩); go_simp; refine hK _ ?_; clear hK K)
    refine Text.done ?_
    go_wp2_with fail
    go_ret
    exact ⟨by rw [HR.out]; rfl, HB4.out.drew⟩
   | false =>
    cases f2 : decide (x.dv ≥ 12) with
    | true =>
     have HR : Hid (holdersB l = false) := Lib.hid (HBAD.out (by have := of_decide_eq_true f2; unfold hdB; rw [decide_eq_false]; omega))
     refine Text.wp_region_text (fun _ => True) [(0, 4), (1, 1), (2, 4), (3, 4), (4, 4), (5, 1), (6, 4), (7, 4), (8, 4), (9, 4), (10, 4), (11, 4), (12, 4), (13, 4), (14, 4), (15, 4), (16, 4), (17, 4), (18, 4), (19, 4), (20, 4), (21, 4), (22, 4), (23, 4), (24, 4), (25, 4), (26, 4), (27, 4), (28, 4), (29, 4), (30, 4), (31, 4), (32, 4), (33, 4), (34, 4), (35, 4), (36, 4)] (by kernel_rfl) (by kernel_rfl) (fun _ _ _ _ _ h => h) (trivial) ?_
     (refine Text.purek rfl rfl (fun K hK => ⟨_, fun w' => by go_simp <;> rfl, ?_⟩); go_simp; refine hK _ ?_; clear hK K)
     (refine Text.readk rfl rfl (fun K hK => ⟨_, by go_simp <;> rfl, ?_⟩); go_simp; refine hK _ ?_; clear hK K)
     iterate 3 (refine Text.purek rfl rfl (fun K hK => ⟨_, fun w' => by go_simp <;> rfl, ?_⟩); go_simp; refine hK _ ?_; clear hK K)
     (refine Text.readk rfl rfl (fun K hK => ⟨_, by go_simp <;> rfl, ?_⟩); go_simp; refine hK _ ?_; clear hK K)
     iterate 3 (refine Text.purek rfl rfl (fun K hK => ⟨_, fun w' => by go_simp <;> rfl, ?_⟩); go_simp; refine hK _ ?_; clear hK K)
     iterate 3 (refine Text.skipk (.inr (.inr rfl)) rfl rfl (fun K hK => ?_); go_simp; refine hK _ ?_; clear hK K)
     iterate 2 (refine Text.purek rfl rfl (fun K hK => ⟨_, fun w' => by go_simp <;> rfl, ?_⟩); go_simp; refine hK _ ?_; clear hK K)
     iterate 3 (refine Text.skipk (.inr (.inr rfl)) rfl rfl (fun K hK => ?_); go_simp; refine hK _ ?_; clear hK K)
     iterate 2 (refine Text.purek rfl rfl (fun K hK => ⟨_, fun w' => by go_simp <;> rfl, ?_⟩); go_simp; refine hK _ ?_; clear hK K)
     iterate 3 (refine Text.skipk (.inr (.inr rfl)) rfl rfl (fun K hK => ?_); go_simp; refine hK _ ?_; clear hK K)
     iterate 2 (refine Text.purek rfl rfl (fun K hK => ⟨_, fun w' => by go_simp <;> rfl, ?_⟩); go_simp; refine hK _ ?_; clear hK K)
     iterate 3 (refine Text.skipk (.inr (.inr rfl)) rfl rfl (fun K hK => ?_); go_simp; refine hK _ ?_; clear hK K)
     iterate 2 (refine Text.purek rfl rfl (fun K hK => ⟨_, fun w' => by go_simp <;> rfl, ?_⟩); go_simp; refine hK _ ?_; clear hK K)
     iterate 7 (refine Text.skipk (.inr (.inr rfl)) rfl rfl (fun K hK => ?_); go_simp; refine hK _ ?_; clear hK K)
     (refine Text.purek rfl rfl (fun K hK => ⟨_, fun w' => by go_simp <;> rfl, ?_⟩); go_simp; refine hK _ ?_; clear hK K)
     refine Text.done ?_
     go_wp2_with fail
     go_ret
     exact ⟨by rw [HR.out]; rfl, HB4.out.drew⟩
    | false =>
     cases f3 : decide (x.qt < 0) with
     | true =>
      have HR : Hid (holdersB l = false) := Lib.hid (HBAD.out (by have := of_decide_eq_true f3; unfold hdB; rw [decide_eq_false]; omega))
      refine Text.wp_region_text (fun _ => True) [(0, 4), (1, 1), (2, 4), (3, 4), (4, 4), (5, 1), (6, 4), (7, 4), (8, 4), (9, 4), (10, 1), (11, 4), (12, 4), (13, 4), (14, 4), (15, 4), (16, 4), (17, 4), (18, 4), (19, 4), (20, 4), (21, 4), (22, 4), (23, 4), (24, 4), (25, 4), (26, 4), (27, 4), (28, 4), (29, 4), (30, 4), (31, 4), (32, 4), (33, 4), (34, 4), (35, 4), (36, 4)] (by kernel_rfl) (by kernel_rfl) (fun _ _ _ _ _ h => h) (trivial) ?_
      (refine Text.purek rfl rfl (fun K hK => ⟨_, fun w' => by go_simp <;> rfl, ?_⟩); go_simp; refine hK _ ?_; clear hK K)
      (refine Text.readk rfl rfl (fun K hK => ⟨_, by go_simp <;> rfl, ?_⟩); go_simp; refine hK _ ?_; clear hK K)
      iterate 3 (refine Text.purek rfl rfl (fun K hK => ⟨_, fun w' => by go_simp <;> rfl, ?_⟩); go_simp; refine hK _ ?_; clear hK K)
      (refine Text.readk rfl rfl (fun K hK => ⟨_, by go_simp <;> rfl, ?_⟩); go_simp; refine hK _ ?_; clear hK K)
      iterate 4 (refine Text.purek rfl rfl (fun K hK => ⟨_, fun w' => by go_simp <;> rfl, ?_⟩); go_simp; refine hK _ ?_; clear hK K)
      (refine Text.readk rfl rfl (fun K hK => ⟨_, by go_simp <;> rfl, ?_⟩); go_simp; refine hK _ ?_; clear hK K)
      iterate 3 (refine Text.purek rfl rfl (fun K hK => ⟨_, fun w' => by go_simp <;> rfl, ?_⟩); go_simp; refine hK _ ?_; clear hK K)
      iterate 3 (refine Text.skipk (.inr (.inr rfl)) rfl rfl (fun K hK => ?_); go_simp; refine hK _ ?_; clear hK K)
      iterate 2 (refine Text.purek rfl rfl (fun K hK => ⟨_, fun w' => by go_simp <;> rfl, ?_⟩); go_simp; refine hK _ ?_; clear hK K)
      iterate 3 (refine Text.skipk (.inr (.inr rfl)) rfl rfl (fun K hK => ?_); go_simp; refine hK _ ?_; clear hK K)
      iterate 2 (refine Text.purek rfl rfl (fun K hK => ⟨_, fun w' => by go_simp <;> rfl, ?_⟩); go_simp; refine hK _ ?_; clear hK K)
      iterate 3 (refine Text.skipk (.inr (.inr rfl)) rfl rfl (fun K hK => ?_); go_simp; refine hK _ ?_; clear hK K)
      iterate 2 (refine Text.purek rfl rfl (fun K hK => ⟨_, fun w' => by go_simp <;> rfl, ?_⟩); go_simp; refine hK _ ?_; clear hK K)
      iterate 7 (refine Text.skipk (.inr (.inr rfl)) rfl rfl (fun K hK => ?_); go_simp; refine hK _ ?_; clear hK K)
      (refine Text.purek rfl rfl (fun K hK => ⟨_, fun w' => by go_simp <;> rfl, ?_⟩); go_simp; refine hK _ ?_; clear hK K)
      refine Text.done ?_
      go_wp2_with fail
      go_ret
      exact ⟨by rw [HR.out]; rfl, HB4.out.drew⟩
     | false =>
      cases f4 : decide (x.qt > 1099511627776) with
      | true =>
       have HR : Hid (holdersB l = false) := Lib.hid (HBAD.out (by have := of_decide_eq_true f4; unfold hdB; rw [decide_eq_false]; omega))
       refine Text.wp_region_text (fun _ => True) [(0, 4), (1, 1), (2, 4), (3, 4), (4, 4), (5, 1), (6, 4), (7, 4), (8, 4), (9, 4), (10, 1), (11, 4), (12, 4), (13, 4), (14, 4), (15, 1), (16, 4), (17, 4), (18, 4), (19, 4), (20, 4), (21, 4), (22, 4), (23, 4), (24, 4), (25, 4), (26, 4), (27, 4), (28, 4), (29, 4), (30, 4), (31, 4), (32, 4), (33, 4), (34, 4), (35, 4), (36, 4)] (by kernel_rfl) (by kernel_rfl) (fun _ _ _ _ _ h => h) (trivial) ?_
       (refine Text.purek rfl rfl (fun K hK => ⟨_, fun w' => by go_simp <;> rfl, ?_⟩); go_simp; refine hK _ ?_; clear hK K)
       (refine Text.readk rfl rfl (fun K hK => ⟨_, by go_simp <;> rfl, ?_⟩); go_simp; refine hK _ ?_; clear hK K)
       iterate 3 (refine Text.purek rfl rfl (fun K hK => ⟨_, fun w' => by go_simp <;> rfl, ?_⟩); go_simp; refine hK _ ?_; clear hK K)
       (refine Text.readk rfl rfl (fun K hK => ⟨_, by go_simp <;> rfl, ?_⟩); go_simp; refine hK _ ?_; clear hK K)
       iterate 4 (refine Text.purek rfl rfl (fun K hK => ⟨_, fun w' => by go_simp <;> rfl, ?_⟩); go_simp; refine hK _ ?_; clear hK K)
       (refine Text.readk rfl rfl (fun K hK => ⟨_, by go_simp <;> rfl, ?_⟩); go_simp; refine hK _ ?_; clear hK K)
       iterate 4 (refine Text.purek rfl rfl (fun K hK => ⟨_, fun w' => by go_simp <;> rfl, ?_⟩); go_simp; refine hK _ ?_; clear hK K)
       (refine Text.readk rfl rfl (fun K hK => ⟨_, by go_simp <;> rfl, ?_⟩); go_simp; refine hK _ ?_; clear hK K)
       iterate 3 (refine Text.purek rfl rfl (fun K hK => ⟨_, fun w' => by go_simp <;> rfl, ?_⟩); go_simp; refine hK _ ?_; clear hK K)
       iterate 3 (refine Text.skipk (.inr (.inr rfl)) rfl rfl (fun K hK => ?_); go_simp; refine hK _ ?_; clear hK K)
       iterate 2 (refine Text.purek rfl rfl (fun K hK => ⟨_, fun w' => by go_simp <;> rfl, ?_⟩); go_simp; refine hK _ ?_; clear hK K)
       iterate 3 (refine Text.skipk (.inr (.inr rfl)) rfl rfl (fun K hK => ?_); go_simp; refine hK _ ?_; clear hK K)
       iterate 2 (refine Text.purek rfl rfl (fun K hK => ⟨_, fun w' => by go_simp <;> rfl, ?_⟩); go_simp; refine hK _ ?_; clear hK K)
       iterate 7 (refine Text.skipk (.inr (.inr rfl)) rfl rfl (fun K hK => ?_); go_simp; refine hK _ ?_; clear hK K)
       (refine Text.purek rfl rfl (fun K hK => ⟨_, fun w' => by go_simp <;> rfl, ?_⟩); go_simp; refine hK _ ?_; clear hK K)
       refine Text.done ?_
       go_wp2_with fail
       go_ret
       exact ⟨by rw [HR.out]; rfl, HB4.out.drew⟩
      | false =>
       cases f5 : decide (x.wt < 0) with
       | true =>
        have HR : Hid (holdersB l = false) := Lib.hid (HBAD.out (by have := of_decide_eq_true f5; unfold hdB; rw [decide_eq_false]; omega))
        refine Text.wp_region_text (fun _ => True) [(0, 4), (1, 1), (2, 4), (3, 4), (4, 4), (5, 1), (6, 4), (7, 4), (8, 4), (9, 4), (10, 1), (11, 4), (12, 4), (13, 4), (14, 4), (15, 1), (16, 4), (17, 4), (18, 4), (19, 4), (20, 1), (21, 4), (22, 4), (23, 4), (24, 4), (25, 4), (26, 4), (27, 4), (28, 4), (29, 4), (30, 4), (31, 4), (32, 4), (33, 4), (34, 4), (35, 4), (36, 4)] (by kernel_rfl) (by kernel_rfl) (fun _ _ _ _ _ h => h) (trivial) ?_
        (refine Text.purek rfl rfl (fun K hK => ⟨_, fun w' => by go_simp <;> rfl, ?_⟩); go_simp; refine hK _ ?_; clear hK K)
        (refine Text.readk rfl rfl (fun K hK => ⟨_, by go_simp <;> rfl, ?_⟩); go_simp; refine hK _ ?_; clear hK K)
        iterate 3 (refine Text.purek rfl rfl (fun K hK => ⟨_, fun w' => by go_simp <;> rfl, ?_⟩); go_simp; refine hK _ ?_; clear hK K)
        (refine Text.readk rfl rfl (fun K hK => ⟨_, by go_simp <;> rfl, ?_⟩); go_simp; refine hK _ ?_; clear hK K)
        iterate 4 (refine Text.purek rfl rfl (fun K hK => ⟨_, fun w' => by go_simp <;> rfl, ?_⟩); go_simp; refine hK _ ?_; clear hK K)
        (refine Text.readk rfl rfl (fun K hK => ⟨_, by go_simp <;> rfl, ?_⟩); go_simp; refine hK _ ?_; clear hK K)
        iterate 4 (refine Text.purek rfl rfl (fun K hK => ⟨_, fun w' => by go_simp <;> rfl, ?_⟩); go_simp; refine hK _ ?_; clear hK K)
        (refine Text.readk rfl rfl (fun K hK => ⟨_, by go_simp <;> rfl, ?_⟩); go_simp; refine hK _ ?_; clear hK K)
        iterate 4 (refine Text.purek rfl rfl (fun K hK => ⟨_, fun w' => by go_simp <;> rfl, ?_⟩); go_simp; refine hK _ ?_; clear hK K)
        (refine Text.readk rfl rfl (fun K hK => ⟨_, by go_simp <;> rfl, ?_⟩); go_simp; refine hK _ ?_; clear hK K)
        iterate 3 (refine Text.purek rfl rfl (fun K hK => ⟨_, fun w' => by go_simp <;> rfl, ?_⟩); go_simp; refine hK _ ?_; clear hK K)
        iterate 3 (refine Text.skipk (.inr (.inr rfl)) rfl rfl (fun K hK => ?_); go_simp; refine hK _ ?_; clear hK K)
        iterate 2 (refine Text.purek rfl rfl (fun K hK => ⟨_, fun w' => by go_simp <;> rfl, ?_⟩); go_simp; refine hK _ ?_; clear hK K)
        iterate 7 (refine Text.skipk (.inr (.inr rfl)) rfl rfl (fun K hK => ?_); go_simp; refine hK _ ?_; clear hK K)
        (refine Text.purek rfl rfl (fun K hK => ⟨_, fun w' => by go_simp <;> rfl, ?_⟩); go_simp; refine hK _ ?_; clear hK K)
        refine Text.done ?_
        go_wp2_with fail
        go_ret
        exact ⟨by rw [HR.out]; rfl, HB4.out.drew⟩
       | false =>
        cases f6 : decide (x.wt > 1099511627776) with
        | true =>
         have HR : Hid (holdersB l = false) := Lib.hid (HBAD.out (by have := of_decide_eq_true f6; unfold hdB; rw [decide_eq_false]; omega))
         refine Text.wp_region_text (fun _ => True) [(0, 4), (1, 1), (2, 4), (3, 4), (4, 4), (5, 1), (6, 4), (7, 4), (8, 4), (9, 4), (10, 1), (11, 4), (12, 4), (13, 4), (14, 4), (15, 1), (16, 4), (17, 4), (18, 4), (19, 4), (20, 1), (21, 4), (22, 4), (23, 4), (24, 4), (25, 1), (26, 4), (27, 4), (28, 4), (29, 4), (30, 4), (31, 4), (32, 4), (33, 4), (34, 4), (35, 4), (36, 4)] (by kernel_rfl) (by kernel_rfl) (fun _ _ _ _ _ h => h) (trivial) ?_
         (refine Text.purek rfl rfl (fun K hK => ⟨_, fun w' => by go_simp <;> rfl, ?_⟩); go_simp; refine hK _ ?_; clear hK K)
         (refine Text.readk rfl rfl (fun K hK => ⟨_, by go_simp <;> rfl, ?_⟩); go_simp; refine hK _ ?_; clear hK K)
         iterate 3 (refine Text.purek rfl rfl (fun K hK => ⟨_, fun w' => by go_simp <;> rfl, ?_⟩); go_simp; refine hK _ ?_; clear hK K)
         (refine Text.readk rfl rfl (fun K hK => ⟨_, by go_simp <;> rfl, ?_⟩); go_simp; refine hK _ ?_; clear hK K)
         iterate 4 (refine Text.purek rfl rfl (fun K hK => ⟨_, fun w' => by go_simp <;> rfl, ?_⟩); go_simp; refine hK _ ?_; clear hK K)
         (refine Text.readk rfl rfl (fun K hK => ⟨_, by go_simp <;> rfl, ?_⟩); go_simp; refine hK _ ?_; clear hK K)
         iterate 4 (refine Text.purek rfl rfl (fun K hK => ⟨_, fun w' => by go_simp <;> rfl, ?_⟩); go_simp; refine hK _ ?_; clear hK K)
         (refine Text.readk rfl rfl (fun K hK => ⟨_, by go_simp <;> rfl, ?_⟩); go_simp; refine hK _ ?_; clear hK K)
         iterate 4 (refine Text.purek rfl rfl (fun K hK => ⟨_, fun w' => by go_simp <;> rfl, ?_⟩); go_simp; refine hK _ ?_; clear hK K)
         (refine Text.readk rfl rfl (fun K hK => ⟨_, by go_simp <;> rfl, ?_⟩); go_simp; refine hK _ ?_; clear hK K)
         iterate 4 (refine Text.purek rfl rfl (fun K hK => ⟨_, fun w' => by go_simp <;> rfl, ?_⟩); go_simp; refine hK _ ?_; clear hK K)
         (refine Text.readk rfl rfl (fun K hK => ⟨_, by go_simp <;> rfl, ?_⟩); go_simp; refine hK _ ?_; clear hK K)
         iterate 3 (refine Text.purek rfl rfl (fun K hK => ⟨_, fun w' => by go_simp <;> rfl, ?_⟩); go_simp; refine hK _ ?_; clear hK K)
         iterate 7 (refine Text.skipk (.inr (.inr rfl)) rfl rfl (fun K hK => ?_); go_simp; refine hK _ ?_; clear hK K)
         (refine Text.purek rfl rfl (fun K hK => ⟨_, fun w' => by go_simp <;> rfl, ?_⟩); go_simp; refine hK _ ?_; clear hK K)
         refine Text.done ?_
         go_wp2_with fail
         go_ret
         exact ⟨by rw [HR.out]; rfl, HB4.out.drew⟩
        | false =>
         have HGD : Hid (hdB x = true) := Lib.hid (by have h1 := of_decide_eq_false f1; have h2 := of_decide_eq_false f2; have h3 := of_decide_eq_false f3; have h4 := of_decide_eq_false f4; have h5 := of_decide_eq_false f5; have h6 := of_decide_eq_false f6; unfold hdB; rw [decide_eq_true]; omega)
         have HG2 : Hid (∀ y ∈ l.take (k + 1), hdB y = true) := Lib.hid (fun y hy => by
          rw [take_next HX.out] at hy
          rcases List.mem_append.1 hy with h | h
          ·
           exact hg.out.1 y h
          ·
           rw [List.mem_singleton.1 h]; exact HGD.out)
         clear HBAD HGD
         obtain ⟨z, hz⟩ : ∃ z, z = hxI (l.take k) (Hd.dv x) := ⟨_, rfl⟩
         have HZ := Lib.hid hz.symm
         clear hz
         cases f9 : decide (z ≥ 0) with
         | true =>
          have HR : Hid (holdersB l = false) := Lib.hid (by
           have h1 := of_decide_eq_true f9
           have h2 : ∃ v ∈ l.take k, Hd.dv v = Hd.dv x := hxI_hit (by rw [HZ.out]; exact h1)
           obtain ⟨v, hv, e⟩ := h2
           unfold holdersB
           rw [decide_eq_false (nodup_not (f := Hd.dv) HX.out hv e), Bool.and_false])
          refine Text.wp_region_text (fun _ => True) [(0, 4), (1, 1), (2, 4), (3, 4), (4, 4), (5, 1), (6, 4), (7, 4), (8, 4), (9, 4), (10, 1), (11, 4), (12, 4), (13, 4), (14, 4), (15, 1), (16, 4), (17, 4), (18, 4), (19, 4), (20, 1), (21, 4), (22, 4), (23, 4), (24, 4), (25, 1), (26, 4), (27, 4), (28, 4), (29, 4), (30, 4), (31, 4), (32, 4), (33, 1), (34, 2), (35, 4), (36, 4)] (by kernel_rfl) (by kernel_rfl) (fun _ _ _ _ _ h => h) (trivial) ?_
          (refine Text.purek rfl rfl (fun K hK => ⟨_, fun w' => by go_simp <;> rfl, ?_⟩); go_simp; refine hK _ ?_; clear hK K)
          (refine Text.readk rfl rfl (fun K hK => ⟨_, by go_simp <;> rfl, ?_⟩); go_simp; refine hK _ ?_; clear hK K)
          iterate 3 (refine Text.purek rfl rfl (fun K hK => ⟨_, fun w' => by go_simp <;> rfl, ?_⟩); go_simp; refine hK _ ?_; clear hK K)
          (refine Text.readk rfl rfl (fun K hK => ⟨_, by go_simp <;> rfl, ?_⟩); go_simp; refine hK _ ?_; clear hK K)
          iterate 4 (refine Text.purek rfl rfl (fun K hK => ⟨_, fun w' => by go_simp <;> rfl, ?_⟩); go_simp; refine hK _ ?_; clear hK K)
          (refine Text.readk rfl rfl (fun K hK => ⟨_, by go_simp <;> rfl, ?_⟩); go_simp; refine hK _ ?_; clear hK K)
          iterate 4 (refine Text.purek rfl rfl (fun K hK => ⟨_, fun w' => by go_simp <;> rfl, ?_⟩); go_simp; refine hK _ ?_; clear hK K)
          (refine Text.readk rfl rfl (fun K hK => ⟨_, by go_simp <;> rfl, ?_⟩); go_simp; refine hK _ ?_; clear hK K)
          iterate 4 (refine Text.purek rfl rfl (fun K hK => ⟨_, fun w' => by go_simp <;> rfl, ?_⟩); go_simp; refine hK _ ?_; clear hK K)
          (refine Text.readk rfl rfl (fun K hK => ⟨_, by go_simp <;> rfl, ?_⟩); go_simp; refine hK _ ?_; clear hK K)
          iterate 4 (refine Text.purek rfl rfl (fun K hK => ⟨_, fun w' => by go_simp <;> rfl, ?_⟩); go_simp; refine hK _ ?_; clear hK K)
          (refine Text.readk rfl rfl (fun K hK => ⟨_, by go_simp <;> rfl, ?_⟩); go_simp; refine hK _ ?_; clear hK K)
          iterate 7 (refine Text.purek rfl rfl (fun K hK => ⟨_, fun w' => by go_simp <;> rfl, ?_⟩); go_simp; refine hK _ ?_; clear hK K)
          (refine Text.readk rfl rfl (fun K hK => ⟨_, by go_simp <;> rfl, ?_⟩); go_simp; refine hK _ ?_; clear hK K)
          refine Text.effw rfl rfl (fun K hK => ?_)
          go_simp
          refine (rdev_any _ k c (l.take k) _ w4.drew HP4.out).mono ?_
          rintro e w5 ⟨rfl, hw⟩
          rw [HZ.out, hw]
          clear hw w5
          refine hK _ _ trivial ?_
          clear hK K
          iterate 2 (refine Text.purek rfl rfl (fun K hK => ⟨_, fun w' => by go_simp <;> rfl, ?_⟩); go_simp; refine hK _ ?_; clear hK K)
          refine Text.done ?_
          go_wp2_with fail
          go_ret
          exact ⟨by rw [HR.out]; rfl, HB4.out.drew⟩
         | false =>
          have HD : Hid (∀ v ∈ l.take k, Hd.dv v ≠ Hd.dv x) := Lib.hid (hxI_miss (by rw [HZ.out]; exact of_decide_eq_false f9))
          refine Text.wp_region_text (fun _ => True) [(0, 4), (1, 1), (2, 4), (3, 4), (4, 4), (5, 1), (6, 4), (7, 4), (8, 4), (9, 4), (10, 1), (11, 4), (12, 4), (13, 4), (14, 4), (15, 1), (16, 4), (17, 4), (18, 4), (19, 4), (20, 1), (21, 4), (22, 4), (23, 4), (24, 4), (25, 1), (26, 4), (27, 4), (28, 4), (29, 4), (30, 4), (31, 4), (32, 4), (33, 1), (34, 2), (35, 4), (36, 4)] (by kernel_rfl) (by kernel_rfl) (fun _ _ _ _ _ h => h) (trivial) ?_
          (refine Text.purek rfl rfl (fun K hK => ⟨_, fun w' => by go_simp <;> rfl, ?_⟩); go_simp; refine hK _ ?_; clear hK K)
          (refine Text.readk rfl rfl (fun K hK => ⟨_, by go_simp <;> rfl, ?_⟩); go_simp; refine hK _ ?_; clear hK K)
          iterate 3 (refine Text.purek rfl rfl (fun K hK => ⟨_, fun w' => by go_simp <;> rfl, ?_⟩); go_simp; refine hK _ ?_; clear hK K)
          (refine Text.readk rfl rfl (fun K hK => ⟨_, by go_simp <;> rfl, ?_⟩); go_simp; refine hK _ ?_; clear hK K)
          iterate 4 (refine Text.purek rfl rfl (fun K hK => ⟨_, fun w' => by go_simp <;> rfl, ?_⟩); go_simp; refine hK _ ?_; clear hK K)
          (refine Text.readk rfl rfl (fun K hK => ⟨_, by go_simp <;> rfl, ?_⟩); go_simp; refine hK _ ?_; clear hK K)
          iterate 4 (refine Text.purek rfl rfl (fun K hK => ⟨_, fun w' => by go_simp <;> rfl, ?_⟩); go_simp; refine hK _ ?_; clear hK K)
          (refine Text.readk rfl rfl (fun K hK => ⟨_, by go_simp <;> rfl, ?_⟩); go_simp; refine hK _ ?_; clear hK K)
          iterate 4 (refine Text.purek rfl rfl (fun K hK => ⟨_, fun w' => by go_simp <;> rfl, ?_⟩); go_simp; refine hK _ ?_; clear hK K)
          (refine Text.readk rfl rfl (fun K hK => ⟨_, by go_simp <;> rfl, ?_⟩); go_simp; refine hK _ ?_; clear hK K)
          iterate 4 (refine Text.purek rfl rfl (fun K hK => ⟨_, fun w' => by go_simp <;> rfl, ?_⟩); go_simp; refine hK _ ?_; clear hK K)
          (refine Text.readk rfl rfl (fun K hK => ⟨_, by go_simp <;> rfl, ?_⟩); go_simp; refine hK _ ?_; clear hK K)
          iterate 7 (refine Text.purek rfl rfl (fun K hK => ⟨_, fun w' => by go_simp <;> rfl, ?_⟩); go_simp; refine hK _ ?_; clear hK K)
          (refine Text.readk rfl rfl (fun K hK => ⟨_, by go_simp <;> rfl, ?_⟩); go_simp; refine hK _ ?_; clear hK K)
          refine Text.effw rfl rfl (fun K hK => ?_)
          go_simp
          refine (rdev_any _ k c (l.take k) _ w4.drew HP4.out).mono ?_
          rintro e w5 ⟨rfl, hw⟩
          rw [HZ.out, hw]
          clear hw w5
          refine hK _ _ trivial ?_
          clear hK K
          iterate 2 (refine Text.purek rfl rfl (fun K hK => ⟨_, fun w' => by go_simp <;> rfl, ?_⟩); go_simp; refine hK _ ?_; clear hK K)
          refine Text.done ?_
          go_wp2_with fail
          go_roundw
          case rel => exact ⟨k + 1, by omega, by go_num, Lib.hid ⟨HG2.out, fun j y hj hy => by
           by_cases e : j = k
           ·
            subst e
            rw [HX.out] at hy; cases hy; exact HD.out
           ·
            exact hg.out.2 j y (by omega) hy⟩, Lib.hid HB4.out.drew⟩
          case measure => simp [intOf]; omega
  ·
   obtain rfl : k = n := by omega
   cases f0 : decide ((k : Int) ≤ 12) with
   | true =>
    have HR : Hid (holdersB l = true) := Lib.hid (by
     obtain ⟨h1, h2⟩ := hg.out
     rw [take_end HL.out] at h1
     unfold holdersB
     rw [decide_eq_true (by rw [HL.out]; have := of_decide_eq_true f0; omega), List.all_eq_true.2 h1, decide_eq_true (nodup_first (f := Hd.dv) (fun j x hj v hv => h2 j x (by have := (List.getElem?_eq_some_iff.1 hj).1; have := HL.out; omega) hj v hv))]; rfl)
    have f00 : decide (k ≤ 12) = true := decide_eq_true (by have := of_decide_eq_true f0; omega)
    go_wp2_with fail
    go_ret
    exact ⟨by rw [HR.out]; rfl, hb.out⟩
   | false =>
    have HR : Hid (holdersB l = false) := Lib.hid (by
     unfold holdersB
     have := of_decide_eq_false f0
     rw [decide_eq_false (by rw [HL.out]; omega)]; rfl)
    have f00 : decide (k ≤ 12) = false := decide_eq_false (by have := of_decide_eq_false f0; omega)
    go_wp2_with fail
    go_ret
    exact ⟨by rw [HR.out]; rfl, hb.out⟩

end
end Go.Proofs.YtklfficlegfhjaaGreat
