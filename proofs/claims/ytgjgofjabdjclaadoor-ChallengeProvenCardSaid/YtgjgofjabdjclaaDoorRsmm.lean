/- Contract of ref03.Sum. -/
import Derived.Test.YtgjgofjabdjclaaDoorRbkm
import Derived.Test.YtgjgofjabdjclaaDoorRpdm
import Derived.Test.YtgjgofjabdjclaaDoorA15
namespace Go.Proofs.YtgjgofjabdjclaaDoor
open Go Go.RowKit Gf Sha

theorem pad_length (l : List UInt8) : (l ++ padding l.length).length = l.length + (zr l.length + 9) := by
  rw [List.length_append, padding_padc, padc_length]
theorem hk_succ (k : Nat) (l : List UInt8) : hk (k + 1) l = comp (hk k l) ((l.drop (64 * k)).take 64) := rfl
theorem pad64 (n : Nat) : (n + (zr n + 9)) % 64 = 0 := by have := zr_end n; omega
theorem ini_vals : (#[Value.int .u32 1779033703, .int .u32 3144134277, .int .u32 1013904242, .int .u32 2773480762, .int .u32 1359893119, .int .u32 2600822924, .int .u32 528734635, .int .u32 1541459225] : Array Value) = ini.cells.toArray := by kernel_rfl
attribute [local go_sem] Sha.conv_b Sha.sh24 Sha.sh16 Sha.sh8

set_option maxRecDepth 100000 in
set_option maxHeartbeats 4000000 in
theorem rsum_any (A : Option Addr) (n c : Nat) (l : List UInt8) (w : World) (h : BS w A n c l) (hN : n ≤ 1048576) :
    Calls Tryd.prog 48 #[.slice A n c] w fun e w' => e = .returned (.string (strB (sha l))) ∧ Below w.heap.size w w' := by
  have HLN := Lib.hid h.1
  have H := Lib.hid h
  clear h
  go_enter Tryd.func48, Tryd.ntmps48
  go_wp2_with (first
    | ((with_reducible show wpList _ _ _ (⟨some 3, _, _, _, _, _⟩ :: _) _ _); refine wpList_alloc _ rfl 122 rfl (List.replicate 8 (.int .u32 0)) zero8 ?_; intro w1 a1 a2 a3; have HV1 := Lib.hid a1; have HB1 := Lib.hid a2; have HZ1 := Lib.hid a3; clear a1 a2 a3)
    | ((with_reducible show wpList _ _ _ (⟨none, _, _, _, _, _⟩ :: _) _ _); refine wpList_storev _ rfl 122 (.tmp 3) (.tmp 8) rfl 8 (by kernel_rfl) w.heap.size 0 _ (List.replicate 8 (.int .u32 0)) ini.cells rfl (by rw [← ini_vals]; rfl) HV1.out (cells_length _) (scells_one _) (by decide) ?_; intro w2 a1 a2 a3; rw [splice_all (List.replicate 8 (.int .u32 0)) ini.cells (by rw [cells_length, List.length_replicate])] at a1; have HV2 := Lib.hid a1; have HK2 := Lib.hid a2; have HZ2 := Lib.hid a3; have HB2 : Hid (Below w.heap.size w w2) := Lib.hid (((Kp.of_below (S := fun _ => False) HB1.out).after HK2.out (fun i hi e => by omega)).below (Nat.le_refl _) (fun _ h => h.elim)); clear a1 a2 a3)
    | (go_at_call 74; refine (rpad_any A n c l w2 (H.out.kept HB2.out) hN).mono ?_; rintro e w3 ⟨⟨g, m, c', rfl, hm, o⟩, b⟩; have HM := Lib.hid hm; have HO3 := Lib.hid o; have HB3 := Lib.hid b; clear hm o b))
  have hm1 : m ≤ 1048700 := by have := HM.out; have := zr_lt n; omega
  have hm64 : m % 64 = 0 := by rw [HM.out]; exact pad64 n
  obtain ⟨P, hP⟩ : ∃ P, P = l ++ padding n := ⟨_, rfl⟩
  rw [← hP] at HO3
  have HP := Lib.hid hP
  obtain ⟨A3, c3, e3, hb3⟩ := BS.of_own HO3.out (by unfold lim; omega)
  cases e3
  have HPB := Lib.hid hb3
  have hmc : m ≤ c' := hb3.2.1
  have HV3 := Lib.hid (HV2.out.kept HB3.out)
  have HGN : Hid (g ≠ w.heap.size) := Lib.hid (by have := own_base HO3.out g rfl; have := HZ1.out; have := HZ2.out; omega)
  have HSZ3 : Hid (w.heap.size < w3.heap.size) := Lib.hid (by have := HZ1.out; have := HZ2.out; have := HB3.out.size; omega)
  have hm0 : 0 ≤ (m : Int) := by omega
  clear hP hb3 HV1 HB1 HV2 HK2
  go_wp2_with fail
  go_loopw [5] (fun iv wr => ∃ k q : Nat, q ≤ m ∧ iv = .int .i64 (q : Int) ∧ Hid (q = 64 * k) ∧ Hid (BL wr w.heap.size 122 (hk k P).cells) ∧ Hid (Kp (· = w.heap.size) w3 wr)) (fun iv _ => m - (intOf iv).toNat)
  case atStart => exact ⟨0, 0, by omega, rfl, Lib.hid rfl, HV3, Lib.hid (Kp.refl _ _)⟩
  case round =>
    obtain ⟨k, q, hqm, rfl, hq, hb, hkp⟩ := hrel
    obtain ⟨wx, hwx⟩ : ∃ x, x = wr := ⟨_, rfl⟩
    rw [← hwx] at hb hkp ⊢
    clear hwx
    by_cases hlt : q < m
    · have hq64 : q + 64 ≤ m := by have := hq.out; omega
      obtain ⟨q2, hq2⟩ : ∃ x, x = q + 64 := ⟨_, rfl⟩
      have f1 : IntKind.i64.wrap ((q : Int) + 64) = (q2 : Int) := by rw [IntWalk.i64_in _ (by omega)]; omega
      have f2 : q ≤ q2 := by omega
      have f3 : (q2 : Int) ≤ (c' : Int) := by omega
      have f4 : q2 - q = 64 := by omega
      have f5 : ¬ c' = q := by omega
      have f6 : q2 ≤ c' := by omega
      have f7 : (q : Int) < (m : Int) := by omega
      have HBx : Hid (BS wx (some ⟨g, q, none⟩) 64 (c' - q) ((P.drop (64 * k)).take 64)) := Lib.hid (by
        have h1 := ((HPB.out.kpf hkp.out (fun g' o' _ e e2 => by cases e; exact HGN.out e2)).cut (k := q) (by omega)).pre (k := 64) (by omega)
        rw [cutA, if_neg f5, Option.map_some, addr_add, Nat.zero_add, hq.out] at h1
        rw [hq.out]
        exact h1)
      clear hq2
      go_wp2_with fail
      refine Text.wp_region_text (fun w' => Below wx.heap.size wx w') [(1, 4), (2, 4), (3, 4), (4, 4), (5, 4), (0, 0), (6, 2), (7, 3)] (by kernel_rfl) (by kernel_rfl) (fun _ _ _ _ _ h => h) ((Below.refl _ _).drew) ?_
      iterate 5 (refine Text.purek rfl rfl (fun K hK => ⟨_, fun w' => by go_simp <;> rfl, ?_⟩); go_simp; refine hK _ ?_; clear hK K)
      refine Text.heldk rfl rfl (fun K hK => ?_)
      refine ⟨_, fun w' hw' => exec_loadv 122 (.tmp 3) rfl 8 (by kernel_rfl) w.heap.size 0 (hk k P).cells rfl (BL.all (hb.out.kept hw')) (cells_length _), ?_⟩
      go_simp
      refine hK _ ?_
      clear hK K
      refine Text.eff rfl rfl (fun K hK => ?_)
      go_simp
      refine (rblock_any _ (c' - q) (hk k P) ((P.drop (64 * k)).take 64) wx.drew HBx.out.drew).mono ?_
      rintro e w4 ⟨rfl, b4⟩
      have HB4 : Hid (Below wx.heap.size wx w4) := Lib.hid ((Below.refl _ _).drew.trans (b4.mono (Nat.le_refl _)))
      refine hK _ _ HB4.out ?_
      clear hK K b4
      refine Text.last rfl rfl (fun K hK => ?_)
      refine wp_storev 122 (.tmp 3) (.tmp 23) rfl 8 (by kernel_rfl) w.heap.size 0 _ (hk k P).cells (comp (hk k P) ((P.drop (64 * k)).take 64)).cells rfl rfl (hb.out.kept HB4.out) (cells_length _) (scells_one _) (Nat.le_refl 8) ?_
      intro w5 a1 a2 a3
      rw [splice_all (hk k P).cells (comp (hk k P) ((P.drop (64 * k)).take 64)).cells (by rw [cells_length, cells_length]), ← hk_succ] at a1
      have HB5 := Lib.hid a1
      have HK5 : Hid (Kp (· = w.heap.size) w3 w5) := Lib.hid ((hkp.out.then HB4.out).trans a2)
      refine hK _ _ ?_
      clear hK K a1 a2 a3
      refine Text.done ?_
      go_wp2_with fail
      go_roundw
      case rel => exact ⟨k + 1, q2, by omega, by go_num, Lib.hid (by have := hq.out; omega), HB5, HK5⟩
      case measure => simp [intOf]; omega
    · have hqe : q = m := by omega
      have HS : Hid (hk k P = hs P) := Lib.hid (by
        have h1 : P.length = m := HPB.out.1
        have h2 := hq.out
        rw [hs, h1, show m / 64 = k by omega])
      have HE : Hid (sha l = (hs P).bytes) := Lib.hid (by rw [sha, HLN.out, HP.out])
      obtain ⟨T, hT⟩ : ∃ T, T = hs P := ⟨_, rfl⟩
      rw [← hT] at HS HE
      rw [HS.out] at hb
      have HBx : Hid (Below w.heap.size w wx) := Lib.hid (((Kp.of_below (S := fun _ => False) (below_thenB HB2.out HB2.out.size HB3.out)).after hkp.out (fun i hi e => by omega)).below (Nat.le_refl _) (fun _ h => h.elim))
      have HV4 : Hid (BL (wx.alloc (.cells #[] 5)) w.heap.size 122 T.cells) := Lib.hid (hb.out.kept ((Below.refl _ _).alloc (Nat.le_refl _) _))
      have HO4 : Hid ((wx.alloc (.cells #[] 5)).ownsRow wx.heap.size 5 1 (.slice (some ⟨wx.heap.size, 0, none⟩) 0 0) 0 ((outb T 0).map B)) := Lib.hid (BL.own (BL.new wx 5 []) (Nat.le_refl _) rfl (by decide))
      have HX4 : Hid (Below wx.heap.size wx (wx.alloc (.cells #[] 5))) := Lib.hid ((Below.refl _ _).alloc (Nat.le_refl _) _)
      have HVL : Hid (w.heap.size < wx.heap.size) := Lib.hid hb.out.lt
      have f7 : ¬ ((q : Int) < (m : Int)) := by omega
      clear hT hb hkp HV3 HPB HO3
      go_wp2_with fail
      go_loopw [6, 7] (fun v iv wy => ∃ (k m g9 c9 : Nat), k ≤ 8 ∧ m ≤ 32 ∧ iv = .int .i64 (k : Int) ∧ v = .slice (some ⟨g9, 0, none⟩) m c9 ∧ Hid (m = 4 * k) ∧ Hid (wy.ownsRow wx.heap.size 5 1 (.slice (some ⟨g9, 0, none⟩) m c9) m ((outb T k).map B)) ∧ Hid (Below wx.heap.size wx wy) ∧ Hid (BL wy w.heap.size 122 T.cells)) (fun _ iv _ => 8 - (intOf iv).toNat)
      case atStart => exact ⟨0, 0, _, _, by omega, by omega, rfl, rfl, Lib.hid rfl, HO4, HX4, HV4⟩
      case round =>
        obtain ⟨k, m, g9, c9, hk8, hm32, rfl, rfl, hmk, ho9, hb9, hv9⟩ := hrel
        obtain ⟨wy, hwy⟩ : ∃ x, x = wr := ⟨_, rfl⟩
        rw [← hwy] at ho9 hb9 hv9 ⊢
        clear hwy
        by_cases hlt : k < 8
        · obtain ⟨x, hx⟩ : ∃ x, x = sw T k := ⟨_, rfl⟩
          have c1 : wy.cell? ⟨w.heap.size, k, none⟩ = some (W x) := by rw [hx]; exact hv9.out.get (cells_sw T k hlt)
          have HXX := Lib.hid hx
          have p6 : (k : Int) < 8 := by omega
          clear hx
          have hm28 : m ≤ 28 := by have := hmk.out; omega
          go_wp2_with fail
          refine Text.wp_region_text (fun _ => True) [(0, 4), (1, 4), (2, 4), (6, 4), (7, 4), (11, 4), (12, 4), (16, 4), (17, 4), (3, 1), (4, 4), (5, 4), (8, 1), (9, 4), (10, 4), (13, 1), (14, 4), (15, 4), (18, 1), (19, 4), (20, 2), (21, 2), (22, 4)] (by kernel_rfl) (by kernel_rfl) (fun _ _ _ _ _ h => h) (trivial) ?_
          iterate 9 (refine Text.purek rfl rfl (fun K hK => ⟨_, fun w' => by go_simp <;> rfl, ?_⟩); go_simp; refine hK _ ?_; clear hK K)
          (refine Text.readk rfl rfl (fun K hK => ⟨_, by go_simp <;> rfl, ?_⟩); go_simp; refine hK _ ?_; clear hK K)
          iterate 2 (refine Text.purek rfl rfl (fun K hK => ⟨_, fun w' => by go_simp <;> rfl, ?_⟩); go_simp; refine hK _ ?_; clear hK K)
          (refine Text.readk rfl rfl (fun K hK => ⟨_, by go_simp <;> rfl, ?_⟩); go_simp; refine hK _ ?_; clear hK K)
          iterate 2 (refine Text.purek rfl rfl (fun K hK => ⟨_, fun w' => by go_simp <;> rfl, ?_⟩); go_simp; refine hK _ ?_; clear hK K)
          (refine Text.readk rfl rfl (fun K hK => ⟨_, by go_simp <;> rfl, ?_⟩); go_simp; refine hK _ ?_; clear hK K)
          iterate 2 (refine Text.purek rfl rfl (fun K hK => ⟨_, fun w' => by go_simp <;> rfl, ?_⟩); go_simp; refine hK _ ?_; clear hK K)
          (refine Text.readk rfl rfl (fun K hK => ⟨_, by go_simp <;> rfl, ?_⟩); go_simp; refine hK _ ?_; clear hK K)
          (refine Text.purek rfl rfl (fun K hK => ⟨_, fun w' => by go_simp <;> rfl, ?_⟩); go_simp; refine hK _ ?_; clear hK K)
          refine Text.eff rfl rfl (fun K hK => ?_)
          go_simp
          refine hK _ _ trivial ?_
          clear hK K
          refine Text.eff rfl rfl (fun K hK => ?_)
          have HOD : Hid (wy.drew.ownsRow wx.heap.size 5 1 (.slice (some ⟨g9, 0, none⟩) m c9) m ((outb T k).map B)) := Lib.hid ho9.out
          have HOO := Lib.hid (HOD.out.kept (World.grownBy_alloc wy.drew (.cells #[B (x >>> 24).toUInt8, B (x >>> 16).toUInt8, B (x >>> 8).toUInt8, B x.toUInt8] 5) none) (by simp [Value.ownBlock]))
          have HBB := Lib.hid (hb9.out.drew.alloc (by exact hb9.out.size) (.cells #[B (x >>> 24).toUInt8, B (x >>> 16).toUInt8, B (x >>> 8).toUInt8, B x.toUInt8] 5))
          have HBK : Hid (BS (wy.drew.alloc (.cells #[B (x >>> 24).toUInt8, B (x >>> 16).toUInt8, B (x >>> 8).toUInt8, B x.toUInt8] 5)) (some ⟨wy.heap.size, 0, none⟩) 4 4 (bytes4 x)) := Lib.hid (BL.bs (l := bytes4 x) (BL.new wy.drew 5 ((bytes4 x).map B)) rfl (by decide))
          have HSB : Hid (wx.heap.size ≤ (wy.drew.alloc (.cells #[B (x >>> 24).toUInt8, B (x >>> 16).toUInt8, B (x >>> 8).toUInt8, B x.toUInt8] 5)).heap.size) := Lib.hid (by have := hb9.out.size; simp; omega)
          have HVV := Lib.hid (hv9.out.drew.kept ((Below.refl _ _).alloc (Nat.le_refl _) (.cells #[B (x >>> 24).toUInt8, B (x >>> 16).toUInt8, B (x >>> 8).toUInt8, B x.toUInt8] 5)))
          refine wp_appB _ (.tmp 29) (.tmp 49) rfl wx.heap.size _ m _ rfl HOO.out _ 4 4 (bytes4 x) rfl HBK.out (by omega) HSB.out ?_
          intro v6 w6 hp
          obtain ⟨g6, c6, rfl⟩ := hp.form (by omega)
          have HO6 : Hid (w6.ownsRow wx.heap.size 5 1 (.slice (some ⟨g6, 0, none⟩) (m + 4) c6) (m + 4) ((outb T (k + 1)).map B)) := Lib.hid (by have := hp.own; rw [outb, ← HXX.out]; exact this)
          have HB6 := Lib.hid (hp.below HOO.out HBB.out (Nat.le_refl _) HSB.out)
          have HV6 : Hid (BL w6 w.heap.size 122 T.cells) := Lib.hid (by
            have h1 := hp.below HOO.out (Below.refl wx.heap.size _) (Nat.le_refl _) HSB.out
            exact (h1.block _ HVL.out).trans HVV.out)
          refine hK _ _ trivial ?_
          clear hK K hp c1
          (refine Text.purek rfl rfl (fun K hK => ⟨_, fun w' => by go_simp <;> rfl, ?_⟩); go_simp; refine hK _ ?_; clear hK K)
          refine Text.done ?_
          go_wp2_with fail
          go_roundw
          case rel => exact ⟨k + 1, m + 4, _, _, by omega, by omega, by go_num, rfl, Lib.hid (by rw [hmk.out]; omega), HO6, HB6, HV6⟩
          case measure => simp [intOf]; omega
        · obtain rfl : k = 8 := by omega
          obtain ⟨A8, c8, e8, hb8⟩ := BS.of_own ho9.out (by have := hm32; unfold lim; omega)
          cases e8
          have cv := conv_str hb8
          go_wp2_with fail
          go_ret
          exact ⟨by rw [HE.out, ← outb_all]; rfl, below_thenB HBx.out HBx.out.size hb9.out⟩
end Go.Proofs.YtgjgofjabdjclaaDoor
