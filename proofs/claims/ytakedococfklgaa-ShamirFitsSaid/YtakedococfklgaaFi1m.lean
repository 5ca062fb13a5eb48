/- Contract of shamir.Fits: the walk where it returns coefficients. -/
import Derived.Test.YtakedococfklgaaFi0m
namespace Go.Proofs.Ytakedococfklgaa
open Go.RowKit Gf

attribute [local go_sem] Gf.bv_toNat Gf.bv_wrap

theorem alloc_setCell' (w : World) (o : Obj) (p : Addr) (v : Value) (h : p.block < w.heap.size) : (w.alloc o).setCell p v = (w.setCell p v).alloc o := by
  simp only [World.setCell, World.alloc]
  congr 1
  apply Array.ext (by simp)
  intro i h1 h2
  simp only [Array.getElem_modify, Array.getElem_push]
  by_cases e : p.block = i
  · subst e; simp [h]
  · simp [e]

set_option maxRecDepth 100000 in
set_option maxHeartbeats 4000000 in
theorem fits_ok (As A : Option Addr) (ns cs n c t : Nat) (s : List UInt8) (l : List (Int × List UInt8)) (w : World) (hs : BS w As ns cs s) (h : SS w A n c l) (hsh : shB l = true) (ht1 : 1 ≤ t) (ht2 : t ≤ 16) (hnt : n + 1 = t) (hns : ns ≤ 1024) (hq : Eql l ns) :
    Calls Try.prog 24 #[.slice As ns cs, .slice A n c, .int .i64 (t : Int)] w (FitRet (fiM s l) ns w) := by
  obtain ⟨sp1, sp2, sp3, sp4, sp5⟩ := shB_spec hsh
  have HLS := Lib.hid hs.1
  have HL := Lib.hid h.1
  have H := Lib.hid h
  have HS := Lib.hid hs
  have HQ := Lib.hid hq
  have HXR : Hid (∀ k, k < n → (gS l k).1 = bv (gX l k)) := Lib.hid (fun k hk => by have := sp4 k (by rw [h.1]; exact hk); exact gX_eq (by omega) (by omega))
  have HDS : Hid (Py.Dst (fiX l)) := Lib.hid (fiX_dst sp4 sp5)
  have HSH := Lib.hid hsh
  have hv : vT (t : Int) = true := vT_iff.2 ⟨by omega, by omega⟩
  have hn15 : n ≤ 15 := by omega
  have sm : (t : Int) - 1 = (n : Int) := by omega
  have q1 : ((n : Int) != (t : Int) - 1) = false := by simp; omega
  have q2 : decide ((1024 : Int) < (ns : Int)) = false := by simp; omega
  have hmk := make_rows n (by omega)
  have hmb := make_bytes ns (by omega)
  have HNT := Lib.hid hnt
  clear h hs hq sp1 sp2 sp3 sp4 sp5 hsh hnt
  go_enter Try.func24, Try.ntmps24
  go_wp2_with fail
  refine (validShares_any _ _ _ _ _ H.out).mono ?_
  rintro e w1 ⟨rfl, hb1⟩
  have HB1 := Lib.hid hb1
  clear hb1
  rw [HSH.out]
  go_wp2_with fail
  refine (validT_any _ _).mono ?_
  rintro e w' ⟨rfl, rfl⟩
  rw [hv]
  go_wp2_with fail
  clear q1 q2 hv sm
  obtain ⟨w2, hw2⟩ : ∃ w2, w2 = (w1.alloc (.cells #[.int .u8 0] 5)).alloc (.cells (Array.replicate n (.slice none 0 0)) 22) := ⟨_, rfl⟩
  obtain ⟨gO, hgO⟩ : ∃ g, g = w1.heap.size + 1 := ⟨_, rfl⟩
  have hb2 : Below w1.heap.size w1 w2 := by rw [hw2]; exact ((Below.refl _ _).alloc (Nat.le_refl _) _).alloc (by simp) _
  obtain ⟨cx, hcx⟩ : ∃ cx, cx = coX l := ⟨_, rfl⟩
  have HFI0 : Hid (FI w1.heap.size gO n ns 0 cx (.slice (some ⟨w1.heap.size, 0, none⟩) 1 1) (fun _ => 0) w2) := Lib.hid ⟨by
      rw [hw2]
      exact Kp.own (S := fun _ => False) ((Kp.refl _ _).alloc _) (own_one w1 0) (fun _ _ => id), ⟨_, by
      rw [hw2, hgO]
      have := Blk.new (w1.alloc (.cells #[.int .u8 0] 5)) 22 (Array.replicate n (.slice none 0 0))
      rw [World.size_alloc] at this
      exact this, by simp, fun i hi => absurd hi (by omega), fun i _ hi => by simp [hi]⟩, fun i hi => absurd hi (by omega), fun i _ hi => absurd hi (by omega), fun i hi => absurd hi (by omega), ⟨by omega, fun i hi => absurd hi (by omega)⟩, fun i hi => absurd hi (by omega)⟩
  have HCX0 : Hid (∀ k, k < n → cx.take k ++ [gX l k] = cx.take (k + 1)) := Lib.hid (fun k hk => by
    have h1 : k < cx.length := by rw [hcx, coX, tab_length, HL.out]; exact hk
    rw [List.take_succ_eq_append_getElem h1, ← gB_eq h1, hcx, coX, gB_tab _ (by rw [HL.out]; exact hk)])
  have HCXE := Lib.hid hcx
  have HGO : Hid (w1.heap.size ≤ gO) := Lib.hid (by omega)
  rw [← hw2, ← hgO]
  have HB2 := Lib.hid hb2
  clear hw2 hgO hcx hb2 hmk
  go_loopw [8, 46] (fun v i wr => ∃ (k : Nat) (A8 : Option Addr) (c8 : Nat) (G : Nat → Nat), k ≤ n ∧ i = .int .i64 (k : Int) ∧ v = .slice A8 (k + 1) c8 ∧ Hid (FI w1.heap.size gO n ns k cx v G wr) ∧ Hid (Below w1.heap.size w1 wr)) (fun _ i _ => n - (intOf i).toNat)
  case atStart => exact ⟨0, _, 1, _, by omega, rfl, rfl, HFI0, HB2⟩
  case round =>
    obtain ⟨k, A8, c8, G, hk, rfl, rfl, hfi, hb⟩ := hrel
    by_cases hkn : k < n
    · obtain ⟨g', o', Ad, nd, cd, e', y1, y2, y3⟩ := H.out.at_ (below_then HB1.out hb.out) hkn
      subst e'
      rw [HXR.out k hkn] at y1
      obtain rfl : nd = ns := by rw [← y3.1]; exact HQ.out k (by rw [HL.out]; exact hkn)
      obtain ⟨x, hx⟩ : ∃ x, x = gX l k := ⟨_, rfl⟩
      have HX := Lib.hid (HCX0.out k hkn)
      rw [← hx] at y1 HX
      clear hx y3
      obtain ⟨ws, hws⟩ : ∃ ws, ws = (wr.alloc (.cells #[.int .i64 (bv x), .slice Ad nd cd] 33)).alloc (.cells #[B x] 5) := ⟨_, rfl⟩
      have hbs : Below wr.heap.size wr ws := by rw [hws]; exact ((Below.refl _ _).alloc (Nat.le_refl _) _).alloc (by simp) _
      have HFS := Lib.hid (hfi.out.kept hbs)
      have HBS := Lib.hid (below_then hb.out hbs)
      have HKS : Hid (Blk ws (wr.heap.size + 1) 5 #[B x]) := Lib.hid (by
        rw [hws]
        have := Blk.new (wr.alloc (.cells #[.int .i64 (bv x), .slice Ad nd cd] 33)) 5 #[B x]
        rw [World.size_alloc] at this
        exact this)
      have HWS := Lib.hid hws
      clear hbs hws hfi hb
      have q3 : ((nd : Int) != (nd : Int)) = false := by simp
      go_wp2_with (first
        | (at_builtin; rw [← HWS.out]; refine wpList_app1 ws rfl (.tmp 57) (.tmp 61) 22 5 (.int .u8 0) 1 Try.underlying22 infoU8 rfl rfl w1.heap.size (.slice A8 (k + 1) c8) (k + 1) ((0 :: cx.take k).map B) rfl HFS.out.own (wr.heap.size + 1) 1 5 (B x) rfl HKS.out rfl (by omega) (by omega) HBS.out.size ?_; intro v6 w6 hp6; obtain ⟨m6, g6, cap6, hm6, rfl⟩ := own_form (by omega) hp6.1; (have HFF := Lib.hid (HFS.out.step hkn HX.out hp6 HBS.out.size)); (have HB6 : Hid (Below w1.heap.size w1 w6) := Lib.hid (HBS.out.grown hp6.2.1 HBS.out.size (fun b hb' => own_base HFS.out.own b hb'))); (have HM6 : Hid (m6 = k + 1 + 1) := Lib.hid hm6); (obtain ⟨cur, c1, c2, c3, c4⟩ := HFS.out.outer); (have hK6 : Kp (fun b => (Value.slice A8 (k + 1) c8).ownBlock = some b) ws w6 := (Kp.refl _ _).grown hp6.2.1 (fun _ e => .inl e)); (have hk6 := hK6.blk c1 (own_ne (e := 5) HFS.out.own c1 (by decide))); (have d1 : w6.cell? ⟨gO, k, none⟩ = some (.slice none 0 0) := by rw [hk6.cell]; exact c4 k (by omega) hkn); (have f1 := hk6.frozen k); (have d1' : (w6.alloc (.cells (row (zeros nd)) 5)).cell? ⟨gO, k, none⟩ = some (.slice none 0 0) := cell_kept ((Below.refl _ _).alloc (Nat.le_refl _) _) d1); (have f1' := (hk6.alloc (.cells (row (zeros nd)) 5)).frozen k); (have hgl6 : gO < w6.heap.size := hk6.lt); clear hp6 hm6 c1 c2 c3 c4 hK6 hk6))
      have HBX : Hid (Below w1.heap.size w1 ((w6.alloc (.cells (row (zeros nd)) 5)).setCell ⟨gO, k, none⟩ (.slice (some ⟨w6.heap.size, 0, none⟩) nd nd))) := Lib.hid ((HB6.out.alloc HB6.out.size _).setCell HGO.out _)
      rw [alloc_setCell' w6 _ ⟨gO, k, none⟩ _ hgl6] at HFF HBX
      have hm6 := HM6.out
      subst hm6
      go_roundw
      case rel => exact ⟨k + 1, _, cap6, _, by omega, by go_num, rfl, HFF, HBX⟩
      case measure => simp [intOf]; omega
    · obtain rfl : k = n := by omega
      obtain ⟨w3, rfl⟩ : ∃ w3, w3 = wr := ⟨_, rfl⟩
      have HTAB : Hid (Tab w3 w1.heap.size gO k k ns G (fiT s l 0 1)) := Lib.hid (by
        obtain ⟨cur, c1, c2, c3, c4⟩ := hfi.out.outer
        have e1 := fiT_start s l
        rw [HL.out, HLS.out] at e1
        rw [← e1]
        exact ⟨by simp [zmat], zmat_rect k ns, ⟨cur, c1, Nat.le_refl _, c2, c3⟩, fun i hi => by rw [zmat_get hi]; exact hfi.out.rows i hi, hfi.out.inj, hfi.out.far, hfi.out.old⟩)
      obtain ⟨A8', c8', e8, hx8⟩ := BS.of_own hfi.out.own (by unfold lim; omega)
      injection e8 with e81 e82 e83
      subst e81 e83
      have HXS : Hid (BS w3 A8 (k + 1) c8 (fiX l)) := Lib.hid (by
        rw [List.take_of_length_le (by rw [HCXE.out, coX, tab_length, HL.out]; exact Nat.le_refl _), HCXE.out] at hx8
        exact hx8)
      have HXF : Hid (AtB A8 (fun b => ¬ ∃ i, i < k ∧ b = G i)) := Lib.hid (fun a e ⟨i, hi, hbi⟩ => hfi.out.dis i hi (by subst e; rw [← hbi]; rfl))
      have hgk : ∀ i, i < k → G i < w3.heap.size := fun i hi => (hfi.out.rows i hi).lt
      have HGK := Lib.hid hgk
      clear hfi hx8 e82 hmb hgk
      go_wp2_with fail
      go_loopw [72] (fun i wr => ∃ b : Nat, b ≤ ns ∧ i = .int .i64 (b : Int) ∧ Hid (Tab wr w1.heap.size gO k k ns G (fiT s l b 1)) ∧ Hid (Kp (fun b => ∃ i, i < k ∧ b = G i) w3 wr)) (fun i _ => ns - (intOf i).toNat)
      case atStart => exact ⟨0, by omega, rfl, HTAB, Lib.hid (Kp.refl _ _)⟩
      case round =>
        obtain ⟨b, hbn, rfl, htab, hkp⟩ := hrel
        have hbw : Below w1.heap.size w1 wr := hb.out.trans (hkp.out.below hb.out.size (fun q ⟨i, hi, e⟩ => by rw [e]; exact HTAB.out.old.2 i hi))
        by_cases hbl : b < ns
        · obtain ⟨gs, os, rfl, hcs⟩ := HS.out.at_ (below_then HB1.out hbw) hbl
          obtain ⟨w4, rfl⟩ : ∃ w4, w4 = wr := ⟨_, rfl⟩
          have HBW := Lib.hid hbw
          obtain ⟨sb, hsb⟩ : ∃ x, x = gB s b := ⟨_, rfl⟩
          rw [← hsb] at hcs
          have HSB := Lib.hid hsb
          clear hbw hsb
          go_wp2_with fail
          have HOY0 : Hid ((w4.alloc (.cells #[B sb] 5)).ownsRow w4.heap.size 5 1 (.slice (some ⟨w4.heap.size, 0, none⟩) 1 1) 1 ((sb :: (coY l b).take 0).map B)) := Lib.hid (own_one w4 sb)
          have HBY0 : Hid (Below w4.heap.size w4 (w4.alloc (.cells #[B sb] 5))) := Lib.hid ((Below.refl _ _).alloc (Nat.le_refl _) _)
          obtain ⟨cy, hcy⟩ : ∃ cy, cy = coY l b := ⟨_, rfl⟩
          have HCY0 : Hid (∀ q, q < k → cy.take q ++ [gB (gS l q).2 b] = cy.take (q + 1)) := Lib.hid (fun q hq => by
            have h1 : q < cy.length := by rw [hcy, coY, tab_length, HL.out]; exact hq
            rw [List.take_succ_eq_append_getElem h1, ← gB_eq h1, hcy, coY, gB_tab _ (by rw [HL.out]; exact hq)])
          have HCYE := Lib.hid hcy
          rw [← hcy] at HOY0
          clear hcs hcy
          go_loopw [14, 81] (fun v i wr => ∃ (q : Nat) (A9 : Option Addr) (c9 : Nat), q ≤ k ∧ i = .int .i64 (q : Int) ∧ v = .slice A9 (q + 1) c9 ∧ Hid (wr.ownsRow w4.heap.size 5 1 v (q + 1) ((sb :: cy.take q).map B)) ∧ Hid (Below w4.heap.size w4 wr)) (fun _ i _ => k - (intOf i).toNat)
          case atStart => exact ⟨0, _, 1, by omega, rfl, rfl, HOY0, HBY0⟩
          case round =>
            obtain ⟨q, A9, c9, hqk, rfl, rfl, hown, hby⟩ := hrel
            by_cases hqn : q < k
            · obtain ⟨g', o', Ad, nd, cd, e', y1, y2, y3⟩ := H.out.at_ (below_then HB1.out (below_then HBW.out hby.out)) hqn
              subst e'
              obtain rfl : nd = ns := by rw [← y3.1]; exact HQ.out q (by rw [HL.out]; exact hqn)
              obtain ⟨gd, od, rfl, y4⟩ := y3.at_ (Below.refl _ _) hbl
              obtain ⟨y, hy⟩ : ∃ y, y = gB (gS l q).2 b := ⟨_, rfl⟩
              have HY := Lib.hid (HCY0.out q hqn)
              rw [← hy] at y4 HY
              clear hy y3
              obtain ⟨wt, hwt⟩ : ∃ wt, wt = wr.alloc (.cells #[.int .i64 (gS l q).1, .slice (some ⟨gd, od, none⟩) nd cd] 33) := ⟨_, rfl⟩
              have hbt : Below wr.heap.size wr wt := by rw [hwt]; exact (Below.refl _ _).alloc (Nat.le_refl _) _
              have y4' := cell_kept hbt y4
              rw [hwt] at y4'
              obtain ⟨ws, hws⟩ : ∃ ws, ws = wt.alloc (.cells #[B y] 5) := ⟨_, rfl⟩
              have hbs : Below wr.heap.size wr ws := by rw [hws]; exact hbt.alloc hbt.size _
              have HOS := Lib.hid (Kp.own (S := fun _ => False) (Kp.of_below hbs) hown.out (fun _ _ => id))
              have HBS := Lib.hid (below_then hby.out hbs)
              have HKS : Hid (Blk ws (wr.heap.size + 1) 5 #[B y]) := Lib.hid (by
                rw [hws, hwt]
                have := Blk.new (wr.alloc (.cells #[.int .i64 (gS l q).1, .slice (some ⟨gd, od, none⟩) nd cd] 33)) 5 #[B y]
                rw [World.size_alloc] at this
                exact this)
              rw [hwt] at hws
              have HWS := Lib.hid hws
              clear hbs hws hwt hbt hown hby y4
              go_wp2_with (first
                | (at_builtin; rw [← HWS.out]; refine wpList_app1 ws rfl (.tmp 85) (.tmp 91) 22 5 (.int .u8 0) 1 Try.underlying22 infoU8 rfl rfl w4.heap.size (.slice A9 (q + 1) c9) (q + 1) ((sb :: cy.take q).map B) rfl HOS.out (wr.heap.size + 1) 1 5 (B y) rfl HKS.out rfl (by omega) (by omega) HBS.out.size ?_; intro v6 w6 hp6))
              obtain ⟨m6, g6, cap6, hm6, rfl⟩ := own_form (by omega) hp6.1
              have HO6 : Hid (w6.ownsRow w4.heap.size 5 1 (.slice (some ⟨g6, 0, none⟩) (q + 1 + 1) cap6) (q + 1 + 1) ((sb :: cy.take (q + 1)).map B)) := Lib.hid (by
                have h1 := hp6.1
                rw [hm6] at h1
                rw [← HY.out]
                simpa using h1)
              have HB6 : Hid (Below w4.heap.size w4 w6) := Lib.hid (HBS.out.grown hp6.2.1 HBS.out.size (fun b hb' => own_base HOS.out b hb'))
              subst hm6
              clear hp6
              go_roundw
              case rel => exact ⟨q + 1, _, cap6, by omega, by go_num, rfl, HO6, HB6⟩
              case measure => simp [intOf]; omega
            · obtain rfl : q = k := by omega
              obtain ⟨A9', c9', e9, hy9⟩ := BS.of_own hown.out (by unfold lim; omega)
              injection e9 with e91 e92 e93
              subst e91 e93
              have HYS : Hid (BS wr A9 (q + 1) c9 (fiY s l b)) := Lib.hid (by
                rw [List.take_of_length_le (by rw [HCYE.out, coY, tab_length, HL.out]; exact Nat.le_refl _), HCYE.out, HSB.out] at hy9
                exact hy9)
              have HXW : Hid (BS wr A8 (q + 1) c8 (fiX l)) := Lib.hid ((far_kept HXS.out hkp.out HXF.out).kept hby.out)
              clear hy9 e92
              go_wp2_with fail
              refine (interp_any A8 A9 (q + 1) c8 c9 _ _ wr HXW.out HYS.out (by omega) HDS.out).mono ?_
              rintro e w7 ⟨vp, rp, rfl, Ap, np, cp, rfl, h71, h72, h73⟩
              have HP7 : Hid (BS w7 Ap np cp (fiP s l b)) := Lib.hid h71
              have hnp : np ≤ q + 1 := by rw [← h71.1]; have := fiP_len s l b; rw [HL.out] at this; exact this
              have HB7 : Hid (Below w4.heap.size w4 w7) := Lib.hid (below_then hby.out h73)
              have HT7 : Hid (Tab w7 w1.heap.size gO q q ns G (fiT s l b 1)) := Lib.hid (htab.out.kept HB7.out)
              have HPF : Hid (AtB Ap (fun b => ¬ ∃ i, i < q ∧ b = G i)) := Lib.hid (fun a e ⟨i, hi, hbi⟩ => by
                have h1 := h72 a e
                have h2 := HGK.out i hi
                have h3 := hkp.out.size
                have h4 := hby.out.size
                omega)
              clear h71 h72 h73
              go_wp2_with fail
              go_loopw [19] (fun i wr => ∃ r : Nat, r ≤ q ∧ i = .int .i64 ((r : Int) + 1) ∧ Hid (Tab wr w1.heap.size gO q q ns G (fiT s l b (r + 1))) ∧ Hid (Kp (fun b => ∃ i, i < q ∧ b = G i) w7 wr)) (fun i _ => q + 1 - (intOf i).toNat)
              case atStart => exact ⟨0, by omega, rfl, HT7, Lib.hid (Kp.refl _ _)⟩
              case round =>
                obtain ⟨r, hrq, rfl, ht, hk7⟩ := hrel
                by_cases hrp : r + 1 < np
                · have hrn : r < q := by omega
                  have q4 : decide ((r : Int) + 1 < (np : Int)) = true := by simp; omega
                  have HPW := far_kept HP7.out hk7.out HPF.out
                  obtain ⟨gp, op, rfl, z1⟩ := HPW.at_ (Below.refl _ _) hrp
                  have z2 := ht.out.cell hrn
                  have z3 := ht.out.at_ hrn hbl
                  have z4 := ht.out.frozen hrn b
                  have HPUT := Lib.hid (ht.out.drew.put hrn b (gB (fiP s l b) (r + 1)))
                  rw [fiT_put s l b r (by rw [HL.out]; exact hrn) (by rw [HLS.out]; exact hbl)] at HPUT
                  have HKU : Hid (Kp (fun b => ∃ i, i < q ∧ b = G i) w7 (wr.drew.setCell ⟨G r, b, none⟩ (B (gB (fiP s l b) (r + 1))))) := Lib.hid (hk7.out.drew.set (.inl ⟨r, hrn, rfl⟩) _)
                  have s5 : (r : Int) + 1 - 1 = (r : Int) := by omega
                  have s6 : IntKind.i64.wrap (r : Int) = (r : Int) := by rw [IntKind.wrap_i64]; omega
                  have s7 : IntKind.i64.wrap ((r : Int) + 1) = (r : Int) + 1 := by rw [IntKind.wrap_i64]; omega
                  have s8 : (0 : Int) ≤ (r : Int) := by omega
                  have s9 : (r : Int) < (q : Int) := by omega
                  have s10 : (0 : Int) ≤ (r : Int) + 1 := by omega
                  have s11 : (r : Int) + 1 < (np : Int) := by omega
                  clear HPW
                  go_wp2_with fail
                  refine Text.wp_region_text (fun _ => True) [(0, 4), (1, 4), (2, 4), (3, 4), (5, 4), (6, 4), (7, 4), (8, 4), (4, 1), (9, 1), (10, 4), (11, 2)] (by kernel_rfl) (by kernel_rfl) (fun _ _ _ _ _ h => h) (trivial) ?_
                  iterate 8 (refine Text.purek rfl rfl (fun K hK => ⟨_, fun w' => by go_simp <;> rfl, ?_⟩); go_simp; refine hK _ ?_; clear hK K)
                  iterate 2 (refine Text.readk rfl rfl (fun K hK => ⟨_, by go_simp <;> rfl, ?_⟩); go_simp; refine hK _ ?_; clear hK K)
                  (refine Text.purek rfl rfl (fun K hK => ⟨_, fun w' => by go_simp <;> rfl, ?_⟩); go_simp; refine hK _ ?_; clear hK K)
                  refine Text.eff rfl rfl (fun K hK => ?_)
                  go_simp
                  refine hK _ _ trivial ?_
                  clear hK K
                  refine Text.done ?_
                  clear s5 s6 s7 s8 s9 s10 s11
                  go_wp2_with fail
                  go_roundw
                  case rel => exact ⟨r + 1, by omega, by go_num, HPUT, HKU⟩
                  case measure => simp [intOf]; omega
                · have q4 : decide ((r : Int) + 1 < (np : Int)) = false := by simp; omega
                  have HNX : Hid (Tab wr w1.heap.size gO q q ns G (fiT s l (b + 1) 1)) := Lib.hid (by rw [← fiT_next s l b (r + 1) (by rw [HP7.out.1]; omega)]; exact ht.out)
                  have HKX : Hid (Kp (fun b => ∃ i, i < q ∧ b = G i) w3 wr) := Lib.hid ((hkp.out.trans (Kp.of_below HB7.out)).trans hk7.out)
                  go_wp2_with fail
                  go_roundw
                  case rel => exact ⟨b + 1, by omega, by go_num, HNX, HKX⟩
                  case measure => simp [intOf]; omega
        · obtain rfl : b = ns := by omega
          have HLM : Hid ((fiM s l).length = k) := Lib.hid (by rw [fiM, List.length_map, List.length_range, HL.out])
          have HFR : Hid (FitRet (fiM s l) b w (.returned (.tuple #[.slice (some ⟨gO, 0, none⟩) k k, .int .i64 0])) wr) := Lib.hid (by
            refine ⟨gO, G, by rw [HLM.out], ?_, below_then HB1.out hbw⟩
            rw [HLM.out, ← fiT_end s l, HLS.out]
            have ht := htab.out
            exact ⟨ht.len, ht.rect, ht.outer, ht.rows, ht.inj, ht.far, Nat.le_trans HB1.out.size ht.old.1, fun i hi => Nat.le_trans HB1.out.size (ht.old.2 i hi)⟩)
          go_wp2_with fail
          go_ret2
          exact HFR.out
end Go.Proofs.Ytakedococfklgaa
