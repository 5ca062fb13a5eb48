/- shamir.Refresh, for every input. -/
import Derived.Test.YtakedococfklgaaB3
import Derived.Test.YtakedococfklgaaB2
import Derived.Test.YtakedococfklgaaAw1m
namespace Go.Proofs.Ytakedococfklgaa
open Go.RowKit Gf

/-- The error of Refresh. -/
def rfE (l : List (Int × List UInt8)) (co : List (List UInt8)) : Int := if shB l && decide (co.length < 16) then (if l.length = 0 then 0 else if ltB co (gS l 0).2.length then 0 else 1) else 1
/-- The refreshed shares, k of them. -/
def rfK (l : List (Int × List UInt8)) (co : List (List UInt8)) : Nat → List (Int × List UInt8)
  | 0 => []
  | k + 1 => rfK l co k ++ [((gS l k).1, muladd (gS l k).2 (evl (splM (zeros (gS l 0).2.length) co) (gX l k)) 1)]
theorem rfK_length (l : List (Int × List UInt8)) (co : List (List UInt8)) : ∀ k, (rfK l co k).length = k
  | 0 => rfl
  | k + 1 => by rw [rfK, List.length_append, rfK_length l co k]; rfl
def rfL (l : List (Int × List UInt8)) (co : List (List UInt8)) : List (Int × List UInt8) := if rfE l co = 0 then rfK l co l.length else []
def RfrRet (l : List (Int × List UInt8)) (co : List (List UInt8)) (w : World) (e : Ending) (w' : World) : Prop :=
  ∃ v, e = .returned (.tuple #[v, .int .i64 (rfE l co)]) ∧ OwnS w' w.heap.size v (rfL l co).length (rfL l co) ∧ Below w.heap.size w w'
theorem evl_length {m : List (List UInt8)} (x : UInt8) {L : Nat} (h0 : (gR m 0).length = L) (hm : ∀ j, j < m.length → (gR m j).length = L) : (evl m x).length = L := by
  have h : ∀ j, j ≤ m.length → (hor m x L j).length = L := by
    intro j
    induction j with
    | zero => intro _; exact zeros_length L
    | succ j ih => intro hj; have h1 := ih (by omega); rw [hor, muladd_length _ _ _ (by rw [hm _ (by omega), h1]), h1]
  rw [evl, h0]; exact h _ (Nat.le_refl _)

set_option maxRecDepth 100000 in
set_option maxHeartbeats 4000000 in
theorem refresh_any (A Ac : Option Addr) (n c nc cc : Nat) (l : List (Int × List UInt8)) (co : List (List UInt8)) (w : World) (h : SS w A n c l) (hc : MS w Ac nc cc co) :
    Calls Try.prog 33 #[.slice A n c, .slice Ac nc cc] w (RfrRet l co w) := by
  have HL := Lib.hid h.1
  have HLC := Lib.hid hc.1
  have hn := h.len_le
  have hnc := hc.len_le
  have H := Lib.hid h
  have HC := Lib.hid hc
  clear h hc
  cases hs : shB l with
  | false =>
    have HE : Hid (rfE l co = 1) := Lib.hid (by unfold rfE; rw [hs]; rfl)
    have HF : Hid (rfL l co = []) := Lib.hid (by unfold rfL; rw [HE.out]; rfl)
    have HSH := Lib.hid hs
    clear hs
    go_enter Try.func33, Try.ntmps33
    go_wp2_with fail
    refine (validShares_any _ _ _ _ _ H.out).mono ?_
    rintro e w1 ⟨rfl, hb1⟩
    rw [HSH.out]
    have HB1 := Lib.hid hb1
    clear hb1
    go_wp2_with fail
    go_ret2
    exact ⟨_, by rw [HE.out]; rfl, by rw [HF.out]; exact OwnS.nil _ _, HB1.out⟩
  | true =>
    have HSH := Lib.hid hs
    obtain ⟨sp1, sp2, sp3, sp4, sp5⟩ := shB_spec hs
    by_cases h16 : nc < 16
    · have q1 : decide (16 ≤ (nc : Int)) = false := by simp; omega
      by_cases hz : n = 0
      · have q2 : ((n : Int) == 0) = true := by simp [hz]
        have HE : Hid (rfE l co = 0) := Lib.hid (by unfold rfE; rw [hs, HLC.out, decide_eq_true h16, Bool.and_self, if_pos rfl, if_pos (by rw [HL.out, hz])])
        have HF : Hid (rfL l co = []) := Lib.hid (by unfold rfL; rw [HE.out, if_pos rfl, HL.out, hz]; rfl)
        clear hs sp1 sp2 sp3 sp4 sp5 hz h16
        go_enter Try.func33, Try.ntmps33
        go_wp2_with fail
        refine (validShares_any _ _ _ _ _ H.out).mono ?_
        rintro e w1 ⟨rfl, hb1⟩
        rw [HSH.out]
        have HB1 := Lib.hid hb1
        clear hb1
        go_wp2_with fail
        go_ret2
        exact ⟨_, by rw [HE.out]; rfl, by rw [HF.out]; exact OwnS.nil _ _, HB1.out⟩
      · have q2 : ((n : Int) == 0) = false := by simp [hz]
        obtain ⟨L, hL⟩ : ∃ L, L = (gS l 0).2.length := ⟨_, rfl⟩
        have HLL := Lib.hid hL
        have HEQ : Hid (Eql l L) := Lib.hid (by rw [hL]; exact sp2)
        have HX : Hid (∀ k, k < n → 1 ≤ (gS l k).1 ∧ (gS l k).1 ≤ 255) := Lib.hid (fun k hk => sp4 k (by rw [HL.out]; exact hk))
        have HN64 : Hid (n ≤ 64) := Lib.hid (by rw [HL.out] at sp1; exact sp1)
        have hL2 : L ≤ 140737488355328 := by have := sp3 0 (by rw [HL.out]; omega); omega
        have HNC16 := Lib.hid h16
        have hn0 : 0 < n := by omega
        cases hl : ltB co (L : Int) with
        | false =>
          have HLT := Lib.hid hl
          have HE : Hid (rfE l co = 1) := Lib.hid (by unfold rfE; rw [hs, HLC.out, decide_eq_true h16, Bool.and_self, if_pos rfl, if_neg (by rw [HL.out]; exact hz), ← HLL.out, hl]; rfl)
          have HF : Hid (rfL l co = []) := Lib.hid (by unfold rfL; rw [HE.out]; rfl)
          clear hs sp1 sp2 sp3 sp4 sp5 hz h16 hL hl
          go_enter Try.func33, Try.ntmps33
          go_wp2_with fail
          refine (validShares_any _ _ _ _ _ H.out).mono ?_
          rintro e w1 ⟨rfl, hb1⟩
          rw [HSH.out]
          have HB1 := Lib.hid hb1
          obtain ⟨g0, o0, A0, n0, c0, rfl, r1, r2, r3⟩ := H.out.at_ hb1 hn0
          obtain rfl : n0 = L := by rw [HLL.out]; exact r3.1.symm
          have HC1 := Lib.hid (HC.out.kept hb1)
          simp only [Nat.zero_mul, Nat.add_zero] at r2
          clear hb1 r1 r3
          go_wp2_with fail
          refine (validLists_any Ac nc cc co (n0 : Int) w1 HC1.out).mono ?_
          rintro e w' ⟨rfl, rfl⟩
          rw [HLT.out]
          go_wp2_with fail
          go_ret2
          exact ⟨_, by rw [HE.out]; rfl, by rw [HF.out]; exact OwnS.nil _ _, HB1.out⟩
        | true =>
          have HLT := Lib.hid hl
          have HE : Hid (rfE l co = 0) := Lib.hid (by unfold rfE; rw [hs, HLC.out, decide_eq_true h16, Bool.and_self, if_pos rfl, if_neg (by rw [HL.out]; exact hz), ← HLL.out, hl]; rfl)
          have HF : Hid (rfL l co = rfK l co n) := Lib.hid (by unfold rfL; rw [HE.out, if_pos rfl, HL.out])
          have HCL : Hid (∀ i, i < nc → (gR co i).length = L) := Lib.hid (fun i hi => by
            unfold ltB at hl
            rw [Bool.and_eq_true, List.all_eq_true] at hl
            have := hl.1 i (List.mem_range.2 (by rw [HLC.out]; exact hi))
            simp only [decide_eq_true_eq] at this
            omega)
          clear hs sp1 sp2 sp3 sp4 sp5 hz h16 hL hl
          go_enter Try.func33, Try.ntmps33
          go_wp2_with fail
          refine (validShares_any _ _ _ _ _ H.out).mono ?_
          rintro e w1 ⟨rfl, hb1⟩
          rw [HSH.out]
          have HB1 := Lib.hid hb1
          obtain ⟨g0, o0, A0, n0, c0, rfl, r1, r2, r3⟩ := H.out.at_ hb1 hn0
          obtain rfl : n0 = L := by rw [HLL.out]; exact r3.1.symm
          have H1 := Lib.hid (H.out.kept hb1)
          have HC1 := Lib.hid (HC.out.kept hb1)
          simp only [Nat.zero_mul, Nat.add_zero] at r2
          clear hb1 r1 r3
          go_wp2_with fail
          refine (validLists_any Ac nc cc co (n0 : Int) w1 HC1.out).mono ?_
          rintro e w' ⟨rfl, rfl⟩
          rw [HLT.out]
          have hmk := make_bytes n0 hL2
          go_wp2_with fail
          clear hmk
          obtain ⟨W2, hW2⟩ : ∃ W2, W2 = ((w1.alloc (.cells (row (zeros n0)) 5)).alloc (.cells #[.slice (some ⟨w1.heap.size, 0, none⟩) n0 n0] 22)).alloc (.cells #[.slice (some ⟨w1.heap.size + 1, 0, none⟩) 1 1, .slice Ac nc cc] 23) := ⟨_, rfl⟩
          have hb2 : Below w1.heap.size w1 W2 := by rw [hW2]; exact below_then (below_then (kb1 _ _) (kb1 _ _)) (kb1 _ _)
          have kz : Blk W2 w1.heap.size 5 (row (zeros n0)) := by rw [hW2]; exact ((blk_at rfl _ _).alloc _).alloc _
          have k2 : Blk W2 (w1.heap.size + 1) 22 #[.slice (some ⟨w1.heap.size, 0, none⟩) n0 n0] := by rw [hW2]; exact (blk_at (by simp) _ _).alloc _
          have k3 : Blk W2 (w1.heap.size + 1 + 1) 23 #[.slice (some ⟨w1.heap.size + 1, 0, none⟩) 1 1, .slice Ac nc cc] := by rw [hW2]; exact blk_at (by simp) _ _
          have hm2 : MS W2 (some ⟨w1.heap.size + 1, 0, none⟩) 1 1 [zeros n0] := ⟨rfl, Nat.le_refl _, by decide, fun k hk => by
            obtain rfl : k = 0 := by omega
            exact ⟨_, 0, _, n0, n0, rfl, by rw [k2.cell]; rfl, BS.of_blk kz (zeros_length n0) (by unfold lim; omega)⟩⟩
          rw [← hW2]
          clear hW2
          refine (concat_any (w1.heap.size + 1 + 1) _ Ac 1 1 nc cc [zeros n0] co W2 k3 hm2 (HC1.out.kept hb2) (by omega) (by have := HNC16.out; omega) (by have := HNC16.out; omega)).mono ?_
          rintro e w3 ⟨A3, c3, rfl, h31, h32⟩
          have hlen : (1 : Nat) + nc = ([zeros n0] ++ co).length := by rw [List.length_append, HLC.out]; rfl
          obtain ⟨n3, hn3⟩ : ∃ n3, n3 = ([zeros n0] ++ co).length := ⟨_, rfl⟩
          rw [← hn3] at h31 hlen
          rw [← hn3]
          have H31 := Lib.hid h31
          have HB3 := Lib.hid (below_then HB1.out (below_then hb2 h32))
          have H3 := Lib.hid ((H1.out.kept hb2).kept h32)
          have HN3 := Lib.hid hlen
          have hn30 : 0 < n3 := by omega
          clear h31 h32 hb2 kz k2 k3 hm2 hn3 hlen HC1 H1
          go_wp2_with fail
          refine (evaluator_any A3 n3 c3 w3).mono ?_
          rintro e w' ⟨rfl, rfl⟩
          have hb4 : Below w3.heap.size w3 (w3.alloc (.cells #[.slice A3 n3 c3] 23)) := kb1 _ _
          have k4 := Blk.new w3 23 #[.slice A3 n3 c3]
          obtain ⟨W4, hW4⟩ : ∃ W4, W4 = w3.alloc (.cells #[.slice A3 n3 c3] 23) := ⟨_, rfl⟩
          rw [← hW4] at hb4 k4 ⊢
          have H41 := Lib.hid (H31.out.kept hb4)
          have HB4 := Lib.hid (below_then HB3.out hb4)
          have H4 := Lib.hid (H3.out.kept hb4)
          have HK4 := Lib.hid k4
          have hmk := make_shares n (by have := HN64.out; omega)
          clear hb4 k4 hW4 H31 HB3 H3
          go_wp2_with fail
          clear hmk
          obtain ⟨W5, hW5⟩ : ∃ W5, W5 = W4.alloc (.cells (madeCells #[.int .i64 0, .slice none 0 0] (n * 2)) 33) := ⟨_, rfl⟩
          have hb5 : Below W4.heap.size W4 W5 := by rw [hW5]; exact kb1 _ _
          have ho5 : OwnS W5 W4.heap.size (.slice (some ⟨W4.heap.size, 0, none⟩) 0 n) 0 [] := ⟨rfl, [], rfl, ⟨rfl, .inr ⟨W4.heap.size, n, _, rfl, Nat.le_refl _, by rw [hW5]; exact heap_alloc_new W4 _, by omega, by unfold maxLen; omega, size_madeCells _ _, rfl⟩⟩, fun j hj => absurd hj (by omega)⟩
          rw [← hW5]
          have HB5 := Lib.hid hb5
          have HO5 := Lib.hid ho5
          clear hb5 ho5 hW5
          go_loopw [8, 45] (fun v i wr => ∃ k : Nat, k ≤ n ∧ i = .int .i64 (k : Int) ∧ Hid (OwnS wr W4.heap.size v k (rfK l co k)) ∧ Hid (Below W4.heap.size W4 wr)) (fun _ i _ => n - (intOf i).toNat)
          case atStart => exact ⟨0, by omega, rfl, HO5, HB5⟩
          case round =>
            obtain ⟨k, hk, rfl, ho, hb⟩ := hrel
            by_cases hlt : k < n
            · obtain ⟨g6, o6, A6, n6, c6, e6, r1, r2, r3⟩ := H4.out.at_ hb.out hlt
              injection e6 with e6
              injection e6 with e61 e62
              subst e61 e62
              obtain rfl : n6 = n0 := by rw [← r3.1]; exact HEQ.out k (by rw [HL.out]; exact hlt)
              obtain ⟨x, hx⟩ : ∃ x, x = gX l k := ⟨_, rfl⟩
              have HXV : Hid ((gS l k).1 = bv x) := Lib.hid (by rw [hx]; exact gX_eq (by have := HX.out k hlt; omega) (by have := HX.out k hlt; omega))
              rw [HXV.out] at r1
              have HXX := Lib.hid hx
              have hb6 := kb1 wr (.cells #[.int .i64 (bv x), .slice A6 n6 c6] 33)
              obtain ⟨W6, hW6⟩ : ∃ W, W = wr.alloc (.cells #[.int .i64 (bv x), .slice A6 n6 c6] 33) := ⟨_, rfl⟩
              have k6 : Blk W6 wr.heap.size 33 #[.int .i64 (bv x), .slice A6 n6 c6] := by rw [hW6]; exact blk_at rfl _ _
              rw [← hW6] at hb6
              have p0 : W6.cell? ⟨wr.heap.size, 0, none⟩ = some (.int .i64 (bv x)) := by rw [k6.cell]; rfl
              have p1 : W6.cell? ⟨wr.heap.size, 1, none⟩ = some (.slice A6 n6 c6) := by rw [k6.cell]; rfl
              have HR6 := Lib.hid (r3.kept hb6)
              have HB6 := Lib.hid (below_then hb.out hb6)
              have HO6 := Lib.hid (ho.out.kept hb6)
              have HK6 := Lib.hid k6
              have HOB := Lib.hid (ho.out.base)
              have HS6 : Hid (W6.heap.size = wr.heap.size + 1) := Lib.hid (by rw [hW6]; simp)
              clear hx r3 ho hb hb6 k6
              go_wp2_with fail
              rw [← hW6]
              clear hW6
              refine Text.wp_region_text (fun w' => w'.cell? ⟨wr.heap.size, 1, none⟩ = some (.slice A6 n6 c6)) [(0, 4), (2, 4), (3, 4), (1, 0), (4, 1), (5, 2), (6, 2), (7, 4), (8, 4), (9, 4), (10, 4), (11, 4)] (by kernel_rfl) (by kernel_rfl) (fun _ _ _ _ _ h => h) (p1) ?_
              iterate 3 (refine Text.purek rfl rfl (fun K hK => ⟨_, fun w' => by go_simp <;> rfl, ?_⟩); go_simp; refine hK _ ?_; clear hK K)
              (refine Text.heldk rfl rfl (fun K hK => ⟨_, fun w' hw' => by go_simp <;> rfl, ?_⟩); go_simp; refine hK _ ?_; clear hK K)
              (refine Text.readk rfl rfl (fun K hK => ⟨_, by go_simp <;> rfl, ?_⟩); go_simp; refine hK _ ?_; clear hK K)
              refine Text.eff rfl rfl (fun K hK => ?_)
              go_simp
              have HRW : Hid (∀ j, j < n3 → (gR ([zeros n6] ++ co) j).length = n6) := Lib.hid (fun j hj => by
                rw [gR_append]
                split
                · rename_i h9
                  obtain rfl : j = 0 := by simp at h9; omega
                  exact zeros_length n6
                · rename_i h9
                  have h10 : ([zeros n6] : List (List UInt8)).length = 1 := rfl
                  exact HCL.out _ (by have := HN3.out; omega))
              refine (eval1_any w3.heap.size A3 n3 c3 n6 _ x W6.drew (by rw [((HK4.out.kept HB6.out).drew).cell]; rfl) ((H41.out.kept HB6.out).drew) hn30 HRW.out).mono ?_
              rintro e w7 ⟨v7, rfl, A7, n7, c7, rfl, h71, h72, h73⟩
              have h73' := below_ofDrew h73
              obtain ⟨D, hD⟩ : ∃ D, D = evl ([zeros n6] ++ co) x := ⟨_, rfl⟩
              rw [← hD] at h71
              have hDl : D.length = n6 := by rw [hD]; exact evl_length x (zeros_length n6) (fun j hj => HRW.out j (by rw [List.length_append, HLC.out] at hj; have := HN3.out; simp at hj; omega))
              obtain rfl : n7 = n6 := by rw [← h71.1]; exact hDl
              refine hK _ _ (cell_kept h73' p1) ?_
              clear hK K
              have p1' := cell_kept h73' p1
              have HD := Lib.hid hD
              have HDL := Lib.hid hDl
              have H71 := Lib.hid h71
              have HR7 := Lib.hid (HR6.out.kept h73')
              have HB7 := Lib.hid (below_then HB6.out h73')
              have HO7 := Lib.hid (HO6.out.kept h73')
              have HK7 := Lib.hid (HK6.out.kept h73')
              have HS7 := Lib.hid h73'.size
              clear h71 h72 h73 h73' hD hDl HRW
              refine Text.eff rfl rfl (fun K hK => ?_)
              go_simp
              refine (muladd_any A6 A7 n7 c6 c7 (gS l k).2 D 1 w7 HR7.out H71.out).mono ?_
              rintro e w8 ⟨v8, rfl, g8, n8, rfl, hl8, hg8, hk8, hb8⟩
              refine hK _ _ (cell_kept hb8 p1') ?_
              clear hK K
              have hK8 := HK7.out.kept hb8
              have p3 : w8.cell? ⟨wr.heap.size, 0, none⟩ = some (.int .i64 (bv x)) := by rw [hK8.cell]; rfl
              obtain ⟨M, hM⟩ : ∃ M, M = muladd (gS l k).2 D 1 := ⟨_, rfl⟩
              rw [← hM] at hl8 hk8
              have HML := Lib.hid hl8
              have HMM := Lib.hid hM
              have hn8 : n8 = n7 := by rw [← hl8, hM, muladd_length _ _ _ (by rw [HR7.out.1, HDL.out]), HDL.out]
              subst hn8
              have H8 : Hid (BS w8 (some ⟨g8, 0, none⟩) n8 n8 M) := Lib.hid (BS.of_blk hk8 hl8 (by unfold lim; omega))
              have HB8 := Lib.hid (below_then HB7.out hb8)
              have HO8 := Lib.hid (HO7.out.kept hb8)
              have HG8 := Lib.hid hg8
              clear hl8 hg8 hk8 hb8 hK8 hM p1 p1'
              iterate 5 (refine Text.purek rfl rfl (fun K hK => ⟨_, fun w' => by go_simp <;> rfl, ?_⟩); go_simp; refine hK _ ?_; clear hK K)
              refine Text.done ?_
              have hb9 := kb1 w8 (.cells #[.int .i64 (bv x), .slice (some ⟨g8, 0, none⟩) n8 n8] 33)
              obtain ⟨hm9, q, hq, hown9, hps9⟩ := HO8.out.kept hb9
              have HW9 := Lib.hid hown9
              have HPS9 := Lib.hid hps9
              have HM9 := Lib.hid hm9
              have HQ9 := Lib.hid hq
              have H9 := Lib.hid (H8.out.kept hb9)
              have HB9 := Lib.hid (below_then HB8.out hb9)
              have HK32 : Hid ((k + 1) * 32 ≤ 140737488355328) := Lib.hid (by have := HN64.out; omega)
              clear hb9 hown9 hps9 hm9 hq
              go_wp2_with (first
                | (at_builtin; refine wpList_appS _ rfl (.tmp 59) (.tmp 64) rfl W4.heap.size u8 k (shC q) rfl HW9.out w8.heap.size 1 33 (.int .i64 (bv x)) (.slice (some ⟨g8, 0, none⟩) n8 n8) rfl (Blk.new w8 _ _) rfl rfl HK32.out HB9.out.size ?_; intro vA wA hpA))
              have hfar : 0 < n8 → AtB (some ⟨g8, 0, none⟩) (fun b => u8.ownBlock ≠ some b) := fun _ a e e' => by
                cases e
                have h1 := (HOB.out g8 e').2
                have h2 := HG8.out
                have h3 := HS7.out
                have h4 := HS6.out
                omega
              have HOA : Hid (OwnS wA W4.heap.size vA (k + 1) (rfK l co (k + 1))) := Lib.hid (by
                have h1 := OwnS.push HM9.out HQ9.out HPS9.out H9.out hfar hpA
                rw [rfK, HXV.out, ← HXX.out, ← HLL.out]
                rw [HMM.out, HD.out] at h1
                exact h1)
              have HBA : Hid (Below W4.heap.size W4 wA) := Lib.hid (HB9.out.grown hpA.2.1 HB9.out.size (fun b hb' => (HOB.out b hb').1))
              clear hpA hfar
              go_wp2_with fail
              go_roundw
              case rel => exact ⟨k + 1, by omega, by go_num, HOA, HBA⟩
              case measure => simp [intOf]; omega
            · obtain rfl : k = n := by omega
              have HFF : Hid (OwnS wr w.heap.size u8 (rfL l co).length (rfL l co)) := Lib.hid (by
                rw [HF.out, rfK_length]
                exact ho.out.mono HB4.out.size)
              have HBF := Lib.hid (below_then HB4.out hb.out)
              go_wp2_with fail
              go_ret2
              exact ⟨_, by rw [HE.out]; rfl, HFF.out, HBF.out⟩
    · have q1 : decide (16 ≤ (nc : Int)) = true := by simp; omega
      have HE : Hid (rfE l co = 1) := Lib.hid (by unfold rfE; rw [HLC.out, decide_eq_false h16, Bool.and_false]; rfl)
      have HF : Hid (rfL l co = []) := Lib.hid (by unfold rfL; rw [HE.out]; rfl)
      clear hs sp1 sp2 sp3 sp4 sp5 h16
      go_enter Try.func33, Try.ntmps33
      go_wp2_with fail
      refine (validShares_any _ _ _ _ _ H.out).mono ?_
      rintro e w1 ⟨rfl, hb1⟩
      rw [HSH.out]
      have HB1 := Lib.hid hb1
      clear hb1
      go_wp2_with fail
      go_ret2
      exact ⟨_, by rw [HE.out]; rfl, by rw [HF.out]; exact OwnS.nil _ _, HB1.out⟩
end Go.Proofs.Ytakedococfklgaa
