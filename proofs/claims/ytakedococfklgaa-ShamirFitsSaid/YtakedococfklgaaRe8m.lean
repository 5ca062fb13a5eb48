/- Contracts of kinkeepref10.Shares and kinkeeplaw10.long. -/
import Derived.Test.YtakedococfklgaaRe7m
namespace Go.Proofs.Ytakedococfklgaa
open Go.RowKit Gf

theorem shB_eq (l : List (Int × List UInt8)) : shB l = ((List.range l.length).all (dOk l) && (decide (l.length ≤ 64) && dsB (xsL l))) := by
  unfold shB; rw [xsB_eq]
  have : (xsL l).length = l.length := by rw [xsL, List.length_map]
  rw [this]

set_option maxRecDepth 100000 in
set_option maxHeartbeats 1000000 in
theorem rshares_any (A : Option Addr) (n c : Nat) (l : List (Int × List UInt8)) (w : World) (h : SS w A n c l) :
    Calls Try.prog 20 #[.slice A n c] w (ChkB (shB l) w) := by
  have hn := h.len_le
  have H := Lib.hid h
  have HL := Lib.hid h.1
  clear h
  go_enter Try.func20, Try.ntmps20
  go_wp2_with fail
  go_loopw [7] (fun i wr => ∃ k : Nat, k ≤ n ∧ i = .int .i64 (k : Int) ∧ Hid (∀ j, j < k → dOk l j = true) ∧ Hid (Below w.heap.size w wr)) (fun i _ => n - (intOf i).toNat)
  case atStart => exact ⟨0, by omega, rfl, Lib.hid (fun j hj => absurd hj (by omega)), Lib.hid (Below.refl _ _)⟩
  case round =>
    obtain ⟨k, hk, rfl, hall, hb⟩ := hrel
    by_cases hlt : k < n
    · obtain ⟨g1, o1, A1, n1, c1, rfl, q1, q2, q3⟩ := H.out.at_ hb.out hlt
      obtain ⟨g2, o2, A2, n2, c2, e2, r1, r2, r3⟩ := H.out.at_ hb.out (k := 0) (by omega)
      injection e2 with e2
      injection e2 with e21 e22
      subst e21 e22
      simp only [Nat.zero_mul, Nat.add_zero] at r2
      obtain ⟨y, hy⟩ : ∃ y, y = (gS l k).1 := ⟨_, rfl⟩
      rw [← hy] at q1
      have HN1 := Lib.hid q3.1
      have HN2 := Lib.hid r3.1
      have hn0 : 0 < n := by omega
      have hb7 := kb1 wr (.cells #[.int .i64 y, .slice A1 n1 c1] 33)
      have k7 := Blk.new wr 33 #[.int .i64 y, .slice A1 n1 c1]
      have r2' := cell_kept hb7 r2
      obtain ⟨W7, hW7⟩ : ∃ W, W = wr.alloc (.cells #[.int .i64 y, .slice A1 n1 c1] 33) := ⟨_, rfl⟩
      rw [← hW7] at hb7 k7 r2'
      have p1 : W7.cell? ⟨wr.heap.size, 1, none⟩ = some (.slice A1 n1 c1) := by rw [k7.cell]; rfl
      have HB7 := Lib.hid (below_then hb.out hb7)
      clear hy q3 r3 r1
      by_cases e1 : n1 = n2
      · have t1 : ((n1 : Int) != (n2 : Int)) = false := by simp; omega
        by_cases e3 : 1024 < n1
        · have t2 : decide (1024 < (n1 : Int)) = true := by simp; omega
          have HF : Hid (shB l = false) := Lib.hid (shB_false (i := k) (by rw [HL.out]; exact hlt) (by unfold dOk; rw [HN1.out]; exact decide_eq_false fun h => by omega))
          clear e1 e3 hb7 k7
          go_wp2_with fail
          rw [← hW7]
          clear hW7
          refine Text.wp_region_text (fun _ => True) [(0, 4), (3, 4), (4, 4), (5, 4), (1, 1), (2, 4), (6, 1), (7, 4), (8, 4), (9, 4), (10, 4), (11, 1), (12, 4), (13, 4), (14, 4)] (by kernel_rfl) (by kernel_rfl) (fun _ _ _ _ _ h => h) (trivial) ?_
          iterate 4 (refine Text.purek rfl rfl (fun K hK => ⟨_, fun w' => by go_simp <;> rfl, ?_⟩); go_simp; refine hK _ ?_; clear hK K)
          (refine Text.readk rfl rfl (fun K hK => ⟨_, by go_simp <;> rfl, ?_⟩); go_simp; refine hK _ ?_; clear hK K)
          (refine Text.purek rfl rfl (fun K hK => ⟨_, fun w' => by go_simp <;> rfl, ?_⟩); go_simp; refine hK _ ?_; clear hK K)
          (refine Text.readk rfl rfl (fun K hK => ⟨_, by go_simp <;> rfl, ?_⟩); go_simp; refine hK _ ?_; clear hK K)
          iterate 4 (refine Text.purek rfl rfl (fun K hK => ⟨_, fun w' => by go_simp <;> rfl, ?_⟩); go_simp; refine hK _ ?_; clear hK K)
          (refine Text.readk rfl rfl (fun K hK => ⟨_, by go_simp <;> rfl, ?_⟩); go_simp; refine hK _ ?_; clear hK K)
          iterate 3 (refine Text.purek rfl rfl (fun K hK => ⟨_, fun w' => by go_simp <;> rfl, ?_⟩); go_simp; refine hK _ ?_; clear hK K)
          refine Text.done ?_
          go_wp2_with fail
          go_ret
          exact ⟨ret_bool HF.out.symm, HB7.out.drew⟩
        · have t2 : decide (1024 < (n1 : Int)) = false := by simp; omega
          have HA : Hid (∀ j, j < k + 1 → dOk l j = true) := Lib.hid (fun j hj => by
            by_cases e : j = k
            · rw [e]; unfold dOk; rw [HN1.out, HN2.out]; exact decide_eq_true ⟨e1, by omega⟩
            · exact hall.out j (by omega))
          clear e1 e3 hb7 k7
          go_wp2_with fail
          rw [← hW7]
          clear hW7
          refine Text.wp_region_text (fun _ => True) [(0, 4), (3, 4), (4, 4), (5, 4), (1, 1), (2, 4), (6, 1), (7, 4), (8, 4), (9, 4), (10, 4), (11, 1), (12, 4), (13, 4), (14, 4)] (by kernel_rfl) (by kernel_rfl) (fun _ _ _ _ _ h => h) (trivial) ?_
          iterate 4 (refine Text.purek rfl rfl (fun K hK => ⟨_, fun w' => by go_simp <;> rfl, ?_⟩); go_simp; refine hK _ ?_; clear hK K)
          (refine Text.readk rfl rfl (fun K hK => ⟨_, by go_simp <;> rfl, ?_⟩); go_simp; refine hK _ ?_; clear hK K)
          (refine Text.purek rfl rfl (fun K hK => ⟨_, fun w' => by go_simp <;> rfl, ?_⟩); go_simp; refine hK _ ?_; clear hK K)
          (refine Text.readk rfl rfl (fun K hK => ⟨_, by go_simp <;> rfl, ?_⟩); go_simp; refine hK _ ?_; clear hK K)
          iterate 4 (refine Text.purek rfl rfl (fun K hK => ⟨_, fun w' => by go_simp <;> rfl, ?_⟩); go_simp; refine hK _ ?_; clear hK K)
          (refine Text.readk rfl rfl (fun K hK => ⟨_, by go_simp <;> rfl, ?_⟩); go_simp; refine hK _ ?_; clear hK K)
          iterate 3 (refine Text.purek rfl rfl (fun K hK => ⟨_, fun w' => by go_simp <;> rfl, ?_⟩); go_simp; refine hK _ ?_; clear hK K)
          refine Text.done ?_
          go_wp2_with fail
          go_roundw
          case rel => exact ⟨k + 1, by omega, by go_num, HA, Lib.hid HB7.out.drew⟩
          case measure => simp [intOf]; omega
      · have t1 : ((n1 : Int) != (n2 : Int)) = true := by simp; omega
        have HF : Hid (shB l = false) := Lib.hid (shB_false (i := k) (by rw [HL.out]; exact hlt) (by unfold dOk; rw [HN1.out, HN2.out]; exact decide_eq_false fun h => e1 h.1))
        clear e1 hb7 k7
        go_wp2_with fail
        rw [← hW7]
        clear hW7
        refine Text.wp_region_text (fun _ => True) [(0, 4), (3, 4), (4, 4), (5, 4), (1, 1), (2, 4), (6, 1), (7, 4), (8, 4), (9, 4), (10, 4), (11, 4), (12, 4), (13, 4), (14, 4)] (by kernel_rfl) (by kernel_rfl) (fun _ _ _ _ _ h => h) (trivial) ?_
        iterate 4 (refine Text.purek rfl rfl (fun K hK => ⟨_, fun w' => by go_simp <;> rfl, ?_⟩); go_simp; refine hK _ ?_; clear hK K)
        (refine Text.readk rfl rfl (fun K hK => ⟨_, by go_simp <;> rfl, ?_⟩); go_simp; refine hK _ ?_; clear hK K)
        (refine Text.purek rfl rfl (fun K hK => ⟨_, fun w' => by go_simp <;> rfl, ?_⟩); go_simp; refine hK _ ?_; clear hK K)
        (refine Text.readk rfl rfl (fun K hK => ⟨_, by go_simp <;> rfl, ?_⟩); go_simp; refine hK _ ?_; clear hK K)
        iterate 3 (refine Text.purek rfl rfl (fun K hK => ⟨_, fun w' => by go_simp <;> rfl, ?_⟩); go_simp; refine hK _ ?_; clear hK K)
        iterate 4 (refine Text.skipk (.inr (.inr rfl)) rfl rfl (fun K hK => ?_); go_simp; refine hK _ ?_; clear hK K)
        (refine Text.purek rfl rfl (fun K hK => ⟨_, fun w' => by go_simp <;> rfl, ?_⟩); go_simp; refine hK _ ?_; clear hK K)
        refine Text.done ?_
        go_wp2_with fail
        go_ret
        exact ⟨ret_bool HF.out.symm, HB7.out.drew⟩
    · obtain rfl : k = n := by omega
      have HAL : Hid ((List.range l.length).all (dOk l) = true) := Lib.hid (by rw [List.all_eq_true]; intro i hi; exact hall.out i (by rw [List.mem_range, HL.out] at hi; exact hi))
      by_cases h64 : k ≤ 64
      · have t1 : decide ((k : Int) ≤ 64) = true := by simp; omega
        have HR : Hid (shB l = dsB (xsL l)) := Lib.hid (by rw [shB_eq, HAL.out, HL.out, decide_eq_true h64]; rfl)
        have H64 := Lib.hid h64
        clear h64
        go_wp2_with fail
        refine (rxs_any A k c l wr (H.out.kept hb.out) H64.out).mono ?_
        rintro e w1 ⟨A1, c1, rfl, hi1, hx1⟩
        have HI := Lib.hid hi1
        have HB1 := Lib.hid (below_then hb.out hx1)
        clear hi1 hx1
        go_wp2_with fail
        refine (rdist_any A1 k c1 (xsL l) w1 HI.out).mono ?_
        rintro e w' ⟨rfl, rfl⟩
        go_wp2_with fail
        go_ret
        exact ⟨ret_bool HR.out.symm, HB1.out⟩
      · have t1 : decide ((k : Int) ≤ 64) = false := by simp; omega
        have HR : Hid (shB l = false) := Lib.hid (by rw [shB_eq, HL.out, decide_eq_false h64, Bool.false_and, Bool.and_false])
        clear h64
        go_wp2_with fail
        go_ret
        exact ⟨ret_bool HR.out.symm, hb.out⟩
end Go.Proofs.Ytakedococfklgaa
