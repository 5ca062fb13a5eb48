/- ReedsolomonRows: for every input the law returns true, and its arguments read behind the call as they read before. No condition. The walk. -/
import Derived.Test.YtoeeklkebcgmaaaAwk
import Derived.Test.YtoeeklkebcgmaaaText3
namespace Go.Proofs.Ytoeeklkebcgmaaa
open Go.RowKit Gf

set_option maxRecDepth 100000 in
set_option maxHeartbeats 2000000 in
theorem rows_walk (d t i : Int) (w : World) :
    Calls Try.prog 3 #[.int .i64 d, .int .i64 t, .int .i64 i] w fun e w' => e = .returned (.bool true) ∧ Below w.heap.size w w' := by
  by_cases hok : vldB d t = true ∧ 0 ≤ i ∧ i < t
  · obtain ⟨hv, hi0, hit⟩ := hok
    obtain ⟨h1, h2, h3, h4⟩ := vld_iff.1 hv
    obtain ⟨d, rfl⟩ : ∃ k : Nat, d = (k : Int) := ⟨d.toNat, by omega⟩
    obtain ⟨t, rfl⟩ : ∃ k : Nat, t = (k : Int) := ⟨t.toNat, by omega⟩
    obtain ⟨i, rfl⟩ : ∃ k : Nat, i = (k : Int) := ⟨i.toNat, by omega⟩
    have HV := Lib.hid hv
    have q1 : decide ((i : Int) < 0) = false := by simp
    have q2 : decide ((t : Int) ≤ (i : Int)) = false := by simp; omega
    clear hv
    go_enter Try.func3, Try.ntmps3
    go_wp2_with fail
    refine (row_ok d t i w (by omega) (by omega) (by omega) (by omega) (by omega)).mono ?_
    rintro e w1 ⟨v1, rfl, A1, n1, c1, rfl, hr1, hb1⟩
    have HR1 := Lib.hid hr1
    have HB1 := Lib.hid hb1
    clear hr1 hb1
    go_wp2_with fail
    refine (rsvalid_any _ _ _).mono ?_
    rintro e w' ⟨rfl, rfl⟩
    go_wp2_with fail
    refine (rvalid_any _ _ _).mono ?_
    rintro e w' ⟨rfl, rfl⟩
    rw [HV.out]
    go_wp2_with fail
    refine (rvalid_any _ _ _).mono ?_
    rintro e w' ⟨rfl, rfl⟩
    rw [HV.out]
    go_wp2_with fail
    have cv1 := conv_str HR1.out.drew
    refine Text.wp_region_text (fun w' => (convert 22 9 (.slice A1 n1 c1)).run Try.prog w' = .ok (.string (strB (crw d i))) w') [(0, 2), (1, 4), (2, 4), (3, 4), (4, 4), (5, 4), (6, 4), (8, 4), (9, 4), (7, 0), (10, 2), (11, 1), (12, 4), (13, 4), (14, 4)] (by kernel_rfl) (by kernel_rfl) (fun _ _ _ _ _ h => h) (cv1) ?_
    refine Text.eff rfl rfl (fun K hK => ?_)
    go_simp
    refine (awake_any _).mono ?_
    rintro e w2 ⟨rfl, hb2⟩
    have hb2' : Below w1.heap.size w1 w2 := below_ofDrew hb2
    have HR2 := Lib.hid (HR1.out.kept hb2')
    have HB2 := Lib.hid (below_then HB1.out hb2')
    refine hK _ _ (conv_str HR2.out) ?_
    clear hK K hb2 hb2' HR1 HB1 cv1
    iterate 8 (refine Text.purek rfl rfl (fun K hK => ⟨_, fun w' => by go_simp <;> rfl, ?_⟩); go_simp; refine hK _ ?_; clear hK K)
    (refine Text.heldk rfl rfl (fun K hK => ⟨_, fun w' hw' => by go_simp <;> rfl, ?_⟩); go_simp; refine hK _ ?_; clear hK K)
    refine Text.effw rfl rfl (fun K hK => ?_)
    go_simp
    refine (rrow_any d i w2 (by omega) (by omega)).mono ?_
    rintro e w3 ⟨rfl, hk3, hb3⟩
    have HR3 : Hid (BS w3 (some ⟨w2.heap.size, 0, none⟩) d d (crw d i)) := Lib.hid (BS.of_blk hk3 (crw_length _ _) (by unfold lim; omega))
    have cv3 := conv_str HR3.out
    have HB3 := Lib.hid (below_then HB2.out hb3)
    refine hK _ _ (conv_str (HR2.out.kept hb3)) ?_
    clear hK K hb3 hk3 HR2 HB2 HR3
    (refine Text.readk rfl rfl (fun K hK => ⟨_, by go_simp <;> rfl, ?_⟩); go_simp; refine hK _ ?_; clear hK K)
    iterate 3 (refine Text.purek rfl rfl (fun K hK => ⟨_, fun w' => by go_simp <;> rfl, ?_⟩); go_simp; refine hK _ ?_; clear hK K)
    refine Text.done ?_
    go_wp2_with fail
    go_ret
    exact ⟨rfl, HB3.out⟩
  · cases hv : vldB d t with
    | false =>
      go_enter Try.func3, Try.ntmps3
      go_wp2_with fail
      refine (row_bad d t i w hok).mono ?_
      rintro e w' ⟨rfl, rfl⟩
      go_wp2_with fail
      refine (rsvalid_any _ _ _).mono ?_
      rintro e w' ⟨rfl, rfl⟩
      go_wp2_with fail
      refine (rvalid_any _ _ _).mono ?_
      rintro e w' ⟨rfl, rfl⟩
      rw [hv]
      go_wp2_with fail
      refine (rvalid_any _ _ _).mono ?_
      rintro e w' ⟨rfl, rfl⟩
      rw [hv]
      go_wp2_with fail
      refine (awake_any _).mono ?_
      rintro e w2 ⟨rfl, hb2⟩
      have HB2 := Lib.hid hb2
      clear hb2
      go_wp2_with fail
      go_ret
      exact ⟨rfl, HB2.out⟩
    | true =>
      by_cases hi0 : i < 0
      · have q1 : decide (i < 0) = true := by simpa using hi0
        go_enter Try.func3, Try.ntmps3
        go_wp2_with fail
        refine (row_bad d t i w hok).mono ?_
        rintro e w' ⟨rfl, rfl⟩
        go_wp2_with fail
        refine (rsvalid_any _ _ _).mono ?_
        rintro e w' ⟨rfl, rfl⟩
        go_wp2_with fail
        refine (rvalid_any _ _ _).mono ?_
        rintro e w' ⟨rfl, rfl⟩
        rw [hv]
        go_wp2_with fail
        refine (rvalid_any _ _ _).mono ?_
        rintro e w' ⟨rfl, rfl⟩
        rw [hv]
        go_wp2_with fail
        refine (awake_any _).mono ?_
        rintro e w2 ⟨rfl, hb2⟩
        have HB2 := Lib.hid hb2
        clear hb2
        go_wp2_with fail
        go_ret
        exact ⟨rfl, HB2.out⟩
      · have q1 : decide (i < 0) = false := by simpa using hi0
        have q2 : decide (t ≤ i) = true := by simp; rw [hv] at hok; simp at hok; omega
        go_enter Try.func3, Try.ntmps3
        go_wp2_with fail
        refine (row_bad d t i w hok).mono ?_
        rintro e w' ⟨rfl, rfl⟩
        go_wp2_with fail
        refine (rsvalid_any _ _ _).mono ?_
        rintro e w' ⟨rfl, rfl⟩
        go_wp2_with fail
        refine (rvalid_any _ _ _).mono ?_
        rintro e w' ⟨rfl, rfl⟩
        rw [hv]
        go_wp2_with fail
        refine (rvalid_any _ _ _).mono ?_
        rintro e w' ⟨rfl, rfl⟩
        rw [hv]
        go_wp2_with fail
        refine (awake_any _).mono ?_
        rintro e w2 ⟨rfl, hb2⟩
        have HB2 := Lib.hid hb2
        clear hb2
        go_wp2_with fail
        go_ret
        exact ⟨rfl, HB2.out⟩
end Go.Proofs.Ytoeeklkebcgmaaa
