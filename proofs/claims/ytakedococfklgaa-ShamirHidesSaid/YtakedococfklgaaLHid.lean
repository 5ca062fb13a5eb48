/- ShamirHides: for every input the law returns true, and its arguments read behind the call as they read before. No condition. The walk. -/
import Derived.Test.YtakedococfklgaaAw2
import Derived.Test.YtakedococfklgaaSq
import Derived.Test.YtakedococfklgaaFew
namespace Go.Proofs.Ytakedococfklgaa
open Go.RowKit Gf

theorem spl_bad {s : List UInt8} {co : List (List UInt8)} {z : List Int} (h : splE s co z ≠ 0) : splL s co z = [] := by unfold splL; rw [if_neg h]
theorem ct_one (n : Nat) (h : n ≤ 12) : ctE (n : Int) ((n + 1 : Nat) : Int) = 0 ∧ ctV (n : Int) ((n + 1 : Nat) : Int) true = 1 := by
  have h1 : ctE (n : Int) ((n + 1 : Nat) : Int) = 0 := by
    unfold ctE; rw [if_pos ⟨by omega, by omega, vT_iff.2 ⟨by omega, by omega⟩⟩]
  refine ⟨h1, ?_⟩
  unfold ctV
  rw [if_pos h1]
  have : ctF (n : Int) ((n + 1 : Nat) : Int) true = 0 := by unfold ctF; simp
  rw [this]; rfl
theorem ltB_of {m : List (List UInt8)} {n : Nat} (h1 : m.length < 16) (h2 : ∀ j, j < m.length → (gR m j).length = n) : ltB m n = true := by
  unfold ltB
  rw [Bool.and_eq_true, List.all_eq_true]
  exact ⟨fun j hj => decide_eq_true (by rw [h2 j (List.mem_range.1 hj)]), decide_eq_true h1⟩

set_option maxRecDepth 100000 in
set_option maxHeartbeats 4000000 in
theorem hid_walk (As : Option Addr) (n cs : Nat) (s : List UInt8) (Ac : Option Addr) (nc cc : Nat) (co : List (List UInt8)) (Az : Option Addr) (nz cz : Nat) (z : List Int) (Ao : Option Addr) (no cO : Nat) (o : List UInt8) (w : World) (hs : BS w As n cs s) (hc : MS w Ac nc cc co) (hz : IS w Az nz cz z) (ho : BS w Ao no cO o) :
    Calls Try.prog 5 #[.slice As n cs, .slice Ac nc cc, .slice Az nz cz, .slice Ao no cO] w fun e w' => e = .returned (.bool true) ∧ Below w.heap.size w w' := by
  have HLS := Lib.hid hs.1
  have HLC := Lib.hid hc.1
  have HLZ := Lib.hid hz.1
  have HLO := Lib.hid ho.1
  have hn := hs.len_le
  have hnc := hc.len_le
  have hnz := hz.len_le
  have hno := ho.len_le
  have HS := Lib.hid hs
  have HC := Lib.hid hc
  have HZ := Lib.hid hz
  have HO := Lib.hid ho
  clear hs hc hz ho
  cases hf : fwB n nc nz with
  | false =>
    have HF := Lib.hid hf
    clear hf
    go_enter Try.func5, Try.ntmps5
    go_wp2_with fail
    refine (awake_any _).mono ?_
    rintro e w1 ⟨rfl, hb1⟩
    have HB1 := Lib.hid hb1
    clear hb1
    go_wp2_with fail
    refine (few_any As Ac Az n cs nc cc nz cz w1).mono ?_
    rintro e w' ⟨rfl, rfl⟩
    rw [HF.out]
    go_wp2_with fail
    go_ret
    exact ⟨rfl, HB1.out⟩
  | true =>
    have HF := Lib.hid hf
    have HFT := Lib.hid (fwB_true hf)
    clear hf
    by_cases he1 : nz = nc
    · subst he1
      have q1 : ((nz : Int) != (nz : Int)) = false := by simp
      by_cases he2 : no = n
      · subst he2
        have q2 : ((no : Int) != (no : Int)) = false := by simp
        by_cases he3 : splE s co z = 0
        · obtain ⟨hl, hx, hle⟩ := spl_zero he3
          obtain ⟨hco, hrows⟩ := ltB_rows hl
          have HSL : Hid (splL s co z = wnK s co z) := Lib.hid (by unfold splL; rw [if_pos he3, wn_spl hrows])
          have HE3 := Lib.hid he3
          have HSH : Hid (shB (wnK s co z) = true) := Lib.hid (wnK_sh hx hle)
          obtain ⟨_, _, _, sp4, sp5⟩ := shB_spec HSH.out
          have HDS : Hid (Py.Dst (fiX (wnK s co z))) := Lib.hid (fiX_dst sp4 sp5)
          have HWL : Hid ((wnK s co z).length = nz) := Lib.hid (by rw [wnK_length, HLZ.out])
          have HEQ : Hid (Eql (wnK s co z) no) := Lib.hid (by have := wnK_eql (s := s) (co := co) (z := z); rw [HLS.out] at this; exact this)
          have HM : Hid ((fiM o (wnK s co z)).length = nz) := Lib.hid (by rw [fiM_length, HWL.out])
          have HFS : Hid (wnK o (fiM o (wnK s co z)) z = wnK s co z) := Lib.hid (fi_same (by rw [HLO.out, HLS.out]) HDS.out)
          have HFB : Hid (fiM s (wnK s co z) = co) := Lib.hid (fi_back (by rw [HLZ.out, HLC.out]) hrows HDS.out)
          have hr2 : ∀ j, j < (fiM o (wnK s co z)).length → (gR (fiM o (wnK s co z)) j).length = o.length := fun j hj => fiM_rows (by rw [fiM_length] at hj; exact hj)
          have HE4 : Hid (splE o (fiM o (wnK s co z)) z = 0 ∧ splL o (fiM o (wnK s co z)) z = wnK s co z) := Lib.hid (by
            have h9 := HFT.out
            have h1 := spl_ok (s := o) (co := fiM o (wnK s co z)) (z := z) (by rw [ltB_of (by rw [HM.out]; omega) hr2, hx]; rfl) (by rw [HLO.out]; omega)
            rw [wn_spl hr2, HFS.out] at h1; exact h1)
          have HT1 : Hid (nz + 1 ≤ 16) := Lib.hid (by have := HFT.out; omega)
          have HT2 : Hid (no ≤ 1024) := Lib.hid (by have := HFT.out; omega)
          have HT3 : Hid (nz * 32 ≤ lim ∧ nz * 24 ≤ lim ∧ no ≤ lim) := Lib.hid (by have := HFT.out; unfold lim; omega)
          have HCT := Lib.hid (ct_one nz (by have := HFT.out; omega))
          clear hl hx hle hco hrows he3 sp4 sp5 hr2
          go_enter Try.func5, Try.ntmps5
          go_wp2_with fail
          refine (awake_any _).mono ?_
          rintro e w1 ⟨rfl, hb1⟩
          have HB1 := Lib.hid hb1
          clear hb1
          go_wp2_with fail
          refine (few_any As Ac Az no cs nz cc nz cz w1).mono ?_
          rintro e w' ⟨rfl, rfl⟩
          rw [HF.out]
          go_wp2_with fail
          refine (split_any As Ac Az no cs nz cc nz cz s co z w1 (HS.out.kept HB1.out) (HC.out.kept HB1.out) (HZ.out.kept HB1.out)).mono ?_
          rintro e w2 ⟨v2, rfl, ho2, hx2⟩
          rw [HE3.out]
          rw [HSL.out, HWL.out] at ho2
          have HB2 := Lib.hid (below_then HB1.out hx2)
          obtain ⟨A2, c2, rfl, hs2⟩ := ho2.ss HT3.out.1
          have H2 := Lib.hid hs2
          clear hx2 ho2 hs2
          go_wp2_with fail
          rw [show (nz : Int) + 1 = ((nz + 1 : Nat) : Int) by omega]
          refine (fits_ok Ao A2 no cO nz c2 (nz + 1) o (wnK s co z) w2 (HO.out.kept HB2.out) H2.out HSH.out (by omega) HT1.out rfl HT2.out HEQ.out).mono ?_
          rintro e w3 ⟨gO, G, rfl, ht3, hx3⟩
          rw [HM.out] at ht3 ⊢
          have H3 := Lib.hid (ht3.ms HT3.out.2.1 HT3.out.2.2)
          have HB3 := Lib.hid (below_then HB2.out hx3)
          have H23 := Lib.hid (H2.out.kept hx3)
          clear ht3 hx3
          go_wp2_with fail
          refine (split_any Ao _ Az no cO nz nz nz cz o (fiM o (wnK s co z)) z w3 (HO.out.kept HB3.out) H3.out (HZ.out.kept HB3.out)).mono ?_
          rintro e w4 ⟨v4, rfl, ho4, hx4⟩
          rw [HE4.out.1]
          rw [HE4.out.2, HWL.out] at ho4
          have HB4 := Lib.hid (below_then HB3.out hx4)
          obtain ⟨A4, c4, rfl, hs4⟩ := ho4.ss HT3.out.1
          have H4 := Lib.hid hs4
          have H24 := Lib.hid (H23.out.kept hx4)
          clear hx4 ho4 hs4
          go_wp2_with fail
          refine (fits_ok As A4 no cs nz c4 (nz + 1) s (wnK s co z) w4 (HS.out.kept HB4.out) H4.out HSH.out (by omega) HT1.out rfl HT2.out HEQ.out).mono ?_
          rintro e w5 ⟨gP, G5, rfl, ht5, hx5⟩
          rw [HFB.out, HLC.out] at ht5
          rw [HFB.out, HLC.out]
          have H5 := Lib.hid (ht5.ms HT3.out.2.1 HT3.out.2.2)
          have HB5 := Lib.hid (below_then HB4.out hx5)
          have H25 := Lib.hid (H24.out.kept hx5)
          have H45 := Lib.hid (H4.out.kept hx5)
          clear ht5 hx5
          go_wp2_with fail
          refine (same_any A2 A4 nz c2 nz c4 (wnK s co z) (wnK s co z) w5 H25.out H45.out).mono ?_
          rintro e w6 ⟨rfl, hx6⟩
          rw [show sameS (wnK s co z) (wnK s co z) = true from decide_eq_true rfl]
          have HB6 := Lib.hid (below_then HB5.out hx6)
          have H56 := Lib.hid (H5.out.kept hx6)
          have HC6 := Lib.hid (HC.out.kept HB6.out)
          clear hx6
          go_wp2_with fail
          go_loopw [100] (fun i wr => ∃ k : Nat, k ≤ nz ∧ i = .int .i64 (k : Int) ∧ Hid (Below w6.heap.size w6 wr)) (fun i _ => nz - (intOf i).toNat)
          case atStart => exact ⟨0, by omega, rfl, Lib.hid (Below.refl _ _)⟩
          case round =>
            obtain ⟨k, hk, rfl, hb⟩ := hrel
            by_cases hlt : k < nz
            · obtain ⟨g7, o7, A7, n7, c7, e7, hc7, hr7⟩ := H56.out.at_ hb.out hlt
              obtain ⟨g8, o8, A8, n8, c8, rfl, hc8, hr8⟩ := HC6.out.at_ hb.out hlt
              injection e7 with e7
              injection e7 with e71 e72
              subst e71 e72
              rw [Nat.zero_add] at hc7
              have cv1 := conv_str hr7.drew
              have cv2 := conv_str hr8.drew
              have hbb : ((strB (gR co k)).toList == (strB (gR co k)).toList) = true := by rw [strB_eq, decide_eq_true rfl]
              have HB' : Hid (Below w6.heap.size w6 wr.drew) := Lib.hid hb.out.drew
              clear hr7 hr8
              go_wp2_with fail
              refine Text.wp_region_text (fun _ => True) [(0, 4), (1, 4), (2, 4), (5, 4), (6, 4), (7, 4), (3, 1), (4, 1), (8, 1), (9, 1), (10, 4)] (by kernel_rfl) (by kernel_rfl) (fun _ _ _ _ _ h => h) (trivial) ?_
              iterate 6 (refine Text.purek rfl rfl (fun K hK => ⟨_, fun w' => by go_simp <;> rfl, ?_⟩); go_simp; refine hK _ ?_; clear hK K)
              iterate 4 (refine Text.readk rfl rfl (fun K hK => ⟨_, by go_simp <;> rfl, ?_⟩); go_simp; refine hK _ ?_; clear hK K)
              (refine Text.purek rfl rfl (fun K hK => ⟨_, fun w' => by go_simp <;> rfl, ?_⟩); go_simp; refine hK _ ?_; clear hK K)
              refine Text.done ?_
              go_wp2_with fail
              go_roundw
              case rel => exact ⟨k + 1, by omega, by go_num, HB'⟩
              case measure => simp [intOf]; omega
            · obtain rfl : k = nz := by omega
              have HB7 := Lib.hid (below_then HB6.out hb.out)
              go_wp2_with fail
              refine (count_any (k : Int) ((k + 1 : Nat) : Int) true wr).mono ?_
              rintro e w' ⟨rfl, rfl⟩
              rw [HCT.out.1, HCT.out.2]
              go_wp2_with fail
              go_ret
              exact ⟨rfl, HB7.out⟩
        · have q3 : (splE s co z != 0) = true := by simpa using he3
          have HSL := Lib.hid (spl_bad he3)
          obtain ⟨E, hE⟩ : ∃ E, E = splE s co z := ⟨_, rfl⟩
          rw [← hE] at q3
          have HE := Lib.hid hE
          clear he3 hE
          go_enter Try.func5, Try.ntmps5
          go_wp2_with fail
          refine (awake_any _).mono ?_
          rintro e w1 ⟨rfl, hb1⟩
          have HB1 := Lib.hid hb1
          clear hb1
          go_wp2_with fail
          refine (few_any As Ac Az no cs nz cc nz cz w1).mono ?_
          rintro e w' ⟨rfl, rfl⟩
          rw [HF.out]
          go_wp2_with fail
          refine (split_any As Ac Az no cs nz cc nz cz s co z w1 (HS.out.kept HB1.out) (HC.out.kept HB1.out) (HZ.out.kept HB1.out)).mono ?_
          rintro e w2 ⟨v2, rfl, ho2, hx2⟩
          rw [← HE.out]
          rw [HSL.out] at ho2
          obtain ⟨A2, c2, rfl, hs2⟩ := ho2.ss (by show 0 * 32 ≤ lim; decide)
          have HB2 := Lib.hid (below_then HB1.out hx2)
          clear hx2 ho2 hs2
          go_wp2_with fail
          go_ret
          exact ⟨rfl, HB2.out⟩
      · have q2 : ((no : Int) != (n : Int)) = true := by simp; omega
        clear he2
        go_enter Try.func5, Try.ntmps5
        go_wp2_with fail
        refine (awake_any _).mono ?_
        rintro e w1 ⟨rfl, hb1⟩
        have HB1 := Lib.hid hb1
        clear hb1
        go_wp2_with fail
        refine (few_any As Ac Az n cs nz cc nz cz w1).mono ?_
        rintro e w' ⟨rfl, rfl⟩
        rw [HF.out]
        go_wp2_with fail
        go_ret
        exact ⟨rfl, HB1.out⟩
    · have q1 : ((nz : Int) != (nc : Int)) = true := by simp; omega
      clear he1
      go_enter Try.func5, Try.ntmps5
      go_wp2_with fail
      refine (awake_any _).mono ?_
      rintro e w1 ⟨rfl, hb1⟩
      have HB1 := Lib.hid hb1
      clear hb1
      go_wp2_with fail
      refine (few_any As Ac Az n cs nc cc nz cz w1).mono ?_
      rintro e w' ⟨rfl, rfl⟩
      rw [HF.out]
      go_wp2_with fail
      go_ret
      exact ⟨rfl, HB1.out⟩
end Go.Proofs.Ytakedococfklgaa
