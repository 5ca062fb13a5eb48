/- ShamirAdds: for every input the law returns true, and its arguments read behind the call as they read before. No condition. The walk. -/
import Derived.Test.YtakedococfklgaaAw2
import Derived.Test.YtakedococfklgaaAd0
import Derived.Test.YtakedococfklgaaFew
namespace Go.Proofs.Ytakedococfklgaa
open Go.RowKit Gf

theorem spl_bad {s : List UInt8} {co : List (List UInt8)} {z : List Int} (h : splE s co z ≠ 0) : splL s co z = [] := by unfold splL; rw [if_neg h]

set_option maxRecDepth 100000 in
set_option maxHeartbeats 8000000 in
theorem add_walk (Aa : Option Addr) (n ca : Nat) (a : List UInt8) (Ab : Option Addr) (nb cb : Nat) (b : List UInt8) (Ac : Option Addr) (nc cc : Nat) (c : List (List UInt8)) (Ad : Option Addr) (nd cd : Nat) (d : List (List UInt8)) (Az : Option Addr) (nz cz : Nat) (z : List Int) (w : World) (ha : BS w Aa n ca a) (hb : BS w Ab nb cb b) (hc : MS w Ac nc cc c) (hd : MS w Ad nd cd d) (hz : IS w Az nz cz z) :
    Calls Try.prog 11 #[.slice Aa n ca, .slice Ab nb cb, .slice Ac nc cc, .slice Ad nd cd, .slice Az nz cz] w fun e w' => e = .returned (.bool true) ∧ Below w.heap.size w w' := by
  have HLA := Lib.hid ha.1
  have HLB := Lib.hid hb.1
  have HLC := Lib.hid hc.1
  have HLD := Lib.hid hd.1
  have HLZ := Lib.hid hz.1
  have hn := ha.len_le
  have hnb := hb.len_le
  have hnc := hc.len_le
  have hnd := hd.len_le
  have hnz := hz.len_le
  have HA := Lib.hid ha
  have HB := Lib.hid hb
  have HC := Lib.hid hc
  have HD := Lib.hid hd
  have HZ := Lib.hid hz
  clear ha hb hc hd hz
  cases hf : fwB n nc nz with
  | false =>
    have HF := Lib.hid hf
    clear hf
    go_enter Try.func11, Try.ntmps11
    go_wp2_with fail
    refine (awake_any _).mono ?_
    rintro e w1 ⟨rfl, hb1⟩
    have HB1 := Lib.hid hb1
    clear hb1
    go_wp2_with fail
    refine (few_any Aa Ac Az n ca nc cc nz cz w1).mono ?_
    rintro e w' ⟨rfl, rfl⟩
    rw [HF.out]
    go_wp2_with fail
    go_ret
    exact ⟨rfl, HB1.out⟩
  | true =>
    have HF := Lib.hid hf
    have HFT := Lib.hid (fwB_true hf)
    clear hf
    cases hf2 : fwB nb nd nz with
    | false =>
      have HF2 := Lib.hid hf2
      clear hf2
      go_enter Try.func11, Try.ntmps11
      go_wp2_with fail
      refine (awake_any _).mono ?_
      rintro e w1 ⟨rfl, hb1⟩
      have HB1 := Lib.hid hb1
      clear hb1
      go_wp2_with fail
      refine (few_any Aa Ac Az n ca nc cc nz cz w1).mono ?_
      rintro e w' ⟨rfl, rfl⟩
      rw [HF.out]
      go_wp2_with fail
      refine (few_any Ab Ad Az nb cb nd cd nz cz w1).mono ?_
      rintro e w' ⟨rfl, rfl⟩
      rw [HF2.out]
      go_wp2_with fail
      go_ret
      exact ⟨rfl, HB1.out⟩
    | true =>
      have HF2 := Lib.hid hf2
      clear hf2
      by_cases e1 : n = nb
      case neg =>
        have q1 : ((n : Int) != (nb : Int)) = true := by simp; omega
        clear e1
        go_enter Try.func11, Try.ntmps11
        go_wp2_with fail
        refine (awake_any _).mono ?_
        rintro e w1 ⟨rfl, hb1⟩
        have HB1 := Lib.hid hb1
        clear hb1
        go_wp2_with fail
        refine (few_any Aa Ac Az n ca nc cc nz cz w1).mono ?_
        rintro e w' ⟨rfl, rfl⟩
        rw [HF.out]
        go_wp2_with fail
        refine (few_any Ab Ad Az nb cb nd cd nz cz w1).mono ?_
        rintro e w' ⟨rfl, rfl⟩
        rw [HF2.out]
        go_wp2_with fail
        go_ret
        exact ⟨rfl, HB1.out⟩
      subst e1
      have q1 : ((n : Int) != (n : Int)) = false := by simp
      by_cases e2 : nc = nd
      case neg =>
        have q2 : ((nc : Int) != (nd : Int)) = true := by simp; omega
        clear e2
        go_enter Try.func11, Try.ntmps11
        go_wp2_with fail
        refine (awake_any _).mono ?_
        rintro e w1 ⟨rfl, hb1⟩
        have HB1 := Lib.hid hb1
        clear hb1
        go_wp2_with fail
        refine (few_any Aa Ac Az n ca nc cc nz cz w1).mono ?_
        rintro e w' ⟨rfl, rfl⟩
        rw [HF.out]
        go_wp2_with fail
        refine (few_any Ab Ad Az n cb nd cd nz cz w1).mono ?_
        rintro e w' ⟨rfl, rfl⟩
        rw [HF2.out]
        go_wp2_with fail
        go_ret
        exact ⟨rfl, HB1.out⟩
      subst e2
      have q2 : ((nc : Int) != (nc : Int)) = false := by simp
      have HLEN : Hid (∀ s co, (splL s co z).length * 32 ≤ lim) := Lib.hid (fun s co => by
        have h1 : (splL s co z).length ≤ nz := by
          unfold splL; split
          · rw [splS, List.length_map, HLZ.out]; exact Nat.le_refl _
          · exact Nat.zero_le _
        have := HFT.out
        unfold lim; omega)
      obtain ⟨E1, hE1⟩ : ∃ E, E = splE a c z := ⟨_, rfl⟩
      obtain ⟨E2, hE2⟩ : ∃ E, E = splE b d z := ⟨_, rfl⟩
      have HE1 := Lib.hid hE1
      have HE2 := Lib.hid hE2
      by_cases e3 : E1 = 0
      case neg =>
        have q3 : (E1 != 0) = true := by simpa using e3
        have HN := Lib.hid (HLEN.out)
        clear e3 hE1 hE2
        go_enter Try.func11, Try.ntmps11
        go_wp2_with fail
        refine (awake_any _).mono ?_
        rintro e w1 ⟨rfl, hb1⟩
        have HB1 := Lib.hid hb1
        clear hb1
        go_wp2_with fail
        refine (few_any Aa Ac Az n ca nc cc nz cz w1).mono ?_
        rintro e w' ⟨rfl, rfl⟩
        rw [HF.out]
        go_wp2_with fail
        refine (few_any Ab Ad Az n cb nc cd nz cz w1).mono ?_
        rintro e w' ⟨rfl, rfl⟩
        rw [HF2.out]
        go_wp2_with fail
        refine (split_any Aa Ac Az n ca nc cc nz cz a c z w1 (HA.out.kept HB1.out) (HC.out.kept HB1.out) (HZ.out.kept HB1.out)).mono ?_
        rintro e w2 ⟨v2, rfl, ho2, hx2⟩
        rw [← HE1.out]
        rw [show splL a c z = splL a c z from rfl] at ho2
        have HB2 := Lib.hid (below_then HB1.out hx2)
        obtain ⟨A2, c2, rfl, hs2⟩ := ho2.ss (HLEN.out a c)
        have H2 := Lib.hid hs2
        clear hx2 ho2 hs2
        go_wp2_with fail
        refine (split_any Ab Ad Az n cb nc cd nz cz b d z w2 (HB.out.kept HB2.out) (HD.out.kept HB2.out) (HZ.out.kept HB2.out)).mono ?_
        rintro e w3 ⟨v3, rfl, ho3, hx3⟩
        rw [← HE2.out]
        rw [show splL b d z = splL b d z from rfl] at ho3
        have HB3 := Lib.hid (below_then HB2.out hx3)
        obtain ⟨A3, c3, rfl, hs3⟩ := ho3.ss (HLEN.out b d)
        have H3 := Lib.hid hs3
        have H23 := Lib.hid (H2.out.kept hx3)
        clear hx3 ho3 hs3
        go_wp2_with fail
        go_ret
        exact ⟨rfl, HB3.out⟩
      have q3 : (E1 != 0) = false := by simpa using e3
      by_cases e4 : E2 = 0
      case neg =>
        have q4 : (E2 != 0) = true := by simpa using e4
        clear e3 e4 hE1 hE2
        go_enter Try.func11, Try.ntmps11
        go_wp2_with fail
        refine (awake_any _).mono ?_
        rintro e w1 ⟨rfl, hb1⟩
        have HB1 := Lib.hid hb1
        clear hb1
        go_wp2_with fail
        refine (few_any Aa Ac Az n ca nc cc nz cz w1).mono ?_
        rintro e w' ⟨rfl, rfl⟩
        rw [HF.out]
        go_wp2_with fail
        refine (few_any Ab Ad Az n cb nc cd nz cz w1).mono ?_
        rintro e w' ⟨rfl, rfl⟩
        rw [HF2.out]
        go_wp2_with fail
        refine (split_any Aa Ac Az n ca nc cc nz cz a c z w1 (HA.out.kept HB1.out) (HC.out.kept HB1.out) (HZ.out.kept HB1.out)).mono ?_
        rintro e w2 ⟨v2, rfl, ho2, hx2⟩
        rw [← HE1.out]
        rw [show splL a c z = splL a c z from rfl] at ho2
        have HB2 := Lib.hid (below_then HB1.out hx2)
        obtain ⟨A2, c2, rfl, hs2⟩ := ho2.ss (HLEN.out a c)
        have H2 := Lib.hid hs2
        clear hx2 ho2 hs2
        go_wp2_with fail
        refine (split_any Ab Ad Az n cb nc cd nz cz b d z w2 (HB.out.kept HB2.out) (HD.out.kept HB2.out) (HZ.out.kept HB2.out)).mono ?_
        rintro e w3 ⟨v3, rfl, ho3, hx3⟩
        rw [← HE2.out]
        rw [show splL b d z = splL b d z from rfl] at ho3
        have HB3 := Lib.hid (below_then HB2.out hx3)
        obtain ⟨A3, c3, rfl, hs3⟩ := ho3.ss (HLEN.out b d)
        have H3 := Lib.hid hs3
        have H23 := Lib.hid (H2.out.kept hx3)
        clear hx3 ho3 hs3
        go_wp2_with fail
        go_ret
        exact ⟨rfl, HB3.out⟩
      have q4 : (E2 != 0) = false := by simpa using e4
      by_cases e5 : nz ≤ nc
      · have q5 : decide (nz ≤ nc) = true := by simpa using e5
        clear e3 e4 e5 hE1 hE2
        go_enter Try.func11, Try.ntmps11
        go_wp2_with fail
        refine (awake_any _).mono ?_
        rintro e w1 ⟨rfl, hb1⟩
        have HB1 := Lib.hid hb1
        clear hb1
        go_wp2_with fail
        refine (few_any Aa Ac Az n ca nc cc nz cz w1).mono ?_
        rintro e w' ⟨rfl, rfl⟩
        rw [HF.out]
        go_wp2_with fail
        refine (few_any Ab Ad Az n cb nc cd nz cz w1).mono ?_
        rintro e w' ⟨rfl, rfl⟩
        rw [HF2.out]
        go_wp2_with fail
        refine (split_any Aa Ac Az n ca nc cc nz cz a c z w1 (HA.out.kept HB1.out) (HC.out.kept HB1.out) (HZ.out.kept HB1.out)).mono ?_
        rintro e w2 ⟨v2, rfl, ho2, hx2⟩
        rw [← HE1.out]
        rw [show splL a c z = splL a c z from rfl] at ho2
        have HB2 := Lib.hid (below_then HB1.out hx2)
        obtain ⟨A2, c2, rfl, hs2⟩ := ho2.ss (HLEN.out a c)
        have H2 := Lib.hid hs2
        clear hx2 ho2 hs2
        go_wp2_with fail
        refine (split_any Ab Ad Az n cb nc cd nz cz b d z w2 (HB.out.kept HB2.out) (HD.out.kept HB2.out) (HZ.out.kept HB2.out)).mono ?_
        rintro e w3 ⟨v3, rfl, ho3, hx3⟩
        rw [← HE2.out]
        rw [show splL b d z = splL b d z from rfl] at ho3
        have HB3 := Lib.hid (below_then HB2.out hx3)
        obtain ⟨A3, c3, rfl, hs3⟩ := ho3.ss (HLEN.out b d)
        have H3 := Lib.hid hs3
        have H23 := Lib.hid (H2.out.kept hx3)
        clear hx3 ho3 hs3
        go_wp2_with fail
        go_ret
        exact ⟨rfl, HB3.out⟩
      have q5 : decide (nz ≤ nc) = false := by simpa using e5
      have z1 : splE a c z = 0 := by rw [← hE1]; exact e3
      have z2 : splE b d z = 0 := by rw [← hE2]; exact e4
      obtain ⟨hl1, hx, hle⟩ := spl_zero z1
      obtain ⟨hl2, _, _⟩ := spl_zero z2
      obtain ⟨hco1, hrows1⟩ := ltB_rows hl1
      obtain ⟨hco2, hrows2⟩ := ltB_rows hl2
      have hab : a.length = b.length := by rw [HLA.out, HLB.out]
      have hcd : c.length = d.length := by rw [HLC.out, HLD.out]
      have hrows3 : ∀ j, j < d.length → (gR d j).length = a.length := fun j hj => by rw [hrows2 j hj, hab]
      have HS1 : Hid (splL a c z = wnK a c z) := Lib.hid (by unfold splL; rw [if_pos z1, wn_spl hrows1])
      have HS2 : Hid (splL b d z = wnK b d z) := Lib.hid (by unfold splL; rw [if_pos z2, wn_spl hrows2])
      have HZ1 := Lib.hid z1
      have HZ2 := Lib.hid z2
      have HW1 : Hid ((wnK a c z).length = nz) := Lib.hid (by rw [wnK_length, HLZ.out])
      have HW2 : Hid ((wnK b d z).length = nz) := Lib.hid (by rw [wnK_length, HLZ.out])
      have HQ1 : Hid (Eql (wnK a c z) n) := Lib.hid (by have := wnK_eql (s := a) (co := c) (z := z); rw [HLA.out] at this; exact this)
      have HQ2 : Hid (Eql (wnK b d z) n) := Lib.hid (by have := wnK_eql (s := b) (co := d) (z := z); rw [HLB.out] at this; exact this)
      have HNI : Hid (((nc + 1 : Nat) : Int) = (nc : Int) + 1) := Lib.hid (by omega)
      have HT1 : Hid (nc + 1 ≤ 16) := Lib.hid (by have := HFT.out; omega)
      have HT3 : Hid (nz * 32 ≤ lim) := Lib.hid (by have := HFT.out; unfold lim; omega)
      have HN64 : Hid (nz ≤ 64) := Lib.hid (by have := HFT.out; omega)
      have hml : (muladd a b 1).length ≤ 1024 := by rw [muladd_length _ _ _ hab, ← hab]; exact hle
      have HG1 := Lib.hid ((sm_good hx hab hcd hrows1 hrows2).ok (t := nc + 1) (by rw [smK_length, HLZ.out]; exact HN64.out) hml HT1.out (by rw [xmR_length, HLC.out]) (by rw [smK_length, HLZ.out]; omega))
      have HG2 := Lib.hid ((sm_good (b := zeros a.length) hx (zeros_length _).symm hcd hrows1 (fun j hj => by rw [zeros_length]; exact hrows3 j hj)).ok (t := nc + 1) (by rw [smK_length, HLZ.out]; exact HN64.out) (by rw [mad_zeros]; exact hle) HT1.out (by rw [xmR_length, HLC.out]) (by rw [smK_length, HLZ.out]; omega))
      rw [HNI.out] at HG1 HG2
      rw [mad_zeros] at HG2
      have HRF := Lib.hid (rf_ok (c := c) hx hle hco2 hrows3 (by rw [HLZ.out]; omega))
      have HSL : Hid ((smK a b c d z).length = nz) := Lib.hid (by rw [smK_length, HLZ.out])
      have HSL2 : Hid ((smK a (zeros a.length) c d z).length = nz) := Lib.hid (by rw [smK_length, HLZ.out])
      obtain ⟨M, hM⟩ : ∃ M, M = muladd a b 1 := ⟨_, rfl⟩
      have HML : Hid (M.length = n) := Lib.hid (by rw [hM, muladd_length _ _ _ hab, HLB.out])
      rw [← hM] at HG1
      have HMM := Lib.hid hM
      clear z1 z2 hl1 hx hle hl2 hco1 hrows1 hco2 hrows2 hab hcd hrows3 hml hM e3 e4 e5 hE1 hE2
      go_enter Try.func11, Try.ntmps11
      go_wp2_with fail
      refine (awake_any _).mono ?_
      rintro e w1 ⟨rfl, hb1⟩
      have HB1 := Lib.hid hb1
      clear hb1
      go_wp2_with fail
      refine (few_any Aa Ac Az n ca nc cc nz cz w1).mono ?_
      rintro e w' ⟨rfl, rfl⟩
      rw [HF.out]
      go_wp2_with fail
      refine (few_any Ab Ad Az n cb nc cd nz cz w1).mono ?_
      rintro e w' ⟨rfl, rfl⟩
      rw [HF2.out]
      go_wp2_with fail
      refine (split_any Aa Ac Az n ca nc cc nz cz a c z w1 (HA.out.kept HB1.out) (HC.out.kept HB1.out) (HZ.out.kept HB1.out)).mono ?_
      rintro e w2 ⟨v2, rfl, ho2, hx2⟩
      rw [HZ1.out]
      rw [HS1.out, HW1.out] at ho2
      have HB2 := Lib.hid (below_then HB1.out hx2)
      obtain ⟨A2, c2, rfl, hs2⟩ := ho2.ss HT3.out
      have H2 := Lib.hid hs2
      clear hx2 ho2 hs2
      go_wp2_with fail
      refine (split_any Ab Ad Az n cb nc cd nz cz b d z w2 (HB.out.kept HB2.out) (HD.out.kept HB2.out) (HZ.out.kept HB2.out)).mono ?_
      rintro e w3 ⟨v3, rfl, ho3, hx3⟩
      rw [HZ2.out]
      rw [HS2.out, HW2.out] at ho3
      have HB3 := Lib.hid (below_then HB2.out hx3)
      obtain ⟨A3, c3, rfl, hs3⟩ := ho3.ss HT3.out
      have H3 := Lib.hid hs3
      have H23 := Lib.hid (H2.out.kept hx3)
      clear hx3 ho3 hs3
      go_wp2_with fail
      refine (muladd_any Aa Ab n ca cb a b 1 w3 (HA.out.kept HB3.out) (HB.out.kept HB3.out)).mono ?_
      rintro e w4 ⟨v4, rfl, g4, n4, rfl, hl4, hg4, hk4, hx4⟩
      rw [← HMM.out] at hl4 hk4
      obtain rfl : n4 = n := by rw [← hl4]; exact HML.out
      have H4 : Hid (BS w4 (some ⟨g4, 0, none⟩) n4 n4 M) := Lib.hid (BS.of_blk hk4 hl4 (by unfold lim; omega))
      have HB4 := Lib.hid (below_then HB3.out hx4)
      have H24 := Lib.hid (H23.out.kept hx4)
      have H34 := Lib.hid (H3.out.kept hx4)
      clear hl4 hg4 hk4 hx4
      go_wp2_with fail
      go_loopw [15, 90] (fun v i wr => ∃ k : Nat, k ≤ nz ∧ i = .int .i64 (k : Int) ∧ Hid (OwnS wr w4.heap.size v k (smK a b c d (z.take k))) ∧ Hid (Below w4.heap.size w4 wr)) (fun _ i _ => nz - (intOf i).toNat)
      case atStart => exact ⟨0, by omega, rfl, Lib.hid (OwnS.nil _ _), Lib.hid (Below.refl _ _)⟩
      case round =>
        obtain ⟨k, hk, rfl, ho, hb⟩ := hrel
        by_cases hlt : k < nz
        · obtain ⟨g5, o5, A5, n5, c5, rfl, r1, r2, r3⟩ := H24.out.at_ hb.out hlt
          obtain ⟨g6, o6, A6, n6, c6, rfl, s1, s2, s3⟩ := H34.out.at_ hb.out hlt
          obtain rfl : n5 = n4 := by rw [← r3.1]; exact HQ1.out k (by rw [HW1.out]; exact hlt)
          obtain rfl : n6 = n5 := by rw [← s3.1]; exact HQ2.out k (by rw [HW2.out]; exact hlt)
          have HX1 : Hid ((gS (wnK a c z) k).1 = gI z k) := Lib.hid (by rw [gS_wnK (by rw [HLZ.out]; exact hlt)])
          rw [HX1.out] at r1
          have HR3 := Lib.hid r3
          have HS3 := Lib.hid s3
          clear r3 s3 s1
          go_wp2_with fail
          refine Text.wp_region_text (fun _ => True) [(0, 4), (1, 4), (2, 4), (3, 4), (5, 4), (6, 4), (7, 4), (8, 4), (4, 1), (9, 1), (10, 2), (11, 4), (12, 4), (13, 4), (14, 4), (15, 4)] (by kernel_rfl) (by kernel_rfl) (fun _ _ _ _ _ h => h) (trivial) ?_
          iterate 8 (refine Text.purek rfl rfl (fun K hK => ⟨_, fun w' => by go_simp <;> rfl, ?_⟩); go_simp; refine hK _ ?_; clear hK K)
          iterate 2 (refine Text.readk rfl rfl (fun K hK => ⟨_, by go_simp <;> rfl, ?_⟩); go_simp; refine hK _ ?_; clear hK K)
          refine Text.eff rfl rfl (fun K hK => ?_)
          go_simp
          refine (muladd_any A5 A6 n6 c5 c6 (gS (wnK a c z) k).2 (gS (wnK b d z) k).2 1 _ HR3.out.drew HS3.out.drew).mono ?_
          rintro e w7 ⟨v7, rfl, g7, n7, rfl, hl7, hg7, hk7, hx7⟩
          refine hK _ _ trivial ?_
          clear hK K
          have hx7' := below_ofDrew hx7
          obtain ⟨D, hD⟩ : ∃ D, D = muladd (gS (wnK a c z) k).2 (gS (wnK b d z) k).2 1 := ⟨_, rfl⟩
          rw [← hD] at hl7 hk7
          have HDD := Lib.hid hD
          have hn7 : n7 = n6 := by rw [← hl7, hD, muladd_length _ _ _ (by rw [HR3.out.1, HS3.out.1]), HS3.out.1]
          subst hn7
          have H7 : Hid (BS w7 (some ⟨g7, 0, none⟩) n7 n7 D) := Lib.hid (BS.of_blk hk7 hl7 (by unfold lim; omega))
          have r1' := cell_kept hx7' r1
          have HB7 := Lib.hid (below_then hb.out hx7')
          have HO7 := Lib.hid (ho.out.kept hx7')
          have HOB := Lib.hid (ho.out.base)
          have HG7 : Hid (wr.heap.size ≤ g7) := Lib.hid hg7
          clear hl7 hg7 hk7 hx7 hx7' hD ho hb
          iterate 5 (refine Text.purek rfl rfl (fun K hK => ⟨_, fun w' => by go_simp <;> rfl, ?_⟩); go_simp; refine hK _ ?_; clear hK K)
          refine Text.done ?_
          have hb9 := kb1 w7 (.cells #[.int .i64 (gI z k), .slice (some ⟨g7, 0, none⟩) n7 n7] 33)
          obtain ⟨hm9, q, hq, hown9, hps9⟩ := HO7.out.kept hb9
          have HW9 := Lib.hid hown9
          have HPS9 := Lib.hid hps9
          have HM9 := Lib.hid hm9
          have HQ9 := Lib.hid hq
          have H9 := Lib.hid (H7.out.kept hb9)
          have HB9 := Lib.hid (below_then HB7.out hb9)
          have HK32 : Hid ((k + 1) * 32 ≤ 140737488355328) := Lib.hid (by have := HN64.out; omega)
          clear hb9 hown9 hps9 hm9 hq
          go_wp2_with (first
            | (at_builtin; refine wpList_appS _ rfl (.tmp 107) (.tmp 115) rfl w4.heap.size u15 k (shC q) rfl HW9.out w7.heap.size 1 33 (.int .i64 (gI z k)) (.slice (some ⟨g7, 0, none⟩) n7 n7) rfl (Blk.new w7 _ _) rfl rfl HK32.out HB9.out.size ?_; intro vA wA hpA))
          have hfar : 0 < n7 → AtB (some ⟨g7, 0, none⟩) (fun b => u15.ownBlock ≠ some b) := fun _ a e e' => by
            cases e
            have h1 := (HOB.out g7 e').2
            have h2 := HG7.out
            omega
          have HOA : Hid (OwnS wA w4.heap.size vA (k + 1) (smK a b c d (z.take (k + 1)))) := Lib.hid (by
            rw [smK_take (by rw [HLZ.out]; exact hlt), ← HDD.out]
            exact OwnS.push HM9.out HQ9.out HPS9.out H9.out hfar hpA)
          have HBA : Hid (Below w4.heap.size w4 wA) := Lib.hid (HB9.out.grown hpA.2.1 HB9.out.size (fun b hb' => (HOB.out b hb').1))
          clear hpA hfar
          go_wp2_with fail
          go_roundw
          case rel => exact ⟨k + 1, by omega, by go_num, HOA, HBA⟩
          case measure => simp [intOf]; omega
        · obtain rfl : k = nz := by omega
          have ho9 := ho.out
          rw [List.take_of_length_le (by rw [HLZ.out]; exact Nat.le_refl _)] at ho9
          obtain ⟨A9, c9, e9, hs9⟩ := ho9.ss HT3.out
          subst e9
          have HS9 := Lib.hid hs9
          have HB9 := Lib.hid (below_then HB4.out hb.out)
          have H29 := Lib.hid (H24.out.kept hb.out)
          have H49 := Lib.hid (H4.out.kept hb.out)
          clear ho9 hs9
          go_wp2_with fail
          refine (combine_any A9 k c9 ((nc : Int) + 1) (smK a b c d z) wr HS9.out).mono ?_
          rintro e w5 ⟨v5, rfl, A5, n5, c5, rfl, hb5, _, hx5⟩
          rw [HG1.out.1]
          rw [HG1.out.2] at hb5
          have HB5 := Lib.hid (below_then HB9.out hx5)
          have H25 := Lib.hid (H29.out.kept hx5)
          have H45 := Lib.hid (H49.out.kept hx5)
          have H5 := Lib.hid hb5
          clear hb5 hx5
          go_wp2_with fail
          refine (refresh_any A2 Ad k c2 nc cd (wnK a c z) d w5 H25.out (HD.out.kept HB5.out)).mono ?_
          rintro e w6 ⟨v6, rfl, ho6, hx6⟩
          rw [HRF.out.1]
          rw [HRF.out.2, HSL2.out] at ho6
          obtain ⟨A6, c6, rfl, hs6⟩ := ho6.ss HT3.out
          have H6 := Lib.hid hs6
          have HB6 := Lib.hid (below_then HB5.out hx6)
          have H46 := Lib.hid (H45.out.kept hx6)
          have H56 := Lib.hid (H5.out.kept hx6)
          clear ho6 hs6 hx6
          go_wp2_with fail
          refine (combine_any A6 k c6 ((nc : Int) + 1) (smK a (zeros a.length) c d z) w6 H6.out).mono ?_
          rintro e w7 ⟨v7, rfl, A7, n7, c7, rfl, hb7, _, hx7⟩
          rw [HG2.out.1]
          rw [HG2.out.2] at hb7
          have hbb := below_then HB6.out hx7
          have HB7 := Lib.hid hbb
          have cv1 := conv_str (H56.out.kept hx7)
          have cv2 := conv_str (H46.out.kept hx7)
          have cv3 := conv_str hb7
          have cv4 := conv_str (HA.out.kept hbb)
          have b1 : ((strB M).toList == (strB M).toList) = true := by rw [strB_eq, decide_eq_true rfl]
          have b2 : ((strB a).toList == (strB a).toList) = true := by rw [strB_eq, decide_eq_true rfl]
          clear hb7 hx7 hbb
          go_wp2_with fail
          go_ret
          exact ⟨rfl, HB7.out⟩
end Go.Proofs.Ytakedococfklgaa
