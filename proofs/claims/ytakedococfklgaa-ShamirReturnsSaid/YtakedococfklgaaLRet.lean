/- ShamirReturns: for every input the law returns true, and its arguments read behind the call as they read before. No condition. The walk. -/
import Derived.Test.YtakedococfklgaaAw2
import Derived.Test.YtakedococfklgaaGd
import Derived.Test.YtakedococfklgaaFew
namespace Go.Proofs.Ytakedococfklgaa
open Go.RowKit Gf

theorem spl_bad {s : List UInt8} {co : List (List UInt8)} {z : List Int} (h : splE s co z ≠ 0) : splL s co z = [] := by unfold splL; rw [if_neg h]

set_option maxRecDepth 100000 in
set_option maxHeartbeats 4000000 in
theorem ret_walk (As : Option Addr) (n cs : Nat) (s : List UInt8) (Ac : Option Addr) (nc cc : Nat) (co : List (List UInt8)) (Az : Option Addr) (nz cz : Nat) (z : List Int) (x : Int) (w : World) (hs : BS w As n cs s) (hc : MS w Ac nc cc co) (hz : IS w Az nz cz z) (hx0 : 0 ≤ x) (hx1 : x < 65536) :
    Calls Try.prog 8 #[.slice As n cs, .slice Ac nc cc, .slice Az nz cz, .int .u16 x] w fun e w' => e = .returned (.bool true) ∧ Below w.heap.size w w' := by
  have HLS := Lib.hid hs.1
  have HLC := Lib.hid hc.1
  have HLZ := Lib.hid hz.1
  have hn := hs.len_le
  have hnc := hc.len_le
  have hnz := hz.len_le
  have HS := Lib.hid hs
  have HC := Lib.hid hc
  have HZ := Lib.hid hz
  clear hs hc hz
  cases hf : fwB n nc nz with
  | false =>
    have HF := Lib.hid hf
    clear hf
    go_enter Try.func8, Try.ntmps8
    go_wp2_with fail
    refine (awake_any _).mono ?_
    rintro e w1 ⟨rfl, hb1⟩
    have HB1 := Lib.hid hb1
    clear hb1
    go_wp2_with fail
    refine (few_any As Ac Az n cs nc cc nz cz w1).mono ?_
    rintro e w' ⟨rfl, rfl⟩
    rw [HF.out]
    go_wp2_with fail
    go_ret
    exact ⟨rfl, HB1.out⟩
  | true =>
    have HF := Lib.hid hf
    have HFT := Lib.hid (fwB_true hf)
    clear hf
    by_cases he3 : splE s co z = 0
    · obtain ⟨hl, hx, hle⟩ := spl_zero he3
      obtain ⟨hco, hrows⟩ := ltB_rows hl
      have HSL : Hid (splL s co z = wnK s co z) := Lib.hid (by unfold splL; rw [if_pos he3, wn_spl hrows])
      have HE3 := Lib.hid he3
      have HWL : Hid ((wnK s co z).length = nz) := Lib.hid (by rw [wnK_length, HLZ.out])
      have HG : Hid (Good (wnK s co z) s co) := Lib.hid (wnK_good hx)
      have HG1 : Hid (Good (pkK (wnK s co z) (stB x) nz) s co) := Lib.hid (by have := HG.out.pk (stB x); rw [HWL.out] at this; exact this)
      have HG2 : Hid (Good (pkK (wnK s co z) (fun i => !stB x i) nz) s co) := Lib.hid (by have := HG.out.pk (fun i => !stB x i); rw [HWL.out] at this; exact this)
      have HP1 := Lib.hid (pkK_le (wnK s co z) (stB x) nz)
      have HP2 := Lib.hid (pkK_le (wnK s co z) (fun i => !stB x i) nz)
      obtain ⟨m1, hm1⟩ : ∃ m, m = pkK (wnK s co z) (stB x) nz := ⟨_, rfl⟩
      obtain ⟨m2, hm2⟩ : ∃ m, m = pkK (wnK s co z) (fun i => !stB x i) nz := ⟨_, rfl⟩
      rw [← hm1] at HG1 HP1
      rw [← hm2] at HG2 HP2
      obtain ⟨k1, hk1⟩ : ∃ k, k = m1.length := ⟨_, rfl⟩
      obtain ⟨k2, hk2⟩ : ∃ k, k = m2.length := ⟨_, rfl⟩
      have HM1 := Lib.hid hm1
      have HM2 := Lib.hid hm2
      have HK1 := Lib.hid hk1
      have HK2 := Lib.hid hk2
      have HN64 : Hid (nz ≤ 64) := Lib.hid (by have := HFT.out; omega)
      have HT1 : Hid (nc + 1 ≤ 16) := Lib.hid (by have := HFT.out; omega)
      have HLE : Hid (s.length ≤ 1024) := Lib.hid hle
      have HT : Hid (nc + 1 = co.length + 1) := Lib.hid (by rw [HLC.out])
      have HT3 : Hid (nz * 32 ≤ lim ∧ k1 * 32 ≤ lim ∧ k2 * 32 ≤ lim) := Lib.hid (by have := HFT.out; have := HP1.out; have := HP2.out; unfold lim; omega)
      have HNI : Hid (((nc + 1 : Nat) : Int) = (nc : Int) + 1) := Lib.hid (by omega)
      have HCH := Lib.hid (HG.out.chk (by rw [HWL.out]; exact HN64.out) hle HT1.out HT.out)
      rw [HNI.out] at HCH
      have hb64 : m1.length ≤ 64 := by have := HN64.out; have := HP1.out; omega
      have hk2b : k2 ≤ 140737488355328 := by have := HN64.out; have := HP2.out; omega
      clear hl hx hle hco hrows he3 hm1 hm2 hk1 hk2
      by_cases hsh : k1 < nc + 1
      · have q1 : decide ((k1 : Int) < (nc : Int) + 1) = true := by simp; omega
        have HR := Lib.hid (HG1.out.short hb64 HLE.out (by omega) HT1.out (by rw [← HK1.out]; exact hsh))
        rw [HNI.out] at HR
        clear hsh hb64
        go_enter Try.func8, Try.ntmps8
        go_wp2_with fail
        refine (awake_any _).mono ?_
        rintro e w1 ⟨rfl, hb1⟩
        have HB1 := Lib.hid hb1
        clear hb1
        go_wp2_with fail
        refine (few_any As Ac Az n cs nc cc nz cz w1).mono ?_
        rintro e w' ⟨rfl, rfl⟩
        rw [HF.out]
        go_wp2_with fail
        refine (split_any As Ac Az n cs nc cc nz cz s co z w1 (HS.out.kept HB1.out) (HC.out.kept HB1.out) (HZ.out.kept HB1.out)).mono ?_
        rintro e w2 ⟨v2, rfl, ho2, hx2⟩
        rw [HE3.out]
        rw [HSL.out, HWL.out] at ho2
        have HB2 := Lib.hid (below_then HB1.out hx2)
        obtain ⟨A2, c2, rfl, hs2⟩ := ho2.ss HT3.out.1
        have H2 := Lib.hid hs2
        clear hx2 ho2 hs2
        go_wp2_with fail
        refine (some_any A2 nz c2 (wnK s co z) x w2 H2.out HN64.out hx0 hx1).mono ?_
        rintro e w3 ⟨v3, v4, rfl, ho3, ho4, hx3⟩
        rw [← HM1.out, ← HK1.out] at ho3
        rw [← HM2.out, ← HK2.out] at ho4
        obtain ⟨A3, c3, rfl, hs3⟩ := ho3.ss HT3.out.2.1
        obtain ⟨A4, c4, rfl, hs4⟩ := ho4.ss HT3.out.2.2
        have H3 := Lib.hid hs3
        have HB3 := Lib.hid (below_then HB2.out hx3)
        clear hx3 ho3 ho4 hs3 hs4
        go_wp2_with fail
        refine (combine_any A3 k1 c3 ((nc : Int) + 1) m1 w3 H3.out).mono ?_
        rintro e w5 ⟨v5, rfl, A5, n5, c5, rfl, hb5, _, hx5⟩
        rw [HR.out.1]
        rw [HR.out.2] at hb5
        obtain rfl : n5 = 0 := hb5.1.symm
        have HB5 := Lib.hid (below_then HB3.out hx5)
        clear hb5 hx5
        go_wp2_with fail
        go_ret
        exact ⟨rfl, HB5.out⟩
      · have q1 : decide ((k1 : Int) < (nc : Int) + 1) = false := by simp; omega
        have hle1 : nc + 1 ≤ m1.length := by rw [← HK1.out]; omega
        have HR := Lib.hid (HG1.out.ok hb64 HLE.out HT1.out HT.out hle1)
        have HEX : Hid (∀ y, vX y = true → exE m1 ((nc + 1 : Nat) : Int) y = 0 ∧ exX m1 ((nc + 1 : Nat) : Int) y = y ∧ exL m1 ((nc + 1 : Nat) : Int) y = spK s co (UInt8.ofNat y.toNat) s.length) := Lib.hid (fun y hy => HG1.out.ext hb64 HLE.out HT1.out HT.out hle1 hy)
        rw [HNI.out] at HR HEX
        clear hsh hb64 hle1
        go_enter Try.func8, Try.ntmps8
        go_wp2_with fail
        refine (awake_any _).mono ?_
        rintro e w1 ⟨rfl, hb1⟩
        have HB1 := Lib.hid hb1
        clear hb1
        go_wp2_with fail
        refine (few_any As Ac Az n cs nc cc nz cz w1).mono ?_
        rintro e w' ⟨rfl, rfl⟩
        rw [HF.out]
        go_wp2_with fail
        refine (split_any As Ac Az n cs nc cc nz cz s co z w1 (HS.out.kept HB1.out) (HC.out.kept HB1.out) (HZ.out.kept HB1.out)).mono ?_
        rintro e w2 ⟨v2, rfl, ho2, hx2⟩
        rw [HE3.out]
        rw [HSL.out, HWL.out] at ho2
        have HB2 := Lib.hid (below_then HB1.out hx2)
        obtain ⟨A2, c2, rfl, hs2⟩ := ho2.ss HT3.out.1
        have H2 := Lib.hid hs2
        clear hx2 ho2 hs2
        go_wp2_with fail
        refine (some_any A2 nz c2 (wnK s co z) x w2 H2.out HN64.out hx0 hx1).mono ?_
        rintro e w3 ⟨v3, v4, rfl, ho3, ho4, hx3⟩
        rw [← HM1.out, ← HK1.out] at ho3
        rw [← HM2.out, ← HK2.out] at ho4
        obtain ⟨A3, c3, rfl, hs3⟩ := ho3.ss HT3.out.2.1
        obtain ⟨A4, c4, rfl, hs4⟩ := ho4.ss HT3.out.2.2
        have H3 := Lib.hid hs3
        have H4 := Lib.hid hs4
        have HB3 := Lib.hid (below_then HB2.out hx3)
        have H23 := Lib.hid (H2.out.kept hx3)
        clear hx3 ho3 ho4 hs3 hs4
        go_wp2_with fail
        refine (combine_any A3 k1 c3 ((nc : Int) + 1) m1 w3 H3.out).mono ?_
        rintro e w5 ⟨v5, rfl, A5, n5, c5, rfl, hb5, _, hx5⟩
        rw [HR.out.1]
        rw [HR.out.2] at hb5
        have hbb := below_then HB3.out hx5
        have HB5 := Lib.hid hbb
        have H35 := Lib.hid (H3.out.kept hx5)
        have H45 := Lib.hid (H4.out.kept hx5)
        have H25 := Lib.hid (H23.out.kept hx5)
        have cv1 := conv_str hb5
        have cv2 := conv_str (HS.out.kept hbb)
        have hbs : ((strB s).toList == (strB s).toList) = true := by rw [strB_eq, decide_eq_true rfl]
        clear hb5 hx5 hbb
        go_wp2_with fail
        clear cv1 cv2
        go_loopw [75] (fun i wr => ∃ k : Nat, k ≤ k2 ∧ i = .int .i64 (k : Int) ∧ Hid (Below w5.heap.size w5 wr)) (fun i _ => k2 - (intOf i).toNat)
        case atStart => exact ⟨0, by omega, rfl, Lib.hid (Below.refl _ _)⟩
        case round =>
          obtain ⟨k, hk, rfl, hb⟩ := hrel
          by_cases hlt : k < k2
          · obtain ⟨g7, o7, A7, n7, c7, rfl, r1, r2, r3⟩ := H45.out.at_ hb.out hlt
            obtain ⟨y, hy⟩ : ∃ y, y = (gS m2 k).1 := ⟨_, rfl⟩
            rw [← hy] at r1
            have hvy : vX y = true := by rw [hy]; exact vX_iff.2 (HG2.out.x k (by rw [← HK2.out]; exact hlt))
            have HD : Hid ((gS m2 k).2 = spK s co (UInt8.ofNat y.toNat) s.length) := Lib.hid (by rw [HG2.out.d k (by rw [← HK2.out]; exact hlt), gX, hy])
            obtain ⟨D, hD⟩ : ∃ D, D = (gS m2 k).2 := ⟨_, rfl⟩
            rw [← hD] at r3 HD
            have HR3 := Lib.hid r3
            obtain ⟨x1, x2, x3⟩ := HEX.out y hvy
            rw [← HD.out] at x3
            have HX := Lib.hid (And.intro x1 (And.intro x2 x3))
            clear hy hD r3 x1 x2 x3 hvy
            go_wp2_with fail
            refine (extend_any A3 k1 c3 ((nc : Int) + 1) y m1 _ ((H35.out.kept hb.out).kept (kb1 _ _))).mono ?_
            rintro e w6 ⟨A6, n6, c6, rfl, hb6, _, hx6⟩
            rw [HX.out.1, HX.out.2.1]
            rw [HX.out.2.2] at hb6
            have hba := below_then (kb1 wr (.cells #[.int .i64 y, .slice A7 n7 c7] 33)) hx6
            have kx6 := (Blk.new wr 33 #[.int .i64 y, .slice A7 n7 c7]).kept hx6
            obtain ⟨W7, hW7⟩ : ∃ W, W = w6.alloc (.cells #[.int .i64 y, .slice A6 n6 c6] 33) := ⟨_, rfl⟩
            have h67 : Below w6.heap.size w6 W7 := by rw [hW7]; exact kb1 _ _
            have kx7 := kx6.kept h67
            have ky7 : Blk W7 w6.heap.size 33 #[.int .i64 y, .slice A6 n6 c6] := by rw [hW7]; exact blk_at rfl _ _
            have q5 : W7.cell? ⟨wr.heap.size, 0, none⟩ = some (.int .i64 y) := by rw [kx7.cell]; rfl
            have q6 : W7.cell? ⟨wr.heap.size, 1, none⟩ = some (.slice A7 n7 c7) := by rw [kx7.cell]; rfl
            obtain ⟨W8, hW8⟩ : ∃ W, W = W7.alloc (.cells #[.int .i64 y, .slice A7 n7 c7] 33) := ⟨_, rfl⟩
            have h78 : Below W7.heap.size W7 W8 := by rw [hW8]; exact kb1 _ _
            have ky8 := ky7.kept h78
            have q7 : W8.cell? ⟨w6.heap.size, 0, none⟩ = some (.int .i64 y) := by rw [ky8.cell]; rfl
            have q8 : W8.cell? ⟨w6.heap.size, 1, none⟩ = some (.slice A6 n6 c6) := by rw [ky8.cell]; rfl
            have HBW := Lib.hid (below_then hb.out (below_then hba (below_then h67 h78)))
            have HX8 : Hid (BS W8 A7 n7 c7 D) := Lib.hid (HR3.out.kept (below_then hba (below_then h67 h78)))
            have HY8 : Hid (BS W8 A6 n6 c6 D) := Lib.hid (hb6.kept (below_then h67 h78))
            have HZ8 : Hid (Blk W8 W7.heap.size 33 #[.int .i64 y, .slice A7 n7 c7]) := Lib.hid (by rw [hW8]; exact blk_at rfl _ _)
            have s7 : W7.heap.size = w6.heap.size + 1 := by rw [hW7]; simp
            rw [hW7] at hW8 q5 q6
            subst hW8
            subst hW7
            clear hba kx6 h67 kx7 ky7 h78 ky8 hb6 hx6 s7
            go_wp2_with fail
            obtain ⟨V8, hV8⟩ : ∃ V, V = (w6.alloc (.cells #[.int .i64 y, .slice A6 n6 c6] 33)).alloc (.cells #[.int .i64 y, .slice A7 n7 c7] 33) := ⟨_, rfl⟩
            rw [← hV8] at HBW HX8 HY8 HZ8 ⊢
            have hz8 := HZ8.out
            rw [World.size_alloc] at hz8
            have s8 : V8.heap.size = w6.heap.size + 1 + 1 := by rw [hV8]; simp
            have h89 := kb1 V8 (.cells #[.int .i64 y, .slice A6 n6 c6] 33)
            have kz9 := hz8.kept h89
            have kw9 : Blk (V8.alloc (.cells #[.int .i64 y, .slice A6 n6 c6] 33)) (w6.heap.size + 1 + 1) 33 #[.int .i64 y, .slice A6 n6 c6] := blk_at s8 _ _
            refine (same_any _ _ 1 1 1 1 [(y, D)] [(y, D)] _ (ss1 kz9 (HX8.out.kept h89)) (ss1 kw9 (HY8.out.kept h89))).mono ?_
            rintro e w9 ⟨rfl, hx9⟩
            rw [show sameS [(y, D)] [(y, D)] = true from decide_eq_true rfl]
            have HB9 := Lib.hid (below_then HBW.out (below_then h89 hx9))
            clear hz8 s8 h89 kz9 kw9 hx9 hV8
            go_wp2_with fail
            go_roundw
            case rel => exact ⟨k + 1, by omega, by go_num, HB9⟩
            case measure => simp [intOf]; omega
          · obtain rfl : k = k2 := by omega
            go_wp2_with fail
            refine (check2_any A2 nz c2 ((nc : Int) + 1) (wnK s co z) wr (H25.out.kept hb.out)).mono ?_
            rintro e w8 ⟨rfl, hx8⟩
            rw [HCH.out.1, HCH.out.2]
            have HB8 := Lib.hid (below_then HB5.out (below_then hb.out hx8))
            clear hx8
            go_wp2_with fail
            go_ret
            exact ⟨rfl, HB8.out⟩
    · have q3 : (splE s co z != 0) = true := by simpa using he3
      have HSL := Lib.hid (spl_bad he3)
      obtain ⟨E, hE⟩ : ∃ E, E = splE s co z := ⟨_, rfl⟩
      rw [← hE] at q3
      have HE := Lib.hid hE
      clear he3 hE
      go_enter Try.func8, Try.ntmps8
      go_wp2_with fail
      refine (awake_any _).mono ?_
      rintro e w1 ⟨rfl, hb1⟩
      have HB1 := Lib.hid hb1
      clear hb1
      go_wp2_with fail
      refine (few_any As Ac Az n cs nc cc nz cz w1).mono ?_
      rintro e w' ⟨rfl, rfl⟩
      rw [HF.out]
      go_wp2_with fail
      refine (split_any As Ac Az n cs nc cc nz cz s co z w1 (HS.out.kept HB1.out) (HC.out.kept HB1.out) (HZ.out.kept HB1.out)).mono ?_
      rintro e w2 ⟨v2, rfl, ho2, hx2⟩
      rw [← HE.out]
      rw [HSL.out] at ho2
      obtain ⟨A2, c2, rfl, hs2⟩ := ho2.ss (by show 0 * 32 ≤ lim; decide)
      have HB2 := Lib.hid (below_then HB1.out hx2)
      clear hx2 ho2 hs2
      go_wp2_with fail
      go_ret
      exact ⟨rfl, HB2.out⟩
end Go.Proofs.Ytakedococfklgaa
