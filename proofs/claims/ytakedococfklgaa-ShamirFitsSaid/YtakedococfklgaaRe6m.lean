/- Contract of the reference kinkeepref06.Interpolate. -/
import Derived.Test.YtakedococfklgaaPbm
namespace Go.Proofs.Ytakedococfklgaa
open Go.RowKit Gf

attribute [local go_sem] Gf.xor_bits

theorem bs2 {w : World} {g : Nat} {x y : UInt8} (h : Blk w g 5 (row [x, y])) : BS w (some ⟨g, 0, none⟩) 2 2 [x, y] := BS.of_blk h rfl (by decide)

set_option maxRecDepth 100000 in
set_option maxHeartbeats 2000000 in
theorem rinterp_any (A A' : Option Addr) (n c c' : Nat) (xs ys : List UInt8) (w : World) (hp : BS w A n c xs) (hq : BS w A' n c' ys) (hn : n ≤ 1000) (hd : Py.Dst xs) :
    Calls Try.prog 58 #[.slice A n c, .slice A' n c'] w (Rets (GvB (Py.itP xs ys)) w) := by
  have HP := Lib.hid hp
  have HQ := Lib.hid hq
  have HLP := Lib.hid hp.1
  have HN := Lib.hid hn
  have HD := Lib.hid hd
  have hn2 := hp.len_le
  have HRL : Hid (∀ i, i ≤ n → (Py.riK xs ys i).length ≤ n) := Lib.hid (fun i hi => by have := Py.riK_length xs ys i (by rw [hp.1]; exact hi); rw [hp.1] at this; exact this)
  have HBL : Hid (∀ i k, k ≤ n → (Py.bsK xs i k).length ≤ n + 1) := Lib.hid (fun i k hk => by have := Py.bsK_length xs i k; split at this <;> omega)
  clear hp hq hn hd
  go_enter Try.func58, Try.ntmps58
  go_wp2_with fail
  go_loopw [5, 11] (fun v i wr => ∃ (k A1 n1 c1 : _), k ≤ n ∧ i = .int .i64 (k : Int) ∧ v = .slice A1 n1 c1 ∧ Hid (BS wr A1 n1 c1 (Py.riK xs ys k)) ∧ Hid (AtB A1 (w.heap.size ≤ ·)) ∧ Hid (Below w.heap.size w wr)) (fun _ i _ => n - (intOf i).toNat)
  case atStart => exact ⟨0, none, 0, 0, by omega, rfl, rfl, Lib.hid BS.nil, Lib.hid (fun _ h => by cases h), Lib.hid (Below.refl _ _)⟩
  case round =>
    obtain ⟨i, A1, n1, c1, hi, rfl, rfl, h1, ha1, hb⟩ := hrel
    by_cases hlt : i < n
    · obtain ⟨w1, rfl⟩ : ∃ w1, w1 = wr := ⟨_, rfl⟩
      go_wp2_with fail
      go_loopw [7, 17] (fun v j wr => ∃ (k A2 n2 c2 : _), k ≤ n ∧ j = .int .i64 (k : Int) ∧ v = .slice A2 n2 c2 ∧ Hid (BS wr A2 n2 c2 (Py.bsK xs i k)) ∧ Hid (Below w1.heap.size w1 wr)) (fun _ j _ => n - (intOf j).toNat)
      case atStart => exact ⟨0, _, 1, 1, by omega, rfl, rfl, Lib.hid (BS.of_blk (l := [1]) (Blk.new w1 _ _) rfl (by decide)), Lib.hid (kb1' _ _)⟩
      case round =>
        obtain ⟨k, A2, n2, c2, hk, rfl, rfl, h2, hb2⟩ := hrel
        by_cases hlk : k < n
        · by_cases hki : k = i
          · have q1 : ((k : Int) != (i : Int)) = false := by simp; omega
            have HB' : Hid (BS wr A2 n2 c2 (Py.bsK xs i (k + 1))) := Lib.hid (by rw [Py.bsK, if_pos hki]; exact h2.out)
            clear hki
            go_wp2_with fail
            go_roundw
            case rel => exact ⟨k + 1, A2, n2, c2, by omega, by go_num, rfl, HB', hb2⟩
            case measure => simp [intOf]; omega
          · have q1 : ((k : Int) != (i : Int)) = true := by simp; omega
            have HBS : Hid (Py.bsK xs i (k + 1) = rmP (rmP (Py.bsK xs i k) [gB xs k, 1]) [inv (gB xs i ^^^ gB xs k)]) := Lib.hid (by rw [Py.bsK, if_neg hki])
            clear hki
            have hbw := below_then hb.out hb2.out
            obtain ⟨g3, o3, rfl, r3⟩ := HP.out.at_ hbw hlk
            obtain ⟨xk, hxk⟩ : ∃ x, x = gB xs k := ⟨_, rfl⟩
            rw [← hxk] at r3
            obtain ⟨xi, hxi⟩ : ∃ x, x = gB xs i := ⟨_, rfl⟩
            rw [← hxk, ← hxi] at HBS
            have HXK := Lib.hid hxk
            have HXI := Lib.hid hxi
            have HBW := Lib.hid hbw
            have HN2 : Hid (n2 ≤ 100000) := Lib.hid (by have h10 := HBL.out i k (by omega); have h11 := HN.out; rw [h2.out.1] at h10; omega)
            clear hxk hxi hbw
            go_wp2_with fail
            have hb4 := kb1' wr (.cells #[B xk, .int .u8 1] 5)
            have k4 : Blk (wr.alloc (.cells #[B xk, .int .u8 1] 5)) wr.heap.size 5 (row [xk, 1]) := Blk.new wr _ _
            refine (rpmul_any A2 _ n2 c2 2 2 (Py.bsK xs i k) [xk, 1] _ (h2.out.kept hb4) (bs2 k4) HN2.out (by decide)).mono ?_
            rintro e w5 ⟨v5, rfl, A5, n5, c5, rfl, hb5, _, hx5⟩
            have hb15 := below_then hb2.out (below_then hb4 hx5)
            have HB5 := Lib.hid hb15
            have H5 := Lib.hid hb5
            have HN5 : Hid (n5 ≤ 100000) := Lib.hid (by
              have h9 := Py.rmP_length (Py.bsK xs i k) [xk, 1] (by simp)
              rw [hb5.1, h2.out.1] at h9
              have h10 := HBL.out i k (by omega); have h11 := HN.out; rw [h2.out.1] at h10
              simp at h9; omega)
            obtain ⟨_, _, e6, r6⟩ := HP.out.at_ (below_then hb.out hb15) hlk
            cases e6
            obtain ⟨_, _, e7, r7⟩ := HP.out.at_ (below_then hb.out hb15) hlt
            cases e7
            rw [← HXK.out] at r6
            rw [← HXI.out] at r7
            clear hb4 k4 hx5 hb5 hb15 r3
            go_wp2_with fail
            refine Text.wp_region_text (fun _ => True) [(0, 4), (1, 4), (2, 4), (3, 4), (5, 4), (6, 4), (7, 4), (4, 1), (8, 1), (9, 4), (10, 1), (11, 2), (12, 2), (13, 4)] (by kernel_rfl) (by kernel_rfl) (fun _ _ _ _ _ h => h) (trivial) ?_
            iterate 7 (refine Text.purek rfl rfl (fun K hK => ⟨_, fun w' => by go_simp <;> rfl, ?_⟩); go_simp; refine hK _ ?_; clear hK K)
            iterate 2 (refine Text.readk rfl rfl (fun K hK => ⟨_, by go_simp <;> rfl, ?_⟩); go_simp; refine hK _ ?_; clear hK K)
            (refine Text.purek rfl rfl (fun K hK => ⟨_, fun w' => by go_simp <;> rfl, ?_⟩); go_simp; refine hK _ ?_; clear hK K)
            refine Text.quietk rfl rfl (fun K hK => ?_)
            refine ⟨_, _, _, by go_simp <;> rfl, rinv_any (xi ^^^ xk) _, ?_⟩
            go_simp
            refine hK _ ?_
            clear hK K
            refine Text.eff rfl rfl (fun K hK => ?_)
            go_simp
            obtain ⟨W6, hW6⟩ : ∃ W, W = (w5.alloc (.cells #[B (inv (xi ^^^ xk))] 5)).drew := ⟨_, rfl⟩
            have hb6 : Below w5.heap.size w5 W6 := by rw [hW6]; exact (kb1' _ _).drew
            have k6 : Blk W6 w5.heap.size 5 (row [inv (xi ^^^ xk)]) := by rw [hW6]; exact (Blk.new w5 _ _).drew
            refine hK _ _ trivial ?_
            clear hK K
            refine Text.eff rfl rfl (fun K hK => ?_)
            go_simp
            rw [← hW6]
            clear hW6
            refine (rpmul_any A5 _ n5 c5 1 1 _ [inv (xi ^^^ xk)] W6 (H5.out.kept hb6) (BS.of_blk k6 rfl (by decide)) HN5.out (by decide)).mono ?_
            rintro e w7 ⟨v7, rfl, A7, n7, c7, rfl, hb7, _, hx7⟩
            refine hK _ _ trivial ?_
            clear hK K
            have HB7 := Lib.hid (below_then HB5.out (below_then hb6 hx7))
            have H7 : Hid (BS w7 A7 n7 c7 (Py.bsK xs i (k + 1))) := Lib.hid (by rw [HBS.out]; exact hb7)
            clear hb6 k6 hb7 hx7 r6 r7
            (refine Text.purek rfl rfl (fun K hK => ⟨_, fun w' => by go_simp <;> rfl, ?_⟩); go_simp; refine hK _ ?_; clear hK K)
            refine Text.done ?_
            go_wp2_with fail
            go_roundw
            case rel => exact ⟨k + 1, A7, n7, c7, by omega, by go_num, rfl, H7, HB7⟩
            case measure => simp [intOf]; omega
        · obtain rfl : k = n := by omega
          have hbw := below_then hb.out hb2.out
          obtain ⟨g3, o3, rfl, r3⟩ := HQ.out.at_ hbw hlt
          obtain ⟨y, hy⟩ : ∃ x, x = gB ys i := ⟨_, rfl⟩
          rw [← hy] at r3
          have HR : Hid (Py.riK xs ys (i + 1) = Py.addP (Py.riK xs ys i) (rmP (Py.bsK xs i k) [y])) := Lib.hid (by rw [Py.riK, HLP.out, hy])
          have HN2 : Hid (n2 ≤ 100000) := Lib.hid (by have h10 := HBL.out i k (Nat.le_refl _); have h11 := HN.out; rw [h2.out.1] at h10; omega)
          have HN1 : Hid (n1 ≤ 100000) := Lib.hid (by have h10 := HRL.out i (by omega); have h11 := HN.out; rw [h1.out.1] at h10; omega)
          have H12 := Lib.hid (h1.out.kept hb2.out)
          have HBW := Lib.hid hbw
          clear hy hbw
          go_wp2_with fail
          have hb4 := kb1' wr (.cells #[B y] 5)
          have k4 : Blk (wr.alloc (.cells #[B y] 5)) wr.heap.size 5 (row [y]) := Blk.new wr _ _
          refine (rpmul_any A2 _ n2 c2 1 1 (Py.bsK xs i k) [y] _ (h2.out.kept hb4) (BS.of_blk k4 rfl (by decide)) HN2.out (by decide)).mono ?_
          rintro e w5 ⟨v5, rfl, A5, n5, c5, rfl, hb5, _, hx5⟩
          have hb45 := below_then hb4 hx5
          have HB5 := Lib.hid (below_then HBW.out hb45)
          have H5 := Lib.hid hb5
          have H15 := Lib.hid (H12.out.kept hb45)
          have HN5 : Hid (n5 ≤ 100000) := Lib.hid (by
            have h9 := Py.rmP_length (Py.bsK xs i k) [y] (by simp)
            rw [hb5.1, h2.out.1] at h9
            have h10 := HN2.out
            simp at h9; omega)
          clear hb4 k4 hx5 hb5 hb45
          go_wp2_with fail
          refine (radd_any A1 A5 n1 c1 n5 c5 _ _ w5 H15.out H5.out HN1.out HN5.out).mono ?_
          rintro e w6 ⟨v6, rfl, A6, n6, c6, rfl, hb6, ha6, hx6⟩
          have HB6 := Lib.hid (below_then HB5.out hx6)
          have HA6 : Hid (AtB A6 (w.heap.size ≤ ·)) := Lib.hid (fun a ea => Nat.le_trans HB5.out.size (ha6 a ea))
          have H6 : Hid (BS w6 A6 n6 c6 (Py.riK xs ys (i + 1))) := Lib.hid (by rw [HR.out]; exact hb6)
          clear hb6 ha6 hx6
          go_wp2_with fail
          go_roundw
          case rel => exact ⟨i + 1, A6, n6, c6, by omega, by go_num, rfl, H6, HA6, HB6⟩
          case measure => simp [intOf]; omega
    · obtain rfl : i = n := by omega
      have HT : Hid (Py.trim (Py.riK xs ys i) = Py.itP xs ys) := Lib.hid (by have := Py.ri_it (ys := ys) HD.out; rw [HLP.out] at this; exact this)
      go_wp2_with fail
      refine (rtrim_any A1 n1 c1 (Py.riK xs ys i) wr h1.out).mono ?_
      rintro e w5 ⟨v5, rfl, A5, n5, c5, rfl, hb5, ha5, hx5⟩
      rw [HT.out] at hb5
      have HG : Hid (GvB (Py.itP xs ys) w (.slice A5 n5 c5) w5) := Lib.hid ⟨A5, n5, c5, rfl, hb5, fun a ea => Nat.le_trans hb.out.size (ha5 a ea), below_then hb.out hx5⟩
      clear hb5 ha5 hx5
      go_wp2_with fail
      go_ret
      exact ⟨_, rfl, HG.out⟩
end Go.Proofs.Ytakedococfklgaa
