/- The law ChallengePurse: its walk. -/
import Derived.Test.YtheijpjfpaghfaaGreatDoorC50
import Derived.Test.YtheijpjfpaghfaaGreatDoorC49
import Derived.Test.YtheijpjfpaghfaaGreatDoorC18
import Derived.Deep.CutBlock
namespace Go.Proofs.YtheijpjfpaghfaaGreatDoor
open Go Go.RowKit Go.ChangeMaps Go.MapKept Go.Shelf Gf Sha

set_option maxRecDepth 100000 in
set_option maxHeartbeats 16000000 in
theorem purse_walk (A : Option Addr) (n c : Nat) (l : List Oc) (w : World) (hT : Tabs w) (h : LS rOp 5 64 w A n c l) :
  Calls Tryz.prog 4 #[.slice A n c] w fun e w' => e = .returned (.bool true) ∧ Below w.heap.size w w' := by
 have HT := Lib.hid hT
 have H := Lib.hid h
 have HNL := Lib.hid h.1
 clear hT h
 go_enter Tryz.func4, Tryz.ntmps4
 go_wp2_with (first
  | (go_at_call 5; (with_reducible show Calls _ _ _ w _); refine (awake_any w HT.out).mono ?_; rintro e w1 ⟨rfl, b1⟩; have HB1 := Lib.hid b1; clear b1)
  | (go_at_call 9; refine (calls_any A n c l w1 (H.out.kept stay_op HB1.out)).mono ?_; rintro e w2 ⟨b, rfl, hc, b1⟩; have HB2 := Lib.hid (below_then HB1.out b1); have HC := Lib.hid hc; clear b1 hc; cases b)
  | (go_at_call 5; (with_reducible show Calls _ _ _ w2 _); refine (awake_any w2 (HT.out.kept HB2.out)).mono ?_; rintro e w3 ⟨rfl, b1⟩; have HBz := Lib.hid (below_then HB2.out b1); clear b1)
  | (go_at_call 10; refine (pnew_any w2).mono ?_; rintro e w3 ⟨gp, gm, rfl, r1, r2, r3, r4⟩; have HP3 := Lib.hid r1; have HX3 := Lib.hid r2; have HG3 := Lib.hid (And.intro r3 r4); clear r1 r2 r3 r4)
  | ((with_reducible show OpW 28); refine wpList_bslice _ rfl 29 54 0 _ rfl #[] (by rw [List.map_toArray]; rfl) [] (bslRF0 _) ?_; intro w4 a1 a2 a3; have HJ4 : Hid (LJ w w4 gp gm [] (.slice (some ⟨w3.heap.size, 0, none⟩) 0 0) []) := Lib.hid (LJ.new HB2.out HP3.out HX3.out HG3.out ⟨RW.of_blk (l := []) a1 rfl (by decide), fun _ h => (by cases h)⟩ (fun b e => by cases e; exact Nat.le_refl _) a2); clear a1 a2 a3))
 ·
  go_ret
  exact ⟨rfl, HBz.out⟩
 ·
  have HOK := Lib.hid (HC.out (by trivial))
  clear HC
  have hn25 : (n : Int) ≤ 25 := by have := HOK.out.1; omega
  go_loopw [3, 4, 31] (fun pv mv iv wr => ∃ (k gp gm : Nat) (L rs : List Se), k ≤ n ∧ iv = .int .i64 (k : Int) ∧ pv = .pointer (some ⟨gp, 0, none⟩) ∧ Hid (LJ w wr gp gm L mv rs)) (fun _ _ iv _ => n - (intOf iv).toNat)
  case atStart => exact ⟨0, gp, gm, [], [], by omega, rfl, rfl, HJ4⟩
  case round =>
   obtain ⟨k, gp, gm, L, rs, hk, rfl, rfl, hlj⟩ := hrel
   obtain ⟨wx, hwx⟩ : ∃ x, x = wr := ⟨_, rfl⟩
   rw [← hwx] at hlj ⊢
   clear hwx HP3 HX3 HG3 HJ4
   obtain ⟨Am, cm, em, _⟩ := hlj.out.rl.row.form
   subst em
   by_cases hlt : k < n
   ·
    obtain ⟨oc, g, o, cs, ht, rfl, hat, hr⟩ := H.out.at_ stay_op (Below.refl _ _) hlt
    obtain ⟨A1, m, c1, rfl, hls, hsl, hwi⟩ := hr
    have hkl : k < l.length := by rw [HNL.out]; exact hlt
    have hoc : oc ∈ l := by
     rw [List.getElem?_eq_getElem hkl] at ht
     injection ht with ht
     rw [← ht]
     exact List.getElem_mem hkl
    obtain ⟨kd, xs, s, i, lim⟩ := oc
    have HAT : Hid (At wx g (o + k * 5) (opC ⟨kd, xs, s, i, lim⟩ A1 m c1)) := Lib.hid (hat.kept hlj.out.be)
    have HLS : Hid (LS rTk 4 56 w A1 m c1 xs) := Lib.hid hls
    have HM : Hid (m ≤ 1000) := Lib.hid (by have h1 := HOK.out.2 _ hoc; have h2 := hls.1; simp only at h1 h2; omega)
    have HSI : Hid (s.length ≤ 9223372036854775807 ∧ (Lit.int .i64 i).wf = true) := Lib.hid ⟨by have : s.length ≤ reachBytes := hsl; unfold reachBytes at this; omega, hwi⟩
    have HSL : Hid (s.length ≤ reachBytes) := Lib.hid hsl
    clear hat hls hsl hwi ht hkl hoc
    go_upto_block 2 with (first
     | ((with_reducible show OpW 34); refine wpList_loadv _ rfl 41 (.tmp 33) rfl 5 (by kernel_rfl) g (o + k * 5) (opC ⟨kd, xs, s, i, lim⟩ A1 m c1) (by go_simp) HAT.out rfl ?_)
     | ((with_reducible show OpW 6); refine wpList_alloc _ rfl 41 rfl opZ opZero ?_; intro y1 a1 a2 a3; have HV1 := Lib.hid a1; have HX1 := Lib.hid a2; clear a1 a2 a3)
     | ((with_reducible show OpN); refine wpList_storev _ rfl 41 (.tmp 6) (.tmp 34) rfl 5 (by kernel_rfl) wx.heap.size 0 _ opZ (opC ⟨kd, xs, s, i, lim⟩ A1 m c1) rfl rfl HV1.out rfl (opC_one _ _ _ _) (by decide) ?_; intro y2 a1 a2 a3; have HV2 : Hid (BL y2 wx.heap.size 41 (opC ⟨kd, xs, s, i, lim⟩ A1 m c1)) := Lib.hid a1; have q0 : y2.cell? ⟨wx.heap.size, 0, none⟩ = some (.int .i64 kd) := BL.get (l := opC ⟨kd, xs, s, i, lim⟩ A1 m c1) a1 (j := 0) rfl; have HX2 : Hid (Below wx.heap.size wx y2) := Lib.hid (low_own HX1.out a2 (fun i hi e => by omega)); clear a1 a2 a3))
    have HJ2 := Lib.hid (hlj.out.kept HX2.out)
    have HPL : Hid (∀ b, PgB gp gm L b → b < wx.heap.size) := Lib.hid (fun b hb => hlj.out.pg.lt hb)
    have HFR : Hid (∀ a, A1 = some a → 0 < m → ¬ PgB gp gm L a.block) := Lib.hid (fun a ha hm hp => by have h1 := tk_blk HLS.out ha hm; have h2 := hlj.out.lo _ hp; omega)
    have HLEN := Lib.hid HJ2.out.len
    clear q0
    go_cut [3, 4] (fun pv mv wq => ∃ (gp' gm' : Nat) (L' rs' : List Se), pv = .pointer (some ⟨gp', 0, none⟩) ∧ Hid (LJ w wq gp' gm' L' mv rs') ∧ Hid (BL wq wx.heap.size 41 (opC ⟨kd, xs, s, i, lim⟩ A1 m c1)))
    case first =>
     by_cases k1 : kd = 1
     ·
      subst k1
      obtain ⟨Z, hZ⟩ : ∃ Z, Z = adX (rs.map (·.e)) xs := ⟨_, rfl⟩
      have HZ := Lib.hid hZ
      have HZL : Hid (adX (L.map (·.e)) xs = Z) := Lib.hid (by rw [hZ]; exact adX_cong xs HJ2.out.pm HJ2.out.ids)
      have q1 : y2.cell? ⟨wx.heap.size, 1, none⟩ = some (.slice A1 m c1) := BL.get (l := opC ⟨1, xs, s, i, lim⟩ A1 m c1) HV2.out (j := 1) rfl
      have ee : (Z != Z) = false := by simp
      clear hZ
      go_wp2_with (first
       | (go_at_call 11; refine (radd_any y2 _ rs A1 m c1 xs HJ2.out.rl (HLS.out.kept stay_tk HJ2.out.be) HLEN.out.1 HJ2.out.iv.sz HJ2.out.iv.nodup HM.out).mono ?_; rintro e y3 ⟨mv', rs', rfl, r1, r2, r3, r4⟩; rw [← HZ.out]; have HR1 := Lib.hid r1; have HR2 := Lib.hid r2; have HR3 := Lib.hid r3; have HR4 := Lib.hid r4; have HV3 := Lib.hid (HV2.out.kept r4); have q3 : y3.cell? ⟨wx.heap.size, 1, none⟩ = some (.slice A1 m c1) := BL.get (l := opC ⟨1, xs, s, i, lim⟩ A1 m c1) HV3.out (j := 1) rfl; clear r1 r2 r3 r4)
       | (go_at_call 12; refine (padd_pg y3 gp gm L A1 m c1 xs (HJ2.out.pg.kept HR4.out) (HLS.out.kept stay_tk (below_thenB HJ2.out.be HJ2.out.be.size HR4.out)) HLEN.out.2 HJ2.out.size HJ2.out.non HM.out HFR.out).mono ?_; rintro e y4 ⟨rfl, p⟩; rw [HZL.out]; have HPA := Lib.hid p; clear p))
      obtain ⟨L', hj'⟩ := HJ2.out.add HR1.out HR2.out HR3.out HR4.out HPA.out
      have HKA : Hid (Kp (PgB gp gm L) y3 y4) := Lib.hid (by
       have p := HPA.out
       split at p
       ·
        obtain ⟨_, _, _, h9, _⟩ := p; exact h9
       ·
        exact Kp.of_below p)
      go_meet
      exact ⟨gp, gm, L', rs', rfl, Lib.hid hj', Lib.hid (HV3.out.kp HKA.out (fun hb => by have := HPL.out _ hb; omega))⟩
     ·
      have f1 : (kd == 1) = false := by simpa using k1
      by_cases k2 : kd = 2
      ·
       subst k2
       clear k1 f1
       obtain ⟨tk, us, hof⟩ := ofE_form (rs.map (·.e)) (s, i)
       have HOF : Hid (ofE (rs.map (·.e)) (s, i) = ⟨s, i, tk, us⟩) := Lib.hid hof
       clear hof
       cases tk with
       | nil =>
        have HPN : Hid (∀ x ∈ L, idE x.e = (s, i) → x.e.tk = []) := Lib.hid (fun x hx hid => by
         have h1 := HJ2.out.of (s, i)
         rw [HOF.out, ← hid, ofE_in HJ2.out.ids (List.mem_map.2 ⟨x, hx, rfl⟩)] at h1
         rw [h1])
        go_wp2_with (first
         | ((with_reducible show OpW 86); refine wpList_loadv _ rfl 39 (.tmp 85) rfl 2 (by kernel_rfl) wx.heap.size 2 [.string (strB s), .int .i64 i] rfl (op_pid HV2.out) rfl ?_)
         | (go_at_call 13; refine (ruse_none y2 _ rs s i HJ2.out.rl (by have := HLEN.out.1; omega) (by rw [HOF.out])).mono ?_; rintro e y3 ⟨rfl, b1⟩; have HX3 := Lib.hid b1; clear b1)
         | ((with_reducible show OpW 10); refine wpList_alloc _ rfl 45 rfl tokZ tokZero ?_; intro y4 a1 a2 a3; have HT4 := Lib.hid a1; have HX4 := Lib.hid (below_thenB HX3.out HX3.out.size a2); clear a1 a2 a3)
         | ((with_reducible show OpN); refine wpList_storev _ rfl 45 (.tmp 10) (.tmp 89) rfl 4 (by kernel_rfl) y3.heap.size 0 _ tokZ tokZ rfl rfl HT4.out rfl tokZ_one (by decide) ?_; intro y5 a1 a2 a3; have HT5 : Hid (BL y5 y3.heap.size 45 tokZ) := Lib.hid a1; have HX5 : Hid (Below y2.heap.size y2 y5) := Lib.hid (low_own HX4.out a2 (fun i hi e => by have := HX3.out.size; omega)); have HV5 := Lib.hid (HV2.out.kept HX5.out); clear a1 a2 a3)
         | ((with_reducible show OpW 94); refine wpList_loadv _ rfl 39 (.tmp 93) rfl 2 (by kernel_rfl) wx.heap.size 2 [.string (strB s), .int .i64 i] rfl (op_pid HV5.out) rfl ?_)
         | (go_at_call 14; refine (puse_none y5 gp gm L s i (HJ2.out.pg.kept HX5.out) HSI.out.1 HSI.out.2 HPN.out).mono ?_; rintro e y6 ⟨rfl, b1⟩; have HX6 := Lib.hid (below_thenB HX5.out HX5.out.size b1); have HT6 := Lib.hid (HT5.out.kept b1); clear b1)
         | ((with_reducible show OpW 12); refine wpList_alloc _ rfl 45 rfl tokZ tokZero ?_; intro y7 a1 a2 a3; have HW7 := Lib.hid a1; have HX7 := Lib.hid (below_thenB HX6.out HX6.out.size a2); have HT7 := Lib.hid (HT6.out.kept a2); clear a1 a2 a3)
         | ((with_reducible show OpN); refine wpList_storev _ rfl 45 (.tmp 12) (.tmp 96) rfl 4 (by kernel_rfl) y6.heap.size 0 _ tokZ tokZ rfl rfl HW7.out rfl tokZ_one (by decide) ?_; intro y8 a1 a2 a3; have HW8 : Hid (BL y8 y6.heap.size 45 tokZ) := Lib.hid a1; have HX8 : Hid (Below y2.heap.size y2 y8) := Lib.hid (low_own HX7.out a2 (fun i hi e => by have := HX6.out.size; omega)); have HT8 := Lib.hid (HT7.out.kp a2 (fun e => by have := HT6.out.lt; omega)); clear a1 a2 a3)
         | ((with_reducible show OpW 98); refine wpList_loadv _ rfl 45 (.tmp 12) rfl 4 (by kernel_rfl) y6.heap.size 0 [.string (strB []), .int .i64 0, .string (strB []), .string (strB [])] rfl (BL.all HW8.out) rfl ?_)
         | ((with_reducible show OpW 99); refine wpList_loadv _ rfl 45 (.tmp 10) rfl 4 (by kernel_rfl) y3.heap.size 0 [.string (strB []), .int .i64 0, .string (strB []), .string (strB [])] rfl (BL.all HT8.out) rfl ?_))
        go_meet
        exact ⟨gp, gm, L, rs, rfl, Lib.hid (HJ2.out.kept HX8.out), Lib.hid (HV2.out.kept HX8.out)⟩
       | cons y tk =>
        obtain ⟨j, tv, uv, hj, hub⟩ := HJ2.out.use HOF.out
        have HJ := Lib.hid hj
        have HUB := Lib.hid hub
        clear hj hub
        go_wp2_with (first
         | ((with_reducible show OpW 86); refine wpList_loadv _ rfl 39 (.tmp 85) rfl 2 (by kernel_rfl) wx.heap.size 2 [.string (strB s), .int .i64 i] rfl (op_pid HV2.out) rfl ?_)
         | (go_at_call 13; refine (ruse_some y2 _ rs s i y tk us HJ2.out.rl (by have := HLEN.out.1; omega) HOF.out HUB.out).mono ?_; rintro e y3 ⟨mv', x9, rfl, r1, r2, r3, r4⟩; have HE9 := Lib.hid r1; have HR1 := Lib.hid r2; have HR3 := Lib.hid r3; have HX3 := Lib.hid r4; clear r1 r2 r3 r4)
         | ((with_reducible show OpW 10); refine wpList_alloc _ rfl 45 rfl tokZ tokZero ?_; intro y4 a1 a2 a3; have HT4 := Lib.hid a1; have HA4 := Lib.hid a2; have HX4 := Lib.hid (below_thenB HX3.out HX3.out.size a2); clear a1 a2 a3)
         | ((with_reducible show OpN); refine wpList_storev _ rfl 45 (.tmp 10) (.tmp 89) rfl 4 (by kernel_rfl) y3.heap.size 0 _ tokZ (tokC s i y) rfl rfl HT4.out rfl (tokC_one _ _ _) (by decide) ?_; intro y5 a1 a2 a3; have HT5 : Hid (BL y5 y3.heap.size 45 (tokC s i y)) := Lib.hid a1; have HA5 : Hid (Below y3.heap.size y3 y5) := Lib.hid (low_own HA4.out a2 (fun i hi e => by omega)); have HX5 : Hid (Below y2.heap.size y2 y5) := Lib.hid (below_thenB HX3.out HX3.out.size HA5.out); have HV5 := Lib.hid (HV2.out.kept HX5.out); clear a1 a2 a3)
         | ((with_reducible show OpW 94); refine wpList_loadv _ rfl 39 (.tmp 93) rfl 2 (by kernel_rfl) wx.heap.size 2 [.string (strB s), .int .i64 i] rfl (op_pid HV5.out) rfl ?_)
         | (go_at_call 14; refine (puse_some y5 gp gm L j s i y tk us tv uv (HJ2.out.pg.kept HX5.out) HJ.out HUB.out).mono ?_; rintro e y6 ⟨rfl, x8, r1, r2, r3, r4⟩; have HE8 := Lib.hid r1; have HP6 := Lib.hid r2; have HK6 := Lib.hid r3; have HO6 := Lib.hid r4; have HT6 := Lib.hid (HT5.out.kp r3 (fun hb => by have := HPL.out _ hb; have := HX2.out.size; have := HX3.out.size; omega)); have HV6 := Lib.hid (HV5.out.kp r3 (fun hb => by have := HPL.out _ hb; omega)); clear r1 r2 r3 r4)
         | ((with_reducible show OpW 12); refine wpList_alloc _ rfl 45 rfl tokZ tokZero ?_; intro y7 a1 a2 a3; have HW7 := Lib.hid a1; have HX7 := Lib.hid a2; have HT7 := Lib.hid (HT6.out.kept a2); clear a1 a2 a3)
         | ((with_reducible show OpN); refine wpList_storev _ rfl 45 (.tmp 12) (.tmp 96) rfl 4 (by kernel_rfl) y6.heap.size 0 _ tokZ (tokC s i y) rfl rfl HW7.out rfl (tokC_one _ _ _) (by decide) ?_; intro y8 a1 a2 a3; have HW8 : Hid (BL y8 y6.heap.size 45 (tokC s i y)) := Lib.hid a1; have HX8 : Hid (Below y6.heap.size y6 y8) := Lib.hid (low_own HX7.out a2 (fun i hi e => by omega)); have HT8 := Lib.hid (HT7.out.kp a2 (fun e => by have := HT6.out.lt; omega)); clear a1 a2 a3)
         | ((with_reducible show OpW 98); refine wpList_loadv _ rfl 45 (.tmp 12) rfl 4 (by kernel_rfl) y6.heap.size 0 [.string (strB s), .int .i64 i, .string (strB y.1), .string (strB y.2)] rfl (BL.all HW8.out) rfl ?_)
         | ((with_reducible show OpW 99); refine wpList_loadv _ rfl 45 (.tmp 10) rfl 4 (by kernel_rfl) y3.heap.size 0 [.string (strB s), .int .i64 i, .string (strB y.1), .string (strB y.2)] rfl (BL.all HT8.out) rfl ?_))
        go_meet
        have hr5 : RLp y5 mv' (putL rs x9) := HR1.out.kept HA5.out
        have hjj := HJ2.out.used HOF.out HJ.out HE9.out HE8.out hr5 HR3.out HX5.out HP6.out HK6.out HO6.out
        exact ⟨gp, gm, _, _, rfl, Lib.hid (hjj.kept HX8.out), Lib.hid (HV6.out.kept HX8.out)⟩
      ·
       have f2 : (kd == 2) = false := by simpa using k2
       by_cases k3 : kd = 3
       ·
        subst k3
        clear k1 k2 f1 f2
        go_wp2_with (first
         | ((with_reducible show OpW 111); refine wpList_loadv _ rfl 39 (.tmp 110) rfl 2 (by kernel_rfl) wx.heap.size 2 [.string (strB s), .int .i64 i] rfl (op_pid HV2.out) rfl ?_)
         | (go_at_call 15; refine (pdrop_pg y2 gp gm L s i HJ2.out.pg HSI.out.1 HSI.out.2).mono ?_; rintro e y3 ⟨rfl, r1, r2⟩; have HP3 := Lib.hid r1; have HK3 := Lib.hid r2; have HV3 := Lib.hid (HV2.out.kp r2 (fun e => by have := HPL.out gm (.inr (.inl rfl)); omega)); clear r1 r2)
         | ((with_reducible show OpW 115); refine wpList_loadv _ rfl 39 (.tmp 114) rfl 2 (by kernel_rfl) wx.heap.size 2 [.string (strB s), .int .i64 i] rfl (op_pid HV3.out) rfl ?_)
         | ((with_reducible show OpW 116); refine wpList_build _ rfl 54 _ rfl #[(0, .agg #[.string (strB s), .int .i64 i])] (by rw [List.map_toArray]; rfl) (.agg [.string (strB s), .int .i64 i, nilV, nilV].toArray) (by exact bldEn _ _ _) ?_)
         | (go_at_call 16; refine (rput_any y3 _ rs ⟨⟨s, i, [], []⟩, nilV, nilV⟩ (HJ2.out.rl2 (HK3.out.mono (fun b _ e => .inr (.inl e)))) ⟨RW.nil _ _ _, RW.nil _ _ _, Nat.zero_le _, Nat.zero_le _⟩ (by have := HLEN.out.1; omega)).mono ?_; rintro e y4 ⟨mv', rfl, r1, r2, r3⟩; have HR1 := Lib.hid r1; have HR2 := Lib.hid r2; have HX4 := Lib.hid r3; clear r1 r2 r3))
        go_meet
        exact ⟨gp, gm, _, _, rfl, Lib.hid (HJ2.out.drop HP3.out HK3.out rfl HR1.out HR2.out HX4.out), Lib.hid (HV3.out.kept HX4.out)⟩
       ·
        have f3 : (kd == 3) = false := by simpa using k3
        by_cases k4 : kd = 4
        ·
         subst k4
         clear k1 k2 k3 f1 f2 f3
         have HDA := Lib.hid (dec_again HJ2.out.iv)
         go_wp2_with (first
          | (go_at_call 8; refine (pencode_any y2 gp gm L HJ2.out.pg HJ2.out.good (by have := HLEN.out.2; omega) HJ2.out.encs).mono ?_; rintro e y3 ⟨A3, n3, c3, LS, rfl, r1, r2, r3, r4⟩; rw [HJ2.out.sorted r1 r2] at r3; have HB3 := Lib.hid r3; have HX3 := Lib.hid r4; clear r1 r2 r3 r4)
          | (go_at_call 6; refine (decode_any y3 A3 n3 c3 _ HB3.out).mono ?_; rintro e y4 ⟨p, rfl, r1, r2⟩; rw [if_pos HDA.out.2] at r1; rw [HDA.out.2]; obtain ⟨gp4, gm4, L4, rfl, r3, r4, r5⟩ := r1; have HP4 := Lib.hid r3; have HL4 := Lib.hid (r4.trans HDA.out.1); have HO4 := Lib.hid r5; have HX4 := Lib.hid r2; clear r2 r3 r4 r5))
         go_meet
         exact ⟨gp4, gm4, L4, rs, rfl, Lib.hid (HJ2.out.dec HX3.out HP4.out HO4.out HX4.out HL4.out), Lib.hid ((HV2.out.kept HX3.out).kept HX4.out)⟩
        ·
         have f4 : (kd == 4) = false := by simpa using k4
         clear k1 k2 k3 k4
         go_wp2_with fail
         have HLI : Hid (∀ w', Below y2.heap.size y2 w' → w'.cell? ⟨wx.heap.size, 4, none⟩ = some (.int .i64 lim) ∧ Below y2.heap.size y2 w') := Lib.hid (fun w' hb => ⟨BL.get (l := opC ⟨kd, xs, s, i, lim⟩ A1 m c1) (HV2.out.kept hb) (j := 4) rfl, hb⟩)
         refine Text.wp_region_text (fun w' => w'.cell? ⟨wx.heap.size, 4, none⟩ = some (.int .i64 lim) ∧ Below y2.heap.size y2 w') [(0, 4), (1, 4), (4, 4), (5, 4), (2, 0), (6, 0), (3, 2), (7, 2), (8, 4), (9, 4)] (by kernel_rfl) (by kernel_rfl) (fun _ _ _ _ _ h => h) (HLI.out _ (Below.refl _ _).drew) ?_
         iterate 4 (refine Text.purek rfl rfl (fun K hK => ⟨_, fun w' => by go_simp <;> rfl, ?_⟩); go_simp; refine hK _ ?_; clear hK K)
         iterate 2 (refine Text.heldk rfl rfl (fun K hK => ⟨_, fun w' hw' => by go_simp <;> rfl, ?_⟩); go_simp; refine hK _ ?_; clear hK K)
         refine Text.eff rfl rfl (fun K hK => ?_)
         go_simp
         refine (plow_pg y2.drew gp gm L lim HJ2.out.pg.drew (by have := HLEN.out.2; omega)).mono ?_
         rintro e y3 ⟨va, LS, rfl, r1, r2, r3, r4⟩
         rw [HJ2.out.sorted r1 r2] at r3
         obtain ⟨q, hq⟩ : ∃ q, q = (lowE (rs.map (·.e)) lim).length := ⟨_, rfl⟩
         have HQ := Lib.hid hq
         rw [← hq] at r3
         obtain ⟨A3, c3, e3, _⟩ := r3.form
         subst e3
         have HA3 := Lib.hid r3
         have HX3 : Hid (Below y2.heap.size y2 y3) := Lib.hid (below_thenB (Below.refl _ _).drew (Nat.le_refl _) r4)
         refine hK _ _ (HLI.out _ HX3.out) ?_
         clear hK K r1 r2 r3 r4 hq
         refine Text.eff rfl rfl (fun K hK => ?_)
         go_simp
         refine (rlow_any y3 _ rs lim (HJ2.out.kept HX3.out).rl (by have := HLEN.out.1; omega)).mono ?_
         rintro e y4 ⟨vb, rfl, r1, r2⟩
         rw [← HQ.out] at r1
         obtain ⟨A4, c4, e4, _⟩ := r1.form
         subst e4
         have HA4 := Lib.hid r1
         have HA34 := Lib.hid (HA3.out.kept r2)
         have HX4 : Hid (Below y2.heap.size y2 y4) := Lib.hid (below_thenB HX3.out HX3.out.size r2)
         refine hK _ _ (HLI.out _ HX4.out) ?_
         clear hK K r1 r2
         iterate 2 (refine Text.purek rfl rfl (fun K hK => ⟨_, fun w' => by go_simp <;> rfl, ?_⟩); go_simp; refine hK _ ?_; clear hK K)
         refine Text.done ?_
         have ee : ((q : Int) != (q : Int)) = false := by simp
         go_wp2_with fail
         have HQB : Hid ((q : Int) ≤ 4096) := Lib.hid (by
          have h1 := HJ2.out.iv.len
          have h2 := HQ.out
          unfold lowE at h2
          rw [List.length_map] at h2
          have h3 := List.length_filter_le (fun e : En => decide ((e.tk.length : Int) < lim)) (rs.map (·.e))
          omega)
         go_loopw [52] (fun iv wr => ∃ j : Nat, j ≤ q ∧ iv = .int .i64 (j : Int) ∧ Hid (Below y4.heap.size y4 wr)) (fun iv _ => q - (intOf iv).toNat)
         case atStart => exact ⟨0, by omega, rfl, Lib.hid (Below.refl _ _)⟩
         case round =>
          obtain ⟨j, hj, rfl, hb5⟩ := hrel
          obtain ⟨wj, hwj⟩ : ∃ x, x = wr := ⟨_, rfl⟩
          rw [← hwj] at hb5 ⊢
          clear hwj
          have hqb := HQB.out
          by_cases hlj : j < q
          ·
           obtain ⟨g3, o3, c3', e3, _, hat3⟩ := HA34.out.at_ (by omega)
           cases e3
           obtain ⟨g4, o4, c4', e4, _, hat4⟩ := HA4.out.at_ (by omega)
           cases e4
           have hjl : j < (lowE (rs.map (·.e)) lim).length := by rw [← HQ.out]; exact hlj
           have h3 := At.elem (f := pidC) pidC_len hat3 hjl
           have h4 := At.elem (f := pidC) pidC_len hat4 hjl
           obtain ⟨p, hp⟩ : ∃ p, p = (lowE (rs.map (·.e)) lim)[j] := ⟨_, rfl⟩
           rw [← hp] at h3 h4
           obtain ⟨ps, pi⟩ := p
           have H3 : Hid (At wj g3 (o3 + j * 2) [.string (strB ps), .int .i64 pi]) := Lib.hid (h3.kept hb5.out)
           have H4 : Hid (At wj g4 (o4 + j * 2) [.string (strB ps), .int .i64 pi]) := Lib.hid (h4.kept hb5.out)
           clear h3 h4 hat3 hat4 hp hjl
           have er : ∀ w, (Op.equalIn 10000 39 (.agg #[.string (strB ps), .int .i64 pi]) (.agg #[.string (strB ps), .int .i64 pi])).run Tryz.prog w = .ok true w := fun w => by
            have h9 := eqIn_pid (ps, pi) (ps, pi) w
            rw [decide_eq_true rfl] at h9
            exact h9
           go_wp2_with fail
           refine Text.wp_region_text (fun w' => Below wj.heap.size wj w') [(0, 4), (1, 4), (2, 4), (4, 4), (5, 4), (6, 4), (3, 0), (7, 0), (8, 4)] (by kernel_rfl) (by kernel_rfl) (fun _ _ _ _ _ h => h) ((Below.refl _ _).drew) ?_
           iterate 6 (refine Text.purek rfl rfl (fun K hK => ⟨_, fun w' => by go_simp <;> rfl, ?_⟩); go_simp; refine hK _ ?_; clear hK K)
           refine Text.heldk rfl rfl (fun K hK => ?_)
           refine ⟨_, fun w' hw' => exec_loadv 39 (.tmp 57) rfl 2 (by kernel_rfl) g3 (o3 + j * 2) [.string (strB ps), .int .i64 pi] (by go_simp) (H3.out.kept hw') rfl, ?_⟩
           go_simp
           refine hK _ ?_
           clear hK K
           refine Text.heldk rfl rfl (fun K hK => ?_)
           refine ⟨_, fun w' hw' => exec_loadv 39 (.tmp 61) rfl 2 (by kernel_rfl) g4 (o4 + j * 2) [.string (strB ps), .int .i64 pi] (by go_simp) (H4.out.kept hw') rfl, ?_⟩
           go_simp
           refine hK _ ?_
           clear hK K
           (refine Text.purek rfl rfl (fun K hK => ⟨_, fun w' => by go_simp <;> rfl, ?_⟩); go_simp; refine hK _ ?_; clear hK K)
           refine Text.done ?_
           go_wp2_with fail
           go_roundw
           case rel => exact ⟨j + 1, by omega, by go_num, Lib.hid hb5.out.drew⟩
           case measure => simp [intOf]; omega
          ·
           obtain rfl : j = q := by omega
           go_wp2_with fail
           go_meet
           exact ⟨gp, gm, L, rs, rfl, Lib.hid (HJ2.out.kept (below_thenB HX4.out HX4.out.size hb5.out)), Lib.hid (HV2.out.kept (below_thenB HX4.out HX4.out.size hb5.out))⟩
    case rest =>
     obtain ⟨gp', gm', L', rs', rfl, hj9, hv9⟩ := hcut
     obtain ⟨wz, hwz⟩ : ∃ x, x = wc := ⟨_, rfl⟩
     rw [← hwz] at hj9 hv9 ⊢
     clear hwz hlj HJ2 HPL HFR HLEN HAT HV2
     obtain ⟨Ar, cr, er, _⟩ := hj9.out.rl.row.form
     subst er
     have HJZ := hj9
     have HLEN := Lib.hid HJZ.out.len
     obtain ⟨N, hN⟩ : ∃ N, N = (ofE (rs'.map (·.e)) (s, i)).tk.length := ⟨_, rfl⟩
     have HN := Lib.hid hN
     have HNL9 : Hid ((ofE (L'.map (·.e)) (s, i)).tk.length = N) := Lib.hid (by rw [hN, HJZ.out.of])
     have ee : ((N : Int) != (N : Int)) = false := by simp
     clear hN
     obtain ⟨rs, hrs⟩ : ∃ x, x = rs' := ⟨_, rfl⟩
     subst hrs
     go_upto_region 36 with fail
     go_cut [152] (fun v9 wq => v9 = .bool false ∧ Hid (LJ w wq gp' gm' L' (.slice Ar rs.length cr) rs))
     case first =>
      refine TextL.wp_region_bt (fun w' => Below wz.heap.size wz w') (.still 0 4 (.still 1 4 (.still 2 0 (.still 4 4 (.still 5 4 (.still 6 0 (.eff 3 (.eff 7 (.still 8 4 (.still 9 4 (.still 10 4 (.still 11 4 (.still 12 4 (.still 15 4 (.eff 13 (.br 14 (.eff 16 (.eff 17 (.still 18 4 (.still 19 4 .leaf)))) 16 (.br 14 (.eff 17 (.still 18 4 (.still 19 4 .leaf))) 17 (.eff 14 (.still 18 4 (.still 19 4 .leaf)))))))))))))))))))) (by kernel_rfl) (by kernel_rfl) (fun _ _ _ _ _ h => h) ((Below.refl _ _).drew) ?_
      iterate 2 (refine TextL.bpurek rfl rfl (fun K hK => ⟨_, fun w' => by go_simp <;> rfl, ?_⟩); go_simp; refine hK _ ?_; clear hK K)
      refine TextL.bheldk rfl rfl (fun K hK => ?_)
      refine ⟨_, fun w' hw' => exec_loadv 39 (.tmp 134) rfl 2 (by kernel_rfl) wx.heap.size 2 [.string (strB s), .int .i64 i] rfl (op_pid (hv9.out.kept hw')) rfl, ?_⟩
      go_simp
      refine hK _ ?_
      clear hK K
      iterate 2 (refine TextL.bpurek rfl rfl (fun K hK => ⟨_, fun w' => by go_simp <;> rfl, ?_⟩); go_simp; refine hK _ ?_; clear hK K)
      refine TextL.bheldk rfl rfl (fun K hK => ?_)
      refine ⟨_, fun w' hw' => exec_loadv 39 (.tmp 138) rfl 2 (by kernel_rfl) wx.heap.size 2 [.string (strB s), .int .i64 i] rfl (op_pid (hv9.out.kept hw')) rfl, ?_⟩
      go_simp
      refine hK _ ?_
      clear hK K
      refine TextL.beff rfl rfl (fun K hK => ?_)
      go_simp
      refine (pleft_pg wz.drew gp' gm' L' s i HJZ.out.pg.drew HSI.out.1 HSI.out.2).mono ?_
      rintro e z3 ⟨rfl, b1⟩
      rw [HNL9.out]
      have HZ3 : Hid (Below wz.heap.size wz z3) := Lib.hid (below_thenB (Below.refl _ _).drew (Nat.le_refl _) b1)
      refine hK _ _ HZ3.out ?_
      clear hK K b1
      refine TextL.beff rfl rfl (fun K hK => ?_)
      go_simp
      refine (rof_any z3 _ rs s i (HJZ.out.kept HZ3.out).rl (by have := HLEN.out.1; omega)).mono ?_
      rintro e z4 ⟨⟨⟨es, ei, etk, eus⟩, etv, euv⟩, r1, rfl, r2, _, r4⟩
      obtain ⟨At4, ct4, et4, _⟩ := r2.t.form
      replace et4 : etv = .slice At4 etk.length ct4 := et4
      have etn : etk.length = N := by rw [HN.out, ← show (⟨es, ei, etk, eus⟩ : En) = ofE (rs.map (·.e)) (s, i) from r1]
      rw [etn] at et4
      subst et4
      have HZ4 : Hid (Below wz.heap.size wz z4) := Lib.hid (below_thenB HZ3.out HZ3.out.size r4)
      refine hK _ _ HZ4.out ?_
      clear hK K r1 r2 r4 etn
      have hfl := fldEn es ei (.slice At4 N ct4) euv
      go_simp
      iterate 1 (refine TextL.bpurek rfl rfl (fun K hK => ⟨_, fun w' => by go_simp <;> rfl, ?_⟩); go_simp; refine hK _ ?_; clear hK K)
      iterate 1 (refine TextL.bpurek rfl rfl (fun K hK => ⟨_, fun w' => by go_simp <;> rfl, ?_⟩); go_simp; refine hK _ ?_; clear hK K)
      iterate 1 (refine TextL.bpurek rfl rfl (fun K hK => ⟨_, fun w' => by go_simp <;> rfl, ?_⟩); go_simp; refine hK _ ?_; clear hK K)
      iterate 1 (refine TextL.bpurek rfl rfl (fun K hK => ⟨_, fun w' => by go_simp <;> rfl, ?_⟩); go_simp; refine hK _ ?_; clear hK K)
      iterate 1 (refine TextL.bpurek rfl rfl (fun K hK => ⟨_, fun w' => by go_simp <;> rfl, ?_⟩); go_simp; refine hK _ ?_; clear hK K)
      iterate 1 (refine TextL.bpurek rfl rfl (fun K hK => ⟨_, fun w' => by go_simp <;> rfl, ?_⟩); go_simp; refine hK _ ?_; clear hK K)
      have MARK := trivial
      refine TextL.beffw rfl rfl (fun K hK => ?_)
      go_simp
      refine (pencode_any z4 gp' gm' L' (HJZ.out.kept HZ4.out).pg HJZ.out.good (by have := HLEN.out.2; omega) HJZ.out.encs).mono ?_
      rintro e z5 ⟨A5, n5, c5, LS5, rfl, r1, r2, r3, r4⟩
      rw [HJZ.out.sorted r1 r2] at r3
      have HB14 := Lib.hid r3
      have HZ5 : Hid (Below wz.heap.size wz z5) := Lib.hid (below_thenB HZ4.out HZ4.out.size r4)
      refine hK _ _ HZ5.out ?_
      clear hK K r1 r2 r3 r4
      refine TextL.bfork ?_ ?_
      ·
       refine TextL.beffw rfl rfl (fun K hK => ?_)
       refine wp_execP (exec_convP rfl rfl HB14.out) ?_
       refine hK _ _ HZ5.out ?_
       clear hK K
       refine TextL.beffw rfl rfl (fun K hK => ?_)
       go_simp
       refine (rencode44_any z5 _ rs (HJZ.out.kept HZ5.out).rl HJZ.out.goodR HJZ.out.len.1 HJZ.out.iv.its HJZ.out.iv.enc).mono ?_
       rintro e z6 ⟨A6, n6, c6, rfl, r1, r2⟩
       have HB16 := Lib.hid r1
       have HX16 := Lib.hid r2
       have HZ6 : Hid (Below wz.heap.size wz z6) := Lib.hid (below_thenB HZ5.out HZ5.out.size r2)
       refine hK _ _ HZ6.out ?_
       clear hK K r1 r2
       refine TextL.beffw rfl rfl (fun K hK => ?_)
       refine wp_execP (exec_convP rfl rfl HB16.out) ?_
       refine hK _ _ HZ6.out ?_
       clear hK K
       iterate 2 (refine TextL.bpurek rfl rfl (fun K hK => ⟨_, fun w' => by go_simp <;> rfl, ?_⟩); go_simp; refine hK _ ?_; clear hK K)
       refine TextL.bdone ?_
       go_wp2_with fail
       go_meet
       exact ⟨rfl, Lib.hid (HJZ.out.kept HZ6.out)⟩
      ·
       refine TextL.beffw rfl rfl (fun K hK => ?_)
       go_simp
       refine (rencode44_any z5 _ rs (HJZ.out.kept HZ5.out).rl HJZ.out.goodR HJZ.out.len.1 HJZ.out.iv.its HJZ.out.iv.enc).mono ?_
       rintro e z6 ⟨A6, n6, c6, rfl, r1, r2⟩
       have HB16 := Lib.hid r1
       have HX16 := Lib.hid r2
       have HZ6 : Hid (Below wz.heap.size wz z6) := Lib.hid (below_thenB HZ5.out HZ5.out.size r2)
       refine hK _ _ HZ6.out ?_
       clear hK K r1 r2
       have HB146 := Lib.hid (HB14.out.kept HX16.out)
       refine TextL.bfork ?_ ?_
       ·
        refine TextL.beffw rfl rfl (fun K hK => ?_)
        refine wp_execP (exec_convP rfl rfl HB146.out) ?_
        refine hK _ _ HZ6.out ?_
        clear hK K
        refine TextL.beffw rfl rfl (fun K hK => ?_)
        refine wp_execP (exec_convP rfl rfl HB16.out) ?_
        refine hK _ _ HZ6.out ?_
        clear hK K
        iterate 2 (refine TextL.bpurek rfl rfl (fun K hK => ⟨_, fun w' => by go_simp <;> rfl, ?_⟩); go_simp; refine hK _ ?_; clear hK K)
        refine TextL.bdone ?_
        go_wp2_with fail
        go_meet
        exact ⟨rfl, Lib.hid (HJZ.out.kept HZ6.out)⟩
       ·
        refine TextL.beffw rfl rfl (fun K hK => ?_)
        refine wp_execP (exec_convP rfl rfl HB16.out) ?_
        refine hK _ _ HZ6.out ?_
        clear hK K
        refine TextL.beffw rfl rfl (fun K hK => ?_)
        refine wp_execP (exec_convP rfl rfl HB146.out) ?_
        refine hK _ _ HZ6.out ?_
        clear hK K
        iterate 2 (refine TextL.bpurek rfl rfl (fun K hK => ⟨_, fun w' => by go_simp <;> rfl, ?_⟩); go_simp; refine hK _ ?_; clear hK K)
        refine TextL.bdone ?_
        go_wp2_with fail
        go_meet
        exact ⟨rfl, Lib.hid (HJZ.out.kept HZ6.out)⟩
     case rest =>
      obtain ⟨rfl, hjq⟩ := hcut
      obtain ⟨wq, hwq⟩ : ∃ x, x = wc := ⟨_, rfl⟩
      rw [← hwq] at hjq ⊢
      clear hwq
      go_wp2_with fail
      go_roundw
      case rel => exact ⟨k + 1, gp', gm', L', rs, by omega, by go_num, rfl, hjq⟩
      case measure => simp [intOf]; omega
   ·
    obtain rfl : k = n := by omega
    go_wp2_with fail
    go_ret
    exact ⟨rfl, hlj.out.be⟩
end Go.Proofs.YtheijpjfpaghfaaGreatDoor
