/- kinkeeplaw10.awake returns true. -/
import Derived.Test.YtakedococfklgaaAw1m
import Derived.Test.YtakedococfklgaaFi1m
namespace Go.Proofs.Ytakedococfklgaa
open Go.RowKit Gf

set_option maxRecDepth 100000 in
set_option maxHeartbeats 8000000 in
theorem awake_any (w : World) : Calls Try.prog 12 #[] w fun e w' => e = .returned (.bool true) ∧ Below w.heap.size w w' := by
  go_enter Try.func12, Try.ntmps12
  go_wp2_with fail
  have HB : Hid (Below w.heap.size w w) := Lib.hid (Below.refl _ _)
  obtain ⟨W1, hW1⟩ : ∃ W, W = (((w.alloc (.cells #[.int .u8 7] 5)).alloc (.cells #[.int .u8 2] 5)).alloc (.cells #[.slice (some ⟨w.heap.size + 1, 0, none⟩) 1 1] 22)).alloc (.cells #[.int .i64 1, .int .i64 2, .int .i64 3] 3) := ⟨_, rfl⟩
  have hb1 : Below w.heap.size w W1 := by rw [hW1]; exact below_then (below_then (below_then (kb1 w _) (kb1 _ _)) (kb1 _ _)) (kb1 _ _)
  have k1 : Blk W1 w.heap.size 5 (row [7]) := by rw [hW1]; exact (((blk_at rfl _ _).alloc _).alloc _).alloc _
  have k2 : Blk W1 (w.heap.size + 1) 5 (row [2]) := by rw [hW1]; exact ((blk_at (by simp) _ _).alloc _).alloc _
  have k3 : Blk W1 (w.heap.size + 1 + 1) 22 #[.slice (some ⟨w.heap.size + 1, 0, none⟩) 1 1] := by rw [hW1]; exact (blk_at (by simp) _ _).alloc _
  have k4 : Blk W1 (w.heap.size + 1 + 1 + 1) 3 (([1, 2, 3] : List Int).map (Value.int .i64)).toArray := by rw [hW1]; exact blk_at (by simp) _ _
  rw [← hW1]
  refine (split_any _ _ _ 1 1 1 1 3 3 [7] [[2]] [1, 2, 3] W1 (bs1 k1) (ms1 k3 k2) (is_lit k4 rfl (by omega))).mono ?_
  rintro e w1 ⟨v1, rfl, ho1, hx1⟩
  rw [ex_splE]
  rw [ex_splL] at ho1
  obtain ⟨A1, c1, rfl, hs1⟩ := ho1.ss (by decide)
  have hs1' : SS w1 A1 3 c1 [(1, [5]), (2, [3]), (3, [1])] := hs1
  have FL := Lib.hid hs1'
  have HB := Lib.hid (below_then HB.out (below_then hb1 hx1))
  rw [show ([(1, [5]), (2, [3]), (3, [1])] : List (Int × List UInt8)).length = 3 from rfl]
  clear hb1 k1 k2 k3 k4 hW1 ho1 hx1 hs1 hs1'
  go_wp2_with fail
  refine (share_any 1 5 w1).mono ?_
  rintro e p0 ⟨gp0, rfl, hg, hk, hx⟩
  have FL := Lib.hid (FL.out.kept hx)
  have HB := Lib.hid (below_then HB.out hx)
  have Kp0 := Lib.hid hk
  clear hg hk hx
  go_wp2_with fail
  refine (share_any 2 3 p0).mono ?_
  rintro e p1 ⟨gp1, rfl, hg, hk, hx⟩
  have FL := Lib.hid (FL.out.kept hx)
  have HB := Lib.hid (below_then HB.out hx)
  have Kp0 := Lib.hid (Kp0.out.kept hx)
  have Kp1 := Lib.hid hk
  clear hg hk hx
  go_wp2_with fail
  obtain ⟨W2, hW2⟩ : ∃ W, W = p1.alloc (.cells #[.int .i64 1, .slice (some ⟨gp0, 0, none⟩) 1 1, .int .i64 2, .slice (some ⟨gp1, 0, none⟩) 1 1] 33) := ⟨_, rfl⟩
  have hx : Below p1.heap.size p1 W2 := by rw [hW2]; exact kb1 _ _
  have kb : Blk W2 p1.heap.size 33 #[.int .i64 1, .slice (some ⟨gp0, 0, none⟩) 1 1, .int .i64 2, .slice (some ⟨gp1, 0, none⟩) 1 1] := by rw [hW2]; exact Blk.new _ _ _
  have FL := Lib.hid (FL.out.kept hx)
  have HB := Lib.hid (below_then HB.out hx)
  have Kp0 := Lib.hid (Kp0.out.kept hx)
  have Kp1 := Lib.hid (Kp1.out.kept hx)
  have KB := Lib.hid kb
  rw [← hW2]
  clear hx kb hW2
  refine (combine_any _ 2 2 2 [(1, [5]), (2, [3])] W2 (ss2 KB.out Kp0.out Kp1.out)).mono ?_
  rintro e w2 ⟨v2, rfl, A2, n2, c2, rfl, h21, h22, h23⟩
  rw [ex_ck]
  rw [ex_cb] at h21
  have FL := Lib.hid (FL.out.kept h23)
  have HB := Lib.hid (below_then HB.out h23)
  have FS := Lib.hid h21
  clear h21 h22 h23 KB Kp0 Kp1
  go_wp2_with fail
  refine (share_any 1 5 w2).mono ?_
  rintro e q0 ⟨gq0, rfl, hg, hk, hx⟩
  have FL := Lib.hid (FL.out.kept hx)
  have FS := Lib.hid (FS.out.kept hx)
  have HB := Lib.hid (below_then HB.out hx)
  have Kq0 := Lib.hid hk
  clear hg hk hx
  go_wp2_with fail
  refine (share_any 2 3 q0).mono ?_
  rintro e q1 ⟨gq1, rfl, hg, hk, hx⟩
  have FL := Lib.hid (FL.out.kept hx)
  have FS := Lib.hid (FS.out.kept hx)
  have HB := Lib.hid (below_then HB.out hx)
  have Kq0 := Lib.hid (Kq0.out.kept hx)
  have Kq1 := Lib.hid hk
  clear hg hk hx
  go_wp2_with fail
  obtain ⟨W3, hW3⟩ : ∃ W, W = q1.alloc (.cells #[.int .i64 1, .slice (some ⟨gq0, 0, none⟩) 1 1, .int .i64 2, .slice (some ⟨gq1, 0, none⟩) 1 1] 33) := ⟨_, rfl⟩
  have hx : Below q1.heap.size q1 W3 := by rw [hW3]; exact kb1 _ _
  have kb : Blk W3 q1.heap.size 33 #[.int .i64 1, .slice (some ⟨gq0, 0, none⟩) 1 1, .int .i64 2, .slice (some ⟨gq1, 0, none⟩) 1 1] := by rw [hW3]; exact Blk.new _ _ _
  have FL := Lib.hid (FL.out.kept hx)
  have FS := Lib.hid (FS.out.kept hx)
  have HB := Lib.hid (below_then HB.out hx)
  have Kq0 := Lib.hid (Kq0.out.kept hx)
  have Kq1 := Lib.hid (Kq1.out.kept hx)
  have KB := Lib.hid kb
  rw [← hW3]
  clear hx kb hW3
  refine (extend_any _ 2 2 2 3 [(1, [5]), (2, [3])] W3 (ss2 KB.out Kq0.out Kq1.out)).mono ?_
  rintro e w3 ⟨A3, n3, c3, rfl, h31, h32, h33⟩
  rw [ex_exE, ex_exX]
  rw [ex_exL] at h31
  have FL := Lib.hid (FL.out.kept h33)
  have FS := Lib.hid (FS.out.kept h33)
  have HB := Lib.hid (below_then HB.out h33)
  have FX := Lib.hid h31
  clear h31 h32 h33 KB Kq0 Kq1
  go_wp2_with fail
  obtain ⟨W4, hW4⟩ : ∃ W, W = w3.alloc (.cells #[.int .i64 3, .slice A3 n3 c3] 33) := ⟨_, rfl⟩
  have hx : Below w3.heap.size w3 W4 := by rw [hW4]; exact kb1 _ _
  have FB : Hid (Blk W4 w3.heap.size 33 #[.int .i64 3, .slice A3 n3 c3]) := Lib.hid (by rw [hW4]; exact Blk.new _ _ _)
  have FL := Lib.hid (FL.out.kept hx)
  have FS := Lib.hid (FS.out.kept hx)
  have FX := Lib.hid (FX.out.kept hx)
  have HB := Lib.hid (below_then HB.out hx)
  rw [← hW4]
  clear hx hW4
  refine (share_any 1 1 W4).mono ?_
  rintro e r0 ⟨gr0, rfl, hg, hk, hx⟩
  have FL := Lib.hid (FL.out.kept hx)
  have FS := Lib.hid (FS.out.kept hx)
  have FX := Lib.hid (FX.out.kept hx)
  have FB := Lib.hid (FB.out.kept hx)
  have HB := Lib.hid (below_then HB.out hx)
  have Kr0 := Lib.hid hk
  clear hg hk hx
  go_wp2_with fail
  refine (share_any 2 3 r0).mono ?_
  rintro e r1 ⟨gr1, rfl, hg, hk, hx⟩
  have FL := Lib.hid (FL.out.kept hx)
  have FS := Lib.hid (FS.out.kept hx)
  have FX := Lib.hid (FX.out.kept hx)
  have FB := Lib.hid (FB.out.kept hx)
  have HB := Lib.hid (below_then HB.out hx)
  have Kr0 := Lib.hid (Kr0.out.kept hx)
  have Kr1 := Lib.hid hk
  clear hg hk hx
  go_wp2_with fail
  refine (share_any 3 1 r1).mono ?_
  rintro e r2 ⟨gr2, rfl, hg, hk, hx⟩
  have FL := Lib.hid (FL.out.kept hx)
  have FS := Lib.hid (FS.out.kept hx)
  have FX := Lib.hid (FX.out.kept hx)
  have FB := Lib.hid (FB.out.kept hx)
  have HB := Lib.hid (below_then HB.out hx)
  have Kr0 := Lib.hid (Kr0.out.kept hx)
  have Kr1 := Lib.hid (Kr1.out.kept hx)
  have Kr2 := Lib.hid hk
  clear hg hk hx
  go_wp2_with fail
  refine (share_any 4 15 r2).mono ?_
  rintro e r3 ⟨gr3, rfl, hg, hk, hx⟩
  have FL := Lib.hid (FL.out.kept hx)
  have FS := Lib.hid (FS.out.kept hx)
  have FX := Lib.hid (FX.out.kept hx)
  have FB := Lib.hid (FB.out.kept hx)
  have HB := Lib.hid (below_then HB.out hx)
  have Kr0 := Lib.hid (Kr0.out.kept hx)
  have Kr1 := Lib.hid (Kr1.out.kept hx)
  have Kr2 := Lib.hid (Kr2.out.kept hx)
  have Kr3 := Lib.hid hk
  clear hg hk hx
  go_wp2_with fail
  obtain ⟨W5, hW5⟩ : ∃ W, W = r3.alloc (.cells #[.int .i64 1, .slice (some ⟨gr0, 0, none⟩) 1 1, .int .i64 2, .slice (some ⟨gr1, 0, none⟩) 1 1, .int .i64 3, .slice (some ⟨gr2, 0, none⟩) 1 1, .int .i64 4, .slice (some ⟨gr3, 0, none⟩) 1 1] 33) := ⟨_, rfl⟩
  have hx : Below r3.heap.size r3 W5 := by rw [hW5]; exact kb1 _ _
  have kb : Blk W5 r3.heap.size 33 #[.int .i64 1, .slice (some ⟨gr0, 0, none⟩) 1 1, .int .i64 2, .slice (some ⟨gr1, 0, none⟩) 1 1, .int .i64 3, .slice (some ⟨gr2, 0, none⟩) 1 1, .int .i64 4, .slice (some ⟨gr3, 0, none⟩) 1 1] := by rw [hW5]; exact Blk.new _ _ _
  have FL := Lib.hid (FL.out.kept hx)
  have FS := Lib.hid (FS.out.kept hx)
  have FX := Lib.hid (FX.out.kept hx)
  have FB := Lib.hid (FB.out.kept hx)
  have HB := Lib.hid (below_then HB.out hx)
  have Kr0 := Lib.hid (Kr0.out.kept hx)
  have Kr1 := Lib.hid (Kr1.out.kept hx)
  have Kr2 := Lib.hid (Kr2.out.kept hx)
  have Kr3 := Lib.hid (Kr3.out.kept hx)
  have KB := Lib.hid kb
  rw [← hW5]
  clear hx kb hW5
  have hwr := wrong_ok _ 4 4 2 [(1, [1]), (2, [3]), (3, [1]), (4, [15])] W5 (ss4 KB.out Kr0.out Kr1.out Kr2.out Kr3.out) ex_shW (by omega) (by omega) (by omega)
  rw [ex_wr] at hwr
  refine hwr.mono ?_
  clear hwr
  rintro e w5 ⟨h51, v5, rfl, h52⟩
  obtain ⟨A5, c5, rfl, h53⟩ := IS.of_own h52 (by decide)
  have h53' : IS w5 A5 1 c5 [1] := h53
  rw [show ([1] : List Int).length = 1 from rfl]
  have FL := Lib.hid (FL.out.kept h51)
  have FS := Lib.hid (FS.out.kept h51)
  have FX := Lib.hid (FX.out.kept h51)
  have FB := Lib.hid (FB.out.kept h51)
  have HB := Lib.hid (below_then HB.out h51)
  have FI := Lib.hid h53'
  clear h51 h52 h53 h53' KB Kr0 Kr1 Kr2 Kr3
  go_wp2_with fail
  obtain ⟨W6, hW6⟩ : ∃ W, W = w5.alloc (.cells #[.int .u8 9] 5) := ⟨_, rfl⟩
  have hx : Below w5.heap.size w5 W6 := by rw [hW6]; exact kb1 _ _
  have KN : Hid (Blk W6 w5.heap.size 5 (row [9])) := Lib.hid (by rw [hW6]; exact Blk.new _ _ _)
  have FL := Lib.hid (FL.out.kept hx)
  have FS := Lib.hid (FS.out.kept hx)
  have FX := Lib.hid (FX.out.kept hx)
  have FB := Lib.hid (FB.out.kept hx)
  have FI := Lib.hid (FI.out.kept hx)
  have HB := Lib.hid (below_then HB.out hx)
  rw [← hW6]
  clear hx hW6
  refine (share_any 1 5 W6).mono ?_
  rintro e t0 ⟨gt0, rfl, hg, hk, hx⟩
  have FL := Lib.hid (FL.out.kept hx)
  have FS := Lib.hid (FS.out.kept hx)
  have FX := Lib.hid (FX.out.kept hx)
  have FB := Lib.hid (FB.out.kept hx)
  have FI := Lib.hid (FI.out.kept hx)
  have KN := Lib.hid (KN.out.kept hx)
  have HB := Lib.hid (below_then HB.out hx)
  have Kt0 := Lib.hid hk
  clear hg hk hx
  go_wp2_with fail
  obtain ⟨W7, hW7⟩ : ∃ W, W = t0.alloc (.cells #[.int .i64 1, .slice (some ⟨gt0, 0, none⟩) 1 1] 33) := ⟨_, rfl⟩
  have hx : Below t0.heap.size t0 W7 := by rw [hW7]; exact kb1 _ _
  have kb : Blk W7 t0.heap.size 33 #[.int .i64 1, .slice (some ⟨gt0, 0, none⟩) 1 1] := by rw [hW7]; exact Blk.new _ _ _
  have FL := Lib.hid (FL.out.kept hx)
  have FS := Lib.hid (FS.out.kept hx)
  have FX := Lib.hid (FX.out.kept hx)
  have FB := Lib.hid (FB.out.kept hx)
  have FI := Lib.hid (FI.out.kept hx)
  have KN := Lib.hid (KN.out.kept hx)
  have HB := Lib.hid (below_then HB.out hx)
  have Kt0 := Lib.hid (Kt0.out.kept hx)
  have KB := Lib.hid kb
  rw [← hW7]
  clear hx kb hW7
  have hft := fits_ok _ _ 1 1 1 1 2 [9] [(1, [5])] W7 (bs1 KN.out) (ss1 KB.out (bs1 Kt0.out)) ex_shF (by omega) (by omega) (by omega) (by omega) (fun k hk => match k, hk with | 0, _ => rfl)
  rw [ex_fi] at hft
  refine hft.mono ?_
  clear hft
  rintro e w7 ⟨gO, G, rfl, h71, h72⟩
  rw [show ([[12]] : List (List UInt8)).length = 1 from rfl]
  have h73 := h71.ms (by decide) (by decide)
  have h73' : MS w7 (some ⟨gO, 0, none⟩) 1 1 [[12]] := h73
  have FL := Lib.hid (FL.out.kept h72)
  have FS := Lib.hid (FS.out.kept h72)
  have FX := Lib.hid (FX.out.kept h72)
  have FB := Lib.hid (FB.out.kept h72)
  have FI := Lib.hid (FI.out.kept h72)
  have KN := Lib.hid (KN.out.kept h72)
  have HB := Lib.hid (below_then HB.out h72)
  have FC := Lib.hid h73'
  clear h71 h72 h73 h73' KB KN Kt0
  go_wp2_with fail
  refine (count_any 1 3 false w7).mono ?_
  rintro e w' ⟨rfl, rfl⟩
  rw [ex_ctE, ex_ctV]
  go_wp2_with fail
  refine (combine_any none 0 0 2 [] w7 SS.nil).mono ?_
  rintro e w8 ⟨v8, rfl, A8, n8, c8, rfl, h81, h82, h83⟩
  rw [ex_ck0]
  have FL := Lib.hid (FL.out.kept h83)
  have FS := Lib.hid (FS.out.kept h83)
  have FX := Lib.hid (FX.out.kept h83)
  have FB := Lib.hid (FB.out.kept h83)
  have FI := Lib.hid (FI.out.kept h83)
  have FC := Lib.hid (FC.out.kept h83)
  have HB := Lib.hid (below_then HB.out h83)
  clear h81 h82 h83
  go_wp2_with fail
  refine Text.wp_region_bt (fun w' => w'.cell? ⟨w3.heap.size, 0, none⟩ = some (.int .i64 3) ∧ w'.cell? ⟨w3.heap.size, 1, none⟩ = some (.slice A3 n3 c3)) (.still 0 4 (.eff 1 (.eff 2 (.eff 3 (.eff 4 (.eff 5 (.still 6 4 (.still 7 4 (.still 8 1 (.still 9 4 (.still 10 4 (.still 11 4 (.still 12 0 (.br 13 (.eff 14 (.eff 15 (.eff 16 (.still 17 4 (.still 18 4 (.still 19 4 (.still 20 4 (.still 21 1 (.still 22 4 (.still 23 4 (.still 24 4 (.still 25 4 (.still 26 4 (.still 27 1 (.still 28 1 (.still 29 4 (.still 30 4 (.still 31 4 (.still 32 4 (.still 33 4 (.still 34 4 (.still 35 4 (.leaf))))))))))))))))))))))) 14 (.br 13 (.eff 15 (.eff 16 (.still 17 4 (.still 18 4 (.still 19 4 (.still 20 4 (.still 21 1 (.still 22 4 (.still 23 4 (.still 24 4 (.still 25 4 (.still 26 4 (.still 27 1 (.still 28 1 (.still 29 4 (.still 30 4 (.still 31 4 (.still 32 4 (.still 33 4 (.still 34 4 (.still 35 4 (.leaf)))))))))))))))))))))) 15 (.eff 13 (.eff 16 (.still 17 4 (.still 18 4 (.still 19 4 (.still 20 4 (.still 21 1 (.still 22 4 (.still 23 4 (.still 24 4 (.still 25 4 (.still 26 4 (.still 27 1 (.still 28 1 (.still 29 4 (.still 30 4 (.still 31 4 (.still 32 4 (.still 33 4 (.still 34 4 (.still 35 4 (.leaf))))))))))))))))))))))))))))))))))))) (by kernel_rfl) (by kernel_rfl) (fun _ _ _ _ _ h => h) ((⟨by rw [FB.out.drew.cell]; rfl, by rw [FB.out.drew.cell]; rfl⟩)) ?_
  obtain ⟨wd, hwd⟩ : ∃ W, W = w8.drew := ⟨_, rfl⟩
  have hx : Below w8.heap.size w8 wd := by rw [hwd]; exact (Below.refl _ _).drew
  have FL := Lib.hid (FL.out.kept hx)
  have FS := Lib.hid (FS.out.kept hx)
  have FX := Lib.hid (FX.out.kept hx)
  have FB := Lib.hid (FB.out.kept hx)
  have FI := Lib.hid (FI.out.kept hx)
  have FC := Lib.hid (FC.out.kept hx)
  have HB := Lib.hid (below_then HB.out hx)
  rw [← hwd]
  clear hx hwd
  (refine Text.bpurek rfl rfl (fun K hK => ⟨_, fun w' => by go_simp <;> rfl, ?_⟩); go_simp; refine hK _ ?_; clear hK K)
  refine Text.beff rfl rfl (fun K hK => ?_)
  go_simp
  refine (share_any 1 5 wd).mono ?_
  rintro e d0 ⟨gd0, rfl, hg, hk, hx⟩
  have FL := Lib.hid (FL.out.kept hx)
  have FS := Lib.hid (FS.out.kept hx)
  have FX := Lib.hid (FX.out.kept hx)
  have FB := Lib.hid (FB.out.kept hx)
  have FI := Lib.hid (FI.out.kept hx)
  have FC := Lib.hid (FC.out.kept hx)
  have HB := Lib.hid (below_then HB.out hx)
  have Kd0 := Lib.hid hk
  refine hK _ _ ⟨by rw [FB.out.cell]; rfl, by rw [FB.out.cell]; rfl⟩ ?_
  clear hK K hg hk hx
  refine Text.beff rfl rfl (fun K hK => ?_)
  go_simp
  refine (share_any 2 3 d0).mono ?_
  rintro e d1 ⟨gd1, rfl, hg, hk, hx⟩
  have FL := Lib.hid (FL.out.kept hx)
  have FS := Lib.hid (FS.out.kept hx)
  have FX := Lib.hid (FX.out.kept hx)
  have FB := Lib.hid (FB.out.kept hx)
  have FI := Lib.hid (FI.out.kept hx)
  have FC := Lib.hid (FC.out.kept hx)
  have HB := Lib.hid (below_then HB.out hx)
  have Kd0 := Lib.hid (Kd0.out.kept hx)
  have Kd1 := Lib.hid hk
  refine hK _ _ ⟨by rw [FB.out.cell]; rfl, by rw [FB.out.cell]; rfl⟩ ?_
  clear hK K hg hk hx
  refine Text.beff rfl rfl (fun K hK => ?_)
  go_simp
  refine (share_any 3 1 d1).mono ?_
  rintro e d2 ⟨gd2, rfl, hg, hk, hx⟩
  have FL := Lib.hid (FL.out.kept hx)
  have FS := Lib.hid (FS.out.kept hx)
  have FX := Lib.hid (FX.out.kept hx)
  have FB := Lib.hid (FB.out.kept hx)
  have FI := Lib.hid (FI.out.kept hx)
  have FC := Lib.hid (FC.out.kept hx)
  have HB := Lib.hid (below_then HB.out hx)
  have Kd0 := Lib.hid (Kd0.out.kept hx)
  have Kd1 := Lib.hid (Kd1.out.kept hx)
  have Kd2 := Lib.hid hk
  refine hK _ _ ⟨by rw [FB.out.cell]; rfl, by rw [FB.out.cell]; rfl⟩ ?_
  clear hK K hg hk hx
  refine Text.beff rfl rfl (fun K hK => ?_)
  go_simp
  obtain ⟨d3, hd3⟩ : ∃ W, W = d2.alloc (.cells #[.int .i64 1, .slice (some ⟨gd0, 0, none⟩) 1 1, .int .i64 2, .slice (some ⟨gd1, 0, none⟩) 1 1, .int .i64 3, .slice (some ⟨gd2, 0, none⟩) 1 1] 33) := ⟨_, rfl⟩
  obtain ⟨gd3, hgd3⟩ : ∃ g, g = d2.heap.size := ⟨_, rfl⟩
  have hx : Below d2.heap.size d2 d3 := by rw [hd3]; exact kb1 _ _
  have hk : Blk d3 gd3 33 #[.int .i64 1, .slice (some ⟨gd0, 0, none⟩) 1 1, .int .i64 2, .slice (some ⟨gd1, 0, none⟩) 1 1, .int .i64 3, .slice (some ⟨gd2, 0, none⟩) 1 1] := by rw [hd3, hgd3]; exact Blk.new _ _ _
  have FL := Lib.hid (FL.out.kept hx)
  have FS := Lib.hid (FS.out.kept hx)
  have FX := Lib.hid (FX.out.kept hx)
  have FB := Lib.hid (FB.out.kept hx)
  have FI := Lib.hid (FI.out.kept hx)
  have FC := Lib.hid (FC.out.kept hx)
  have HB := Lib.hid (below_then HB.out hx)
  have Kd0 := Lib.hid (Kd0.out.kept hx)
  have Kd1 := Lib.hid (Kd1.out.kept hx)
  have Kd2 := Lib.hid (Kd2.out.kept hx)
  have Kd3 := Lib.hid hk
  rw [← hd3, ← hgd3]
  refine hK _ _ ⟨by rw [FB.out.cell]; rfl, by rw [FB.out.cell]; rfl⟩ ?_
  clear hK K hk hx hd3 hgd3
  refine Text.beff rfl rfl (fun K hK => ?_)
  go_simp
  refine (same_any _ _ 3 c1 3 3 [(1, [5]), (2, [3]), (3, [1])] [(1, [5]), (2, [3]), (3, [1])] d3 (FL.out) (ss3 Kd3.out Kd0.out Kd1.out Kd2.out)).mono ?_
  rintro e d4 ⟨rfl, hx⟩
  rw [show sameS [(1, [5]), (2, [3]), (3, [1])] [(1, [5]), (2, [3]), (3, [1])] = true from by decide +kernel]
  have FL := Lib.hid (FL.out.kept hx)
  have FS := Lib.hid (FS.out.kept hx)
  have FX := Lib.hid (FX.out.kept hx)
  have FB := Lib.hid (FB.out.kept hx)
  have FI := Lib.hid (FI.out.kept hx)
  have FC := Lib.hid (FC.out.kept hx)
  have HB := Lib.hid (below_then HB.out hx)
  refine hK _ _ ⟨by rw [FB.out.cell]; rfl, by rw [FB.out.cell]; rfl⟩ ?_
  clear hK K hx
  have cvS := conv_str FS.out
  have hsS : (strB [7]).toList = [7] := strB_list _
  iterate 2 (refine Text.bpurek rfl rfl (fun K hK => ⟨_, fun w' => by go_simp <;> rfl, ?_⟩); go_simp; refine hK _ ?_; clear hK K)
  (refine Text.breadk rfl rfl (fun K hK => ⟨_, by go_simp <;> rfl, ?_⟩); go_simp; refine hK _ ?_; clear hK K)
  iterate 3 (refine Text.bpurek rfl rfl (fun K hK => ⟨_, fun w' => by go_simp <;> rfl, ?_⟩); go_simp; refine hK _ ?_; clear hK K)
  (refine Text.bheldk rfl rfl (fun K hK => ⟨_, fun w' hw' => by have h9 := hw'.1; have h8 := hw'.2; go_simp <;> rfl, ?_⟩); go_simp; refine hK _ ?_; clear hK K)
  clear cvS hsS
  refine Text.bfork ?_ ?_
  · refine Text.beffw rfl rfl (fun K hK => ?_)
    go_simp
    obtain ⟨e1, he1⟩ : ∃ W, W = d4.alloc (.cells #[.int .i64 3, .slice A3 n3 c3] 33) := ⟨_, rfl⟩
    obtain ⟨ge1, hge1⟩ : ∃ g, g = d4.heap.size := ⟨_, rfl⟩
    have hx : Below d4.heap.size d4 e1 := by rw [he1]; exact kb1 _ _
    have hk : Blk e1 ge1 33 #[.int .i64 3, .slice A3 n3 c3] := by rw [he1, hge1]; exact Blk.new _ _ _
    have FL := Lib.hid (FL.out.kept hx)
    have FS := Lib.hid (FS.out.kept hx)
    have FX := Lib.hid (FX.out.kept hx)
    have FB := Lib.hid (FB.out.kept hx)
    have FI := Lib.hid (FI.out.kept hx)
    have FC := Lib.hid (FC.out.kept hx)
    have HB := Lib.hid (below_then HB.out hx)
    have Ke1 := Lib.hid hk
    rw [← he1, ← hge1]
    refine hK _ _ ⟨by rw [FB.out.cell]; rfl, by rw [FB.out.cell]; rfl⟩ ?_
    clear hK K hk hx he1 hge1
    refine Text.beffw rfl rfl (fun K hK => ?_)
    go_simp
    refine (share_any 3 1 e1).mono ?_
    rintro e e2 ⟨ge2, rfl, hg, hk, hx⟩
    have FL := Lib.hid (FL.out.kept hx)
    have FS := Lib.hid (FS.out.kept hx)
    have FX := Lib.hid (FX.out.kept hx)
    have FB := Lib.hid (FB.out.kept hx)
    have FI := Lib.hid (FI.out.kept hx)
    have FC := Lib.hid (FC.out.kept hx)
    have HB := Lib.hid (below_then HB.out hx)
    have Ke1 := Lib.hid (Ke1.out.kept hx)
    have Ke2 := Lib.hid hk
    refine hK _ _ ⟨by rw [FB.out.cell]; rfl, by rw [FB.out.cell]; rfl⟩ ?_
    clear hK K hg hk hx
    refine Text.beffw rfl rfl (fun K hK => ?_)
    go_simp
    obtain ⟨e3, he3⟩ : ∃ W, W = e2.alloc (.cells #[.int .i64 3, .slice (some ⟨ge2, 0, none⟩) 1 1] 33) := ⟨_, rfl⟩
    obtain ⟨ge3, hge3⟩ : ∃ g, g = e2.heap.size := ⟨_, rfl⟩
    have hx : Below e2.heap.size e2 e3 := by rw [he3]; exact kb1 _ _
    have hk : Blk e3 ge3 33 #[.int .i64 3, .slice (some ⟨ge2, 0, none⟩) 1 1] := by rw [he3, hge3]; exact Blk.new _ _ _
    have FL := Lib.hid (FL.out.kept hx)
    have FS := Lib.hid (FS.out.kept hx)
    have FX := Lib.hid (FX.out.kept hx)
    have FB := Lib.hid (FB.out.kept hx)
    have FI := Lib.hid (FI.out.kept hx)
    have FC := Lib.hid (FC.out.kept hx)
    have HB := Lib.hid (below_then HB.out hx)
    have Ke1 := Lib.hid (Ke1.out.kept hx)
    have Ke2 := Lib.hid (Ke2.out.kept hx)
    have Ke3 := Lib.hid hk
    rw [← he3, ← hge3]
    refine hK _ _ ⟨by rw [FB.out.cell]; rfl, by rw [FB.out.cell]; rfl⟩ ?_
    clear hK K hk hx he3 hge3
    refine Text.beffw rfl rfl (fun K hK => ?_)
    go_simp
    refine (same_any _ _ 1 1 1 1 [(3, [1])] [(3, [1])] e3 (ss1 Ke1.out FX.out) (ss1 Ke3.out (bs1 Ke2.out))).mono ?_
    rintro e z9 ⟨rfl, hx⟩
    rw [show sameS [(3, [1])] [(3, [1])] = true from by decide +kernel]
    have FL := Lib.hid (FL.out.kept hx)
    have FS := Lib.hid (FS.out.kept hx)
    have FX := Lib.hid (FX.out.kept hx)
    have FB := Lib.hid (FB.out.kept hx)
    have FI := Lib.hid (FI.out.kept hx)
    have FC := Lib.hid (FC.out.kept hx)
    have HB := Lib.hid (below_then HB.out hx)
    refine hK _ _ ⟨by rw [FB.out.cell]; rfl, by rw [FB.out.cell]; rfl⟩ ?_
    clear hK K hx
    obtain ⟨gi, oi, rfl, ci⟩ := FI.out.at_ (Below.refl _ _) (show 0 < 1 by omega)
    have ci' : z9.cell? ⟨gi, oi, none⟩ = some (.int .i64 1) := ci
    obtain ⟨gm, om, Am, nm, cm, em, ci2, ci3⟩ := FC.out.at_ (Below.refl _ _) (show 0 < 1 by omega)
    cases Option.some.inj em
    have ci2' : z9.cell? ⟨gO, 0, none⟩ = some (.slice Am nm cm) := ci2
    have cvC : (convert 22 9 (.slice Am nm cm)).run Try.prog z9 = .ok (.string (strB [12])) z9 := conv_str ci3
    have hsC : (strB [12]).toList = [12] := strB_list _
    clear ci ci2 ci3
    iterate 4 (refine Text.bpurek rfl rfl (fun K hK => ⟨_, fun w' => by go_simp <;> rfl, ?_⟩); go_simp; refine hK _ ?_; clear hK K)
    (refine Text.breadk rfl rfl (fun K hK => ⟨_, by go_simp <;> rfl, ?_⟩); go_simp; refine hK _ ?_; clear hK K)
    iterate 5 (refine Text.bpurek rfl rfl (fun K hK => ⟨_, fun w' => by go_simp <;> rfl, ?_⟩); go_simp; refine hK _ ?_; clear hK K)
    iterate 2 (refine Text.breadk rfl rfl (fun K hK => ⟨_, by go_simp <;> rfl, ?_⟩); go_simp; refine hK _ ?_; clear hK K)
    iterate 7 (refine Text.bpurek rfl rfl (fun K hK => ⟨_, fun w' => by go_simp <;> rfl, ?_⟩); go_simp; refine hK _ ?_; clear hK K)
    refine Text.bdone ?_
    go_wp2_with fail
    go_ret
    exact ⟨rfl, HB.out⟩
  · refine Text.beffw rfl rfl (fun K hK => ?_)
    go_simp
    refine (share_any 3 1 d4).mono ?_
    rintro e f1 ⟨gf1, rfl, hg, hk, hx⟩
    have FL := Lib.hid (FL.out.kept hx)
    have FS := Lib.hid (FS.out.kept hx)
    have FX := Lib.hid (FX.out.kept hx)
    have FB := Lib.hid (FB.out.kept hx)
    have FI := Lib.hid (FI.out.kept hx)
    have FC := Lib.hid (FC.out.kept hx)
    have HB := Lib.hid (below_then HB.out hx)
    have Kf1 := Lib.hid hk
    refine hK _ _ ⟨by rw [FB.out.cell]; rfl, by rw [FB.out.cell]; rfl⟩ ?_
    clear hK K hg hk hx
    refine Text.bfork ?_ ?_
    · refine Text.beffw rfl rfl (fun K hK => ?_)
      go_simp
      obtain ⟨f2, hf2⟩ : ∃ W, W = f1.alloc (.cells #[.int .i64 3, .slice A3 n3 c3] 33) := ⟨_, rfl⟩
      obtain ⟨gf2, hgf2⟩ : ∃ g, g = f1.heap.size := ⟨_, rfl⟩
      have hx : Below f1.heap.size f1 f2 := by rw [hf2]; exact kb1 _ _
      have hk : Blk f2 gf2 33 #[.int .i64 3, .slice A3 n3 c3] := by rw [hf2, hgf2]; exact Blk.new _ _ _
      have FL := Lib.hid (FL.out.kept hx)
      have FS := Lib.hid (FS.out.kept hx)
      have FX := Lib.hid (FX.out.kept hx)
      have FB := Lib.hid (FB.out.kept hx)
      have FI := Lib.hid (FI.out.kept hx)
      have FC := Lib.hid (FC.out.kept hx)
      have HB := Lib.hid (below_then HB.out hx)
      have Kf1 := Lib.hid (Kf1.out.kept hx)
      have Kf2 := Lib.hid hk
      rw [← hf2, ← hgf2]
      refine hK _ _ ⟨by rw [FB.out.cell]; rfl, by rw [FB.out.cell]; rfl⟩ ?_
      clear hK K hk hx hf2 hgf2
      refine Text.beffw rfl rfl (fun K hK => ?_)
      go_simp
      obtain ⟨f3, hf3⟩ : ∃ W, W = f2.alloc (.cells #[.int .i64 3, .slice (some ⟨gf1, 0, none⟩) 1 1] 33) := ⟨_, rfl⟩
      obtain ⟨gf3, hgf3⟩ : ∃ g, g = f2.heap.size := ⟨_, rfl⟩
      have hx : Below f2.heap.size f2 f3 := by rw [hf3]; exact kb1 _ _
      have hk : Blk f3 gf3 33 #[.int .i64 3, .slice (some ⟨gf1, 0, none⟩) 1 1] := by rw [hf3, hgf3]; exact Blk.new _ _ _
      have FL := Lib.hid (FL.out.kept hx)
      have FS := Lib.hid (FS.out.kept hx)
      have FX := Lib.hid (FX.out.kept hx)
      have FB := Lib.hid (FB.out.kept hx)
      have FI := Lib.hid (FI.out.kept hx)
      have FC := Lib.hid (FC.out.kept hx)
      have HB := Lib.hid (below_then HB.out hx)
      have Kf1 := Lib.hid (Kf1.out.kept hx)
      have Kf2 := Lib.hid (Kf2.out.kept hx)
      have Kf3 := Lib.hid hk
      rw [← hf3, ← hgf3]
      refine hK _ _ ⟨by rw [FB.out.cell]; rfl, by rw [FB.out.cell]; rfl⟩ ?_
      clear hK K hk hx hf3 hgf3
      refine Text.beffw rfl rfl (fun K hK => ?_)
      go_simp
      refine (same_any _ _ 1 1 1 1 [(3, [1])] [(3, [1])] f3 (ss1 Kf2.out FX.out) (ss1 Kf3.out (bs1 Kf1.out))).mono ?_
      rintro e z9 ⟨rfl, hx⟩
      rw [show sameS [(3, [1])] [(3, [1])] = true from by decide +kernel]
      have FL := Lib.hid (FL.out.kept hx)
      have FS := Lib.hid (FS.out.kept hx)
      have FX := Lib.hid (FX.out.kept hx)
      have FB := Lib.hid (FB.out.kept hx)
      have FI := Lib.hid (FI.out.kept hx)
      have FC := Lib.hid (FC.out.kept hx)
      have HB := Lib.hid (below_then HB.out hx)
      refine hK _ _ ⟨by rw [FB.out.cell]; rfl, by rw [FB.out.cell]; rfl⟩ ?_
      clear hK K hx
      obtain ⟨gi, oi, rfl, ci⟩ := FI.out.at_ (Below.refl _ _) (show 0 < 1 by omega)
      have ci' : z9.cell? ⟨gi, oi, none⟩ = some (.int .i64 1) := ci
      obtain ⟨gm, om, Am, nm, cm, em, ci2, ci3⟩ := FC.out.at_ (Below.refl _ _) (show 0 < 1 by omega)
      cases Option.some.inj em
      have ci2' : z9.cell? ⟨gO, 0, none⟩ = some (.slice Am nm cm) := ci2
      have cvC : (convert 22 9 (.slice Am nm cm)).run Try.prog z9 = .ok (.string (strB [12])) z9 := conv_str ci3
      have hsC : (strB [12]).toList = [12] := strB_list _
      clear ci ci2 ci3
      iterate 4 (refine Text.bpurek rfl rfl (fun K hK => ⟨_, fun w' => by go_simp <;> rfl, ?_⟩); go_simp; refine hK _ ?_; clear hK K)
      (refine Text.breadk rfl rfl (fun K hK => ⟨_, by go_simp <;> rfl, ?_⟩); go_simp; refine hK _ ?_; clear hK K)
      iterate 5 (refine Text.bpurek rfl rfl (fun K hK => ⟨_, fun w' => by go_simp <;> rfl, ?_⟩); go_simp; refine hK _ ?_; clear hK K)
      iterate 2 (refine Text.breadk rfl rfl (fun K hK => ⟨_, by go_simp <;> rfl, ?_⟩); go_simp; refine hK _ ?_; clear hK K)
      iterate 7 (refine Text.bpurek rfl rfl (fun K hK => ⟨_, fun w' => by go_simp <;> rfl, ?_⟩); go_simp; refine hK _ ?_; clear hK K)
      refine Text.bdone ?_
      go_wp2_with fail
      go_ret
      exact ⟨rfl, HB.out⟩
    · refine Text.beffw rfl rfl (fun K hK => ?_)
      go_simp
      obtain ⟨h2, hh2⟩ : ∃ W, W = f1.alloc (.cells #[.int .i64 3, .slice (some ⟨gf1, 0, none⟩) 1 1] 33) := ⟨_, rfl⟩
      obtain ⟨gh2, hgh2⟩ : ∃ g, g = f1.heap.size := ⟨_, rfl⟩
      have hx : Below f1.heap.size f1 h2 := by rw [hh2]; exact kb1 _ _
      have hk : Blk h2 gh2 33 #[.int .i64 3, .slice (some ⟨gf1, 0, none⟩) 1 1] := by rw [hh2, hgh2]; exact Blk.new _ _ _
      have FL := Lib.hid (FL.out.kept hx)
      have FS := Lib.hid (FS.out.kept hx)
      have FX := Lib.hid (FX.out.kept hx)
      have FB := Lib.hid (FB.out.kept hx)
      have FI := Lib.hid (FI.out.kept hx)
      have FC := Lib.hid (FC.out.kept hx)
      have HB := Lib.hid (below_then HB.out hx)
      have Kf1 := Lib.hid (Kf1.out.kept hx)
      have Kh2 := Lib.hid hk
      rw [← hh2, ← hgh2]
      refine hK _ _ ⟨by rw [FB.out.cell]; rfl, by rw [FB.out.cell]; rfl⟩ ?_
      clear hK K hk hx hh2 hgh2
      refine Text.beffw rfl rfl (fun K hK => ?_)
      go_simp
      obtain ⟨h3, hh3⟩ : ∃ W, W = h2.alloc (.cells #[.int .i64 3, .slice A3 n3 c3] 33) := ⟨_, rfl⟩
      obtain ⟨gh3, hgh3⟩ : ∃ g, g = h2.heap.size := ⟨_, rfl⟩
      have hx : Below h2.heap.size h2 h3 := by rw [hh3]; exact kb1 _ _
      have hk : Blk h3 gh3 33 #[.int .i64 3, .slice A3 n3 c3] := by rw [hh3, hgh3]; exact Blk.new _ _ _
      have FL := Lib.hid (FL.out.kept hx)
      have FS := Lib.hid (FS.out.kept hx)
      have FX := Lib.hid (FX.out.kept hx)
      have FB := Lib.hid (FB.out.kept hx)
      have FI := Lib.hid (FI.out.kept hx)
      have FC := Lib.hid (FC.out.kept hx)
      have HB := Lib.hid (below_then HB.out hx)
      have Kf1 := Lib.hid (Kf1.out.kept hx)
      have Kh2 := Lib.hid (Kh2.out.kept hx)
      have Kh3 := Lib.hid hk
      rw [← hh3, ← hgh3]
      refine hK _ _ ⟨by rw [FB.out.cell]; rfl, by rw [FB.out.cell]; rfl⟩ ?_
      clear hK K hk hx hh3 hgh3
      refine Text.beffw rfl rfl (fun K hK => ?_)
      go_simp
      refine (same_any _ _ 1 1 1 1 [(3, [1])] [(3, [1])] h3 (ss1 Kh3.out FX.out) (ss1 Kh2.out (bs1 Kf1.out))).mono ?_
      rintro e z9 ⟨rfl, hx⟩
      rw [show sameS [(3, [1])] [(3, [1])] = true from by decide +kernel]
      have FL := Lib.hid (FL.out.kept hx)
      have FS := Lib.hid (FS.out.kept hx)
      have FX := Lib.hid (FX.out.kept hx)
      have FB := Lib.hid (FB.out.kept hx)
      have FI := Lib.hid (FI.out.kept hx)
      have FC := Lib.hid (FC.out.kept hx)
      have HB := Lib.hid (below_then HB.out hx)
      refine hK _ _ ⟨by rw [FB.out.cell]; rfl, by rw [FB.out.cell]; rfl⟩ ?_
      clear hK K hx
      obtain ⟨gi, oi, rfl, ci⟩ := FI.out.at_ (Below.refl _ _) (show 0 < 1 by omega)
      have ci' : z9.cell? ⟨gi, oi, none⟩ = some (.int .i64 1) := ci
      obtain ⟨gm, om, Am, nm, cm, em, ci2, ci3⟩ := FC.out.at_ (Below.refl _ _) (show 0 < 1 by omega)
      cases Option.some.inj em
      have ci2' : z9.cell? ⟨gO, 0, none⟩ = some (.slice Am nm cm) := ci2
      have cvC : (convert 22 9 (.slice Am nm cm)).run Try.prog z9 = .ok (.string (strB [12])) z9 := conv_str ci3
      have hsC : (strB [12]).toList = [12] := strB_list _
      clear ci ci2 ci3
      iterate 4 (refine Text.bpurek rfl rfl (fun K hK => ⟨_, fun w' => by go_simp <;> rfl, ?_⟩); go_simp; refine hK _ ?_; clear hK K)
      (refine Text.breadk rfl rfl (fun K hK => ⟨_, by go_simp <;> rfl, ?_⟩); go_simp; refine hK _ ?_; clear hK K)
      iterate 5 (refine Text.bpurek rfl rfl (fun K hK => ⟨_, fun w' => by go_simp <;> rfl, ?_⟩); go_simp; refine hK _ ?_; clear hK K)
      iterate 2 (refine Text.breadk rfl rfl (fun K hK => ⟨_, by go_simp <;> rfl, ?_⟩); go_simp; refine hK _ ?_; clear hK K)
      iterate 7 (refine Text.bpurek rfl rfl (fun K hK => ⟨_, fun w' => by go_simp <;> rfl, ?_⟩); go_simp; refine hK _ ?_; clear hK K)
      refine Text.bdone ?_
      go_wp2_with fail
      go_ret
      exact ⟨rfl, HB.out⟩
end Go.Proofs.Ytakedococfklgaa
