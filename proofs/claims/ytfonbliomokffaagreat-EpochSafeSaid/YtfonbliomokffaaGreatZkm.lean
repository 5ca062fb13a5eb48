/- The town's acts: release, learn, expel, add; who is no writer. -/
import Derived.Test.YtfonbliomokffaaGreatZjm
namespace Go.Proofs.YtfonbliomokffaaGreat
open Go Go.RowKit Gf Sha

def Tn.expelC (T : Tn) (o : Nat) : Tn := if T.ad = false ∨ (o : Int) ≠ T.bw then T.expel o else T
theorem learnK_0 (T : Tn) (u o : Nat) : T.learnK u o 0 = T := by
 unfold Tn.learnK
 have h1 : (fun i => if inRow 3 u 0 i = true then max (T.vw i) (T.vw (3 * o + (i - 3 * u))) else T.vw i) = T.vw := by
  funext i; rw [inRow_zero]; rfl
 have h2 : (fun i => T.wr i || (inRow 3 u 0 i && T.wr (3 * o + (i - 3 * u)))) = T.wr := by
  funext i; rw [inRow_zero]; simp
 rw [h1, h2]
theorem learnK_vw {T : Tn} {u o s x : Nat} (h : inRow 3 u s x = false) : (T.learnK u o s).vw x = T.vw x := by
 show (if inRow 3 u s x = true then _ else _) = _
 rw [h]; rfl
theorem learnK_wr {T : Tn} {u o s x : Nat} (h : inRow 3 u s x = false) : (T.learnK u o s).wr x = T.wr x := by
 show (T.wr x || (inRow 3 u s x && _)) = _
 rw [h]; simp
theorem row_other {u o s : Nat} (hs : s < 3) : inRow 3 u s (3 * o + s) = false := by rw [← Bool.not_eq_true, inRow_iff]; omega
theorem learnK_next {T : Tn} {u o s z : Nat} {y : Bool} (hs : s < 3) (hz : z = max (T.vw (3 * u + s)) (T.vw (3 * o + s))) (hy : y = (T.wr (3 * u + s) || T.wr (3 * o + s))) :
  ({ ({ T.learnK u o s with vw := up (T.learnK u o s).vw (3 * u + s) z } : Tn) with wr := up (T.learnK u o s).wr (3 * u + s) y } : Tn) = T.learnK u o (s + 1) := by
 show Tn.mk T.lg (up (T.learnK u o s).vw (3 * u + s) z) (up (T.learnK u o s).wr (3 * u + s) y) T.nd T.ex T.ad T.bw = Tn.mk T.lg (T.learnK u o (s + 1)).vw (T.learnK u o (s + 1)).wr T.nd T.ex T.ad T.bw
 have h1 : up (T.learnK u o s).vw (3 * u + s) z = (T.learnK u o (s + 1)).vw := by
  funext i
  show (if i = 3 * u + s then z else if inRow 3 u s i = true then max (T.vw i) (T.vw (3 * o + (i - 3 * u))) else T.vw i) = if inRow 3 u (s + 1) i = true then max (T.vw i) (T.vw (3 * o + (i - 3 * u))) else T.vw i
  rw [inRow_succ]
  by_cases e : i = 3 * u + s
  ·
   subst e
   rw [if_pos rfl, decide_eq_true rfl, Bool.or_true, if_pos rfl, show 3 * u + s - 3 * u = s by omega, hz]
  ·
   rw [if_neg e, decide_eq_false e, Bool.or_false]
 have h2 : up (T.learnK u o s).wr (3 * u + s) y = (T.learnK u o (s + 1)).wr := by
  funext i
  show (if i = 3 * u + s then y else (T.wr i || (inRow 3 u s i && T.wr (3 * o + (i - 3 * u))))) = (T.wr i || (inRow 3 u (s + 1) i && T.wr (3 * o + (i - 3 * u))))
  rw [inRow_succ]
  by_cases e : i = 3 * u + s
  ·
   subst e
   rw [if_pos rfl, decide_eq_true rfl, Bool.or_true, show 3 * u + s - 3 * u = s by omega, hy, Bool.true_and]
  ·
   rw [if_neg e, decide_eq_false e, Bool.or_false]
 rw [h1, h2]
section
set_option maxRecDepth 100000
set_option maxHeartbeats 4000000
theorem do_not (w0 : World) (g : Nat) (T : Tn) (v : Nat → Value) (u : Nat) (k ao : Int) (st : UInt8) (w : World) (h : TM w0 w g T v) (hu : u < 3) (hwr : T.wr (3 * u + u) = false) :
  Calls Tryz.prog 21 #[.pointer (some ⟨g, 0, none⟩), .agg (acC ⟨k, (u : Int), ao, st⟩).toArray] w fun e w' => e = .returned (.bool true) ∧ ∃ v', TM w0 w' g T v' := by
 have H := Lib.hid h
 have HWR := Lib.hid hwr
 clear h hwr
 go_enter Tryz.func21, Tryz.ntmps21
 go_wp2_with (first
  | ((with_reducible show wpList _ _ _ (⟨some 3, _, _, _, _, _⟩ :: _) _ _); refine wpList_box _ rfl 55 (.tmp 1) rfl (acC ⟨k, (u : Int), ao, st⟩) rfl ?_; intro w1 y1 y2 y3; have HA1 := Lib.hid y1; have HT1 := Lib.hid (H.out.kept y2); have HB1 := Lib.hid y2; clear y1 y2 y3)
  | fail)
 have p1 := HA1.out.get (j := 1) rfl
 have p2 := HA1.out.get (j := 2) rfl
 refine Text.wp_region_text (fun _ => True) [(0, 4), (2, 4), (1, 1), (4, 4), (3, 1), (5, 4)] (by kernel_rfl) (by kernel_rfl) (fun _ _ _ _ _ h => h) (trivial) ?_
 iterate 2 (refine Text.purek rfl rfl (fun K hK => ⟨_, fun w' => by go_simp <;> rfl, ?_⟩); go_simp; refine hK _ ?_; clear hK K)
 (refine Text.readk rfl rfl (fun K hK => ⟨_, by go_simp <;> rfl, ?_⟩); go_simp; refine hK _ ?_; clear hK K)
 (refine Text.purek rfl rfl (fun K hK => ⟨_, fun w' => by go_simp <;> rfl, ?_⟩); go_simp; refine hK _ ?_; clear hK K)
 (refine Text.readk rfl rfl (fun K hK => ⟨_, by go_simp <;> rfl, ?_⟩); go_simp; refine hK _ ?_; clear hK K)
 (refine Text.purek rfl rfl (fun K hK => ⟨_, fun w' => by go_simp <;> rfl, ?_⟩); go_simp; refine hK _ ?_; clear hK K)
 refine Text.done ?_
 clear p1 p2
 have q0 : w1.drew.cell? ⟨g, 12 + u * 3 + u, none⟩ = some (.bool false) := by rw [HT1.out.drew.cw hu hu, HWR.out]
 go_wp2_with fail
 go_ret
 exact ⟨rfl, v, HT1.out.drew⟩
theorem do_release (w0 : World) (g : Nat) (T : Tn) (v : Nat → Value) (u : Nat) (ao : Int) (st : UInt8) (w : World) (h : TM w0 w g T v) (hu : u < 3) (hwr : T.wr (3 * u + u) = true) :
  Calls Tryz.prog 21 #[.pointer (some ⟨g, 0, none⟩), .agg (acC ⟨1, (u : Int), ao, st⟩).toArray] w fun e w' => e = .returned (.bool true) ∧ ∃ v', TM w0 w' g (T.releaseK u (mZ st) 8) v' := by
 have H := Lib.hid h
 have HWR := Lib.hid hwr
 have hu' : (u : Int) < 3 := by omega
 clear h hwr
 go_enter Tryz.func21, Tryz.ntmps21
 go_wp2_with (first
  | ((with_reducible show wpList _ _ _ (⟨some 3, _, _, _, _, _⟩ :: _) _ _); refine wpList_box _ rfl 55 (.tmp 1) rfl (acC ⟨1, (u : Int), ao, st⟩) rfl ?_; intro w1 y1 y2 y3; have HA1 := Lib.hid y1; have HT1 := Lib.hid (H.out.kept y2); have HB1 := Lib.hid y2; clear y1 y2 y3)
  | fail)
 have p1 := HA1.out.get (j := 1) rfl
 have p2 := HA1.out.get (j := 2) rfl
 refine Text.wp_region_text (fun _ => True) [(0, 4), (2, 4), (1, 1), (4, 4), (3, 1), (5, 4)] (by kernel_rfl) (by kernel_rfl) (fun _ _ _ _ _ h => h) (trivial) ?_
 iterate 2 (refine Text.purek rfl rfl (fun K hK => ⟨_, fun w' => by go_simp <;> rfl, ?_⟩); go_simp; refine hK _ ?_; clear hK K)
 (refine Text.readk rfl rfl (fun K hK => ⟨_, by go_simp <;> rfl, ?_⟩); go_simp; refine hK _ ?_; clear hK K)
 (refine Text.purek rfl rfl (fun K hK => ⟨_, fun w' => by go_simp <;> rfl, ?_⟩); go_simp; refine hK _ ?_; clear hK K)
 (refine Text.readk rfl rfl (fun K hK => ⟨_, by go_simp <;> rfl, ?_⟩); go_simp; refine hK _ ?_; clear hK K)
 (refine Text.purek rfl rfl (fun K hK => ⟨_, fun w' => by go_simp <;> rfl, ?_⟩); go_simp; refine hK _ ?_; clear hK K)
 refine Text.done ?_
 clear p1 p2
 have q0 : w1.drew.cell? ⟨g, 12 + u * 3 + u, none⟩ = some (.bool true) := by rw [HT1.out.drew.cw hu hu, HWR.out]
 have q1 : w1.drew.cell? ⟨w.heap.size, 0, none⟩ = some (.int .i64 1) := HA1.out.drew.get (j := 0) rfl
 go_wp2_with fail
 clear q0 q1
 go_loopw [9] (fun iv wr => ∃ s : Nat, s ≤ 8 ∧ iv = .int .i64 (s : Int) ∧ Hid (TM w0 wr g (T.releaseK u (mZ st) s) v) ∧ Hid (BL wr w.heap.size 55 (acC ⟨1, (u : Int), ao, st⟩))) (fun iv _ => 8 - (intOf iv).toNat)
 case atStart => exact ⟨0, by omega, rfl, by rw [releaseK_0]; exact Lib.hid HT1.out.drew, Lib.hid HA1.out.drew⟩
 case round =>
  obtain ⟨s, hs, rfl, ht, ha⟩ := hrel
  obtain ⟨wx, hwx⟩ : ∃ x, x = wr := ⟨_, rfl⟩
  rw [← hwx] at ht ha ⊢
  clear hwx
  by_cases hlt : s < 8
  ·
   have p3 := ha.out.get (j := 3) rfl
   have p4 := ht.out.cn hu hlt
   have hs' : (s : Int) < 8 := by omega
   cases c1 : (T.releaseK u (mZ st) s).nd (8 * u + s) with
   | false =>
    rw [c1] at p4
    have HN := Lib.hid (releaseK_next (T := T) (u := u) (s := s) (m := mZ st) (z := false) (by rw [c1]; rfl))
    go_wp2_with fail
    refine Text.wp_region_text (fun _ => True) [(0, 4), (1, 4), (2, 4), (3, 4), (4, 4), (5, 4), (6, 4), (7, 4), (8, 4), (9, 4), (19, 4), (20, 4), (21, 4), (10, 1), (11, 4), (12, 4), (13, 4), (14, 4), (15, 4), (16, 4), (17, 4), (18, 4), (22, 4), (23, 3)] (by kernel_rfl) (by kernel_rfl) (fun _ _ _ _ _ h => h) (trivial) ?_
    iterate 13 (refine Text.purek rfl rfl (fun K hK => ⟨_, fun w' => by go_simp <;> rfl, ?_⟩); go_simp; refine hK _ ?_; clear hK K)
    (refine Text.readk rfl rfl (fun K hK => ⟨_, by go_simp <;> rfl, ?_⟩); go_simp; refine hK _ ?_; clear hK K)
    (refine Text.purek rfl rfl (fun K hK => ⟨_, fun w' => by go_simp <;> rfl, ?_⟩); go_simp; refine hK _ ?_; clear hK K)
    iterate 6 (refine Text.skipk (.inr (.inr rfl)) rfl rfl (fun K hK => ?_); go_simp; refine hK _ ?_; clear hK K)
    iterate 2 (refine Text.purek rfl rfl (fun K hK => ⟨_, fun w' => by go_simp <;> rfl, ?_⟩); go_simp; refine hK _ ?_; clear hK K)
    refine Text.last rfl rfl (fun K hK => ?_)
    refine wp_store1 _ 4 (.tmp 95) (.tmp 91) rfl (sz1 _ (by kernel_rfl) _) g (21 + u * 8 + s) _ _ (.bool false) rfl rfl ht.out.drew.bl rfl rfl (by rw [tCs_len]; omega) ?_
    intro w7 y1 y2 y3
    rw [set_nd hu hlt] at y1
    have HT7 := Lib.hid (ht.out.drew.put y1 y2 rfl)
    have HA7 := Lib.hid (y2.bl ha.out.drew (ha.out.drew.ne ht.out.drew.bl (by decide)))
    clear y1 y2 y3
    refine hK _ _ ?_
    clear hK K
    refine Text.done ?_
    go_wp2_with fail
    go_roundw
    case rel => exact ⟨s + 1, by omega, by go_num, by rw [← HN.out]; exact HT7, HA7⟩
    case measure => simp [intOf]; omega
   | true =>
    rw [c1] at p4
    obtain ⟨y, hy⟩ : ∃ y, y = (bits BinOp.and IntKind.u8 (bv st / 2 ^ s) 1 == 0) := ⟨_, rfl⟩
    have HN := Lib.hid (releaseK_next (T := T) (u := u) (s := s) (m := mZ st) (z := y) (by rw [c1, hy, mZ]; simp))
    have fb : (bits BinOp.and IntKind.u8 (bv st / 2 ^ s) 1 == 0) = y := hy.symm
    clear hy
    go_wp2_with fail
    refine Text.wp_region_text (fun _ => True) [(0, 4), (1, 4), (2, 4), (3, 4), (4, 4), (5, 4), (6, 4), (7, 4), (8, 4), (9, 4), (19, 4), (20, 4), (21, 4), (10, 1), (11, 4), (12, 4), (14, 4), (13, 1), (15, 4), (16, 4), (17, 4), (18, 4), (22, 4), (23, 3)] (by kernel_rfl) (by kernel_rfl) (fun _ _ _ _ _ h => h) (trivial) ?_
    iterate 13 (refine Text.purek rfl rfl (fun K hK => ⟨_, fun w' => by go_simp <;> rfl, ?_⟩); go_simp; refine hK _ ?_; clear hK K)
    (refine Text.readk rfl rfl (fun K hK => ⟨_, by go_simp <;> rfl, ?_⟩); go_simp; refine hK _ ?_; clear hK K)
    iterate 3 (refine Text.purek rfl rfl (fun K hK => ⟨_, fun w' => by go_simp <;> rfl, ?_⟩); go_simp; refine hK _ ?_; clear hK K)
    (refine Text.readk rfl rfl (fun K hK => ⟨_, by go_simp <;> rfl, ?_⟩); go_simp; refine hK _ ?_; clear hK K)
    iterate 5 (refine Text.purek rfl rfl (fun K hK => ⟨_, fun w' => by go_simp <;> rfl, ?_⟩); go_simp; refine hK _ ?_; clear hK K)
    refine Text.last rfl rfl (fun K hK => ?_)
    refine wp_store1 _ 4 (.tmp 95) (.tmp 91) rfl (sz1 _ (by kernel_rfl) _) g (21 + u * 8 + s) _ _ (.bool y) rfl rfl ht.out.drew.bl rfl rfl (by rw [tCs_len]; omega) ?_
    intro w7 y1 y2 y3
    rw [set_nd hu hlt] at y1
    have HT7 := Lib.hid (ht.out.drew.put y1 y2 rfl)
    have HA7 := Lib.hid (y2.bl ha.out.drew (ha.out.drew.ne ht.out.drew.bl (by decide)))
    clear y1 y2 y3
    refine hK _ _ ?_
    clear hK K
    refine Text.done ?_
    go_wp2_with fail
    go_roundw
    case rel => exact ⟨s + 1, by omega, by go_num, by rw [← HN.out]; exact HT7, HA7⟩
    case measure => simp [intOf]; omega
  ·
   obtain rfl : s = 8 := by omega
   go_wp2_with fail
   go_ret
   exact ⟨rfl, v, ht.out⟩
theorem do_learn (w0 : World) (g : Nat) (T : Tn) (v : Nat → Value) (u o : Nat) (st : UInt8) (w : World) (h : TM w0 w g T v) (hu : u < 3) (ho : o < 3) (hwr : T.wr (3 * u + u) = true) :
  Calls Tryz.prog 21 #[.pointer (some ⟨g, 0, none⟩), .agg (acC ⟨3, (u : Int), (o : Int), st⟩).toArray] w fun e w' => e = .returned (.bool true) ∧ ∃ v', TM w0 w' g (T.learnK u o 3) v' := by
 have H := Lib.hid h
 have HWR := Lib.hid hwr
 have hu' : (u : Int) < 3 := by omega
 have ho' : (o : Int) < 3 := by omega
 clear h hwr
 go_enter Tryz.func21, Tryz.ntmps21
 obtain ⟨ao, hao⟩ : ∃ z : Int, z = (o : Int) := ⟨_, rfl⟩
 rw [← hao]
 go_wp2_with (first
  | ((with_reducible show wpList _ _ _ (⟨some 3, _, _, _, _, _⟩ :: _) _ _); refine wpList_box _ rfl 55 (.tmp 1) rfl (acC ⟨3, (u : Int), ao, st⟩) rfl ?_; intro w1 y1 y2 y3; have HA1 := Lib.hid y1; have HT1 := Lib.hid (H.out.kept y2); have HB1 := Lib.hid y2; clear y1 y2 y3)
  | fail)
 have p1 := HA1.out.get (j := 1) rfl
 have p2 := HA1.out.get (j := 2) rfl
 refine Text.wp_region_text (fun _ => True) [(0, 4), (2, 4), (1, 1), (4, 4), (3, 1), (5, 4)] (by kernel_rfl) (by kernel_rfl) (fun _ _ _ _ _ h => h) (trivial) ?_
 iterate 2 (refine Text.purek rfl rfl (fun K hK => ⟨_, fun w' => by go_simp <;> rfl, ?_⟩); go_simp; refine hK _ ?_; clear hK K)
 (refine Text.readk rfl rfl (fun K hK => ⟨_, by go_simp <;> rfl, ?_⟩); go_simp; refine hK _ ?_; clear hK K)
 (refine Text.purek rfl rfl (fun K hK => ⟨_, fun w' => by go_simp <;> rfl, ?_⟩); go_simp; refine hK _ ?_; clear hK K)
 (refine Text.readk rfl rfl (fun K hK => ⟨_, by go_simp <;> rfl, ?_⟩); go_simp; refine hK _ ?_; clear hK K)
 (refine Text.purek rfl rfl (fun K hK => ⟨_, fun w' => by go_simp <;> rfl, ?_⟩); go_simp; refine hK _ ?_; clear hK K)
 refine Text.done ?_
 clear p1 p2
 have q0 : w1.drew.cell? ⟨g, 12 + u * 3 + u, none⟩ = some (.bool true) := by rw [HT1.out.drew.cw hu hu, HWR.out]
 have q1 : w1.drew.cell? ⟨w.heap.size, 0, none⟩ = some (.int .i64 3) := HA1.out.drew.get (j := 0) rfl
 subst hao
 go_wp2_with fail
 clear q0 q1
 go_loopw [14] (fun iv wr => ∃ s : Nat, s ≤ 3 ∧ iv = .int .i64 (s : Int) ∧ Hid (TM w0 wr g (T.learnK u o s) v)) (fun iv _ => 3 - (intOf iv).toNat)
 case atStart => exact ⟨0, by omega, rfl, by rw [learnK_0]; exact Lib.hid HT1.out.drew⟩
 case round =>
  obtain ⟨s, hs, rfl, ht⟩ := hrel
  obtain ⟨wx, hwx⟩ : ∃ x, x = wr := ⟨_, rfl⟩
  rw [← hwx] at ht ⊢
  clear hwx
  by_cases hlt : s < 3
  ·
   obtain ⟨a, ha⟩ : ∃ a, a = T.vw (3 * u + s) := ⟨_, rfl⟩
   obtain ⟨b, hb⟩ : ∃ b, b = T.vw (3 * o + s) := ⟨_, rfl⟩
   have p4 := ht.out.cv hu hlt
   have p5 := ht.out.cv ho hlt
   rw [learnK_vw (row_other hlt), ← ha] at p4
   rw [learnK_vw (row_other hlt), ← hb] at p5
   have hs' : (s : Int) < 3 := by omega
   have HAA := Lib.hid ha
   have HBB := Lib.hid hb
   clear ha hb
   go_wp2_with fail
   refine Text.wp_region_text (fun _ => True) [(0, 4), (1, 4), (2, 4), (3, 4), (4, 4), (5, 4), (6, 4), (7, 4), (8, 4), (9, 4), (11, 4), (12, 4), (13, 4), (14, 4), (15, 4), (16, 4), (17, 4), (20, 4), (21, 4), (22, 4), (10, 1), (18, 1), (19, 4), (23, 4), (24, 3)] (by kernel_rfl) (by kernel_rfl) (fun _ _ _ _ _ h => h) (trivial) ?_
   iterate 20 (refine Text.purek rfl rfl (fun K hK => ⟨_, fun w' => by go_simp <;> rfl, ?_⟩); go_simp; refine hK _ ?_; clear hK K)
   iterate 2 (refine Text.readk rfl rfl (fun K hK => ⟨_, by go_simp <;> rfl, ?_⟩); go_simp; refine hK _ ?_; clear hK K)
   iterate 2 (refine Text.purek rfl rfl (fun K hK => ⟨_, fun w' => by go_simp <;> rfl, ?_⟩); go_simp; refine hK _ ?_; clear hK K)
   refine Text.last rfl rfl (fun K hK => ?_)
   refine wp_store1 _ 3 (.tmp 185) (.tmp 181) rfl (sz1 _ (by kernel_rfl) _) g (3 + u * 3 + s) _ _ (.int .i64 ((max a b : Nat) : Int)) rfl (by go_simp; rw [Nat.max_def, Int.max_def]; split <;> split <;> omega) ht.out.drew.bl rfl rfl (by rw [tCs_len]; omega) ?_
   intro w7 y1 y2 y3
   rw [set_vw hu hlt] at y1
   have HT7 := Lib.hid (ht.out.drew.put y1 y2 rfl)
   clear y1 y2 y3
   refine hK _ _ ?_
   clear hK K p4 p5
   refine Text.done ?_
   have HN := Lib.hid (learnK_next (T := T) (u := u) (o := o) (s := s) (z := max a b) (y := T.wr (3 * u + s) || T.wr (3 * o + s)) hlt (by rw [HAA.out, HBB.out]) rfl)
   have p4 := HT7.out.cw hu hlt
   have p5 := HT7.out.cw ho hlt
   rw [show ({ T.learnK u o s with vw := up (T.learnK u o s).vw (3 * u + s) (max a b) } : Tn).wr (3 * u + s) = T.wr (3 * u + s) from learnK_wr (row_other hlt)] at p4
   rw [show ({ T.learnK u o s with vw := up (T.learnK u o s).vw (3 * u + s) (max a b) } : Tn).wr (3 * o + s) = T.wr (3 * o + s) from learnK_wr (row_other hlt)] at p5
   obtain ⟨c, hc⟩ : ∃ c, c = T.wr (3 * u + s) := ⟨_, rfl⟩
   obtain ⟨d, hd⟩ : ∃ d, d = T.wr (3 * o + s) := ⟨_, rfl⟩
   rw [← hc] at p4 HN
   rw [← hd] at p5 HN
   clear hc hd
   cases c with
   | true =>
    go_wp2_with fail
    refine Text.wp_region_text (fun _ => True) [(0, 4), (1, 4), (2, 4), (3, 4), (4, 4), (5, 4), (6, 4), (7, 4), (8, 4), (9, 4), (21, 4), (22, 4), (23, 4), (10, 1), (11, 4), (12, 4), (13, 4), (14, 4), (15, 4), (16, 4), (17, 4), (18, 4), (19, 4), (20, 4), (24, 4), (25, 3)] (by kernel_rfl) (by kernel_rfl) (fun _ _ _ _ _ h => h) (trivial) ?_
    iterate 13 (refine Text.purek rfl rfl (fun K hK => ⟨_, fun w' => by go_simp <;> rfl, ?_⟩); go_simp; refine hK _ ?_; clear hK K)
    (refine Text.readk rfl rfl (fun K hK => ⟨_, by go_simp <;> rfl, ?_⟩); go_simp; refine hK _ ?_; clear hK K)
    (refine Text.purek rfl rfl (fun K hK => ⟨_, fun w' => by go_simp <;> rfl, ?_⟩); go_simp; refine hK _ ?_; clear hK K)
    iterate 8 (refine Text.skipk (.inr (.inr rfl)) rfl rfl (fun K hK => ?_); go_simp; refine hK _ ?_; clear hK K)
    iterate 2 (refine Text.purek rfl rfl (fun K hK => ⟨_, fun w' => by go_simp <;> rfl, ?_⟩); go_simp; refine hK _ ?_; clear hK K)
    refine Text.last rfl rfl (fun K hK => ?_)
    refine wp_store1 _ 4 (.tmp 210) (.tmp 206) rfl (sz1 _ (by kernel_rfl) _) g (12 + u * 3 + s) _ _ (.bool true) rfl rfl HT7.out.drew.bl rfl rfl (by rw [tCs_len]; omega) ?_
    intro w8 y1 y2 y3
    rw [set_wr hu hlt] at y1
    have HT8 := Lib.hid (HT7.out.drew.put y1 y2 rfl)
    clear y1 y2 y3
    refine hK _ _ ?_
    clear hK K p4 p5
    refine Text.done ?_
    go_wp2_with fail
    go_roundw
    case rel => exact ⟨s + 1, by omega, by go_num, by rw [← HN.out]; exact HT8⟩
    case measure => simp [intOf]; omega
   | false =>
    go_wp2_with fail
    refine Text.wp_region_text (fun _ => True) [(0, 4), (1, 4), (2, 4), (3, 4), (4, 4), (5, 4), (6, 4), (7, 4), (8, 4), (9, 4), (21, 4), (22, 4), (23, 4), (10, 1), (11, 4), (12, 4), (13, 4), (14, 4), (15, 4), (16, 4), (17, 4), (18, 4), (19, 1), (20, 4), (24, 4), (25, 3)] (by kernel_rfl) (by kernel_rfl) (fun _ _ _ _ _ h => h) (trivial) ?_
    iterate 13 (refine Text.purek rfl rfl (fun K hK => ⟨_, fun w' => by go_simp <;> rfl, ?_⟩); go_simp; refine hK _ ?_; clear hK K)
    (refine Text.readk rfl rfl (fun K hK => ⟨_, by go_simp <;> rfl, ?_⟩); go_simp; refine hK _ ?_; clear hK K)
    iterate 8 (refine Text.purek rfl rfl (fun K hK => ⟨_, fun w' => by go_simp <;> rfl, ?_⟩); go_simp; refine hK _ ?_; clear hK K)
    (refine Text.readk rfl rfl (fun K hK => ⟨_, by go_simp <;> rfl, ?_⟩); go_simp; refine hK _ ?_; clear hK K)
    iterate 2 (refine Text.purek rfl rfl (fun K hK => ⟨_, fun w' => by go_simp <;> rfl, ?_⟩); go_simp; refine hK _ ?_; clear hK K)
    refine Text.last rfl rfl (fun K hK => ?_)
    refine wp_store1 _ 4 (.tmp 210) (.tmp 206) rfl (sz1 _ (by kernel_rfl) _) g (12 + u * 3 + s) _ _ (.bool d) rfl rfl HT7.out.drew.bl rfl rfl (by rw [tCs_len]; omega) ?_
    intro w8 y1 y2 y3
    rw [set_wr hu hlt] at y1
    have HT8 := Lib.hid (HT7.out.drew.put y1 y2 rfl)
    clear y1 y2 y3
    refine hK _ _ ?_
    clear hK K p4 p5
    refine Text.done ?_
    go_wp2_with fail
    go_roundw
    case rel => exact ⟨s + 1, by omega, by go_num, by rw [← HN.out]; exact HT8⟩
    case measure => simp [intOf]; omega
  ·
   obtain rfl : s = 3 := by omega
   go_wp2_with fail
   go_ret
   exact ⟨rfl, v, ht.out⟩
theorem do_expel (w0 : World) (g : Nat) (T : Tn) (v : Nat → Value) (u o : Nat) (st : UInt8) (w : World) (h : TM w0 w g T v) (hu : u < 3) (ho : o < 3) (hwr : T.wr (3 * u + u) = true) :
  Calls Tryz.prog 21 #[.pointer (some ⟨g, 0, none⟩), .agg (acC ⟨5, (u : Int), (o : Int), st⟩).toArray] w fun e w' => e = .returned (.bool true) ∧ ∃ v', TM w0 w' g (T.expelC o) v' := by
 have H := Lib.hid h
 have HWR := Lib.hid hwr
 have hu' : (u : Int) < 3 := by omega
 have ho' : (o : Int) < 3 := by omega
 clear h hwr
 go_enter Tryz.func21, Tryz.ntmps21
 obtain ⟨ao, hao⟩ : ∃ z : Int, z = (o : Int) := ⟨_, rfl⟩
 rw [← hao]
 go_wp2_with (first
  | ((with_reducible show wpList _ _ _ (⟨some 3, _, _, _, _, _⟩ :: _) _ _); refine wpList_box _ rfl 55 (.tmp 1) rfl (acC ⟨5, (u : Int), ao, st⟩) rfl ?_; intro w1 y1 y2 y3; have HA1 := Lib.hid y1; have HT1 := Lib.hid (H.out.kept y2); have HB1 := Lib.hid y2; clear y1 y2 y3)
  | fail)
 have p1 := HA1.out.get (j := 1) rfl
 have p2 := HA1.out.get (j := 2) rfl
 refine Text.wp_region_text (fun _ => True) [(0, 4), (2, 4), (1, 1), (4, 4), (3, 1), (5, 4)] (by kernel_rfl) (by kernel_rfl) (fun _ _ _ _ _ h => h) (trivial) ?_
 iterate 2 (refine Text.purek rfl rfl (fun K hK => ⟨_, fun w' => by go_simp <;> rfl, ?_⟩); go_simp; refine hK _ ?_; clear hK K)
 (refine Text.readk rfl rfl (fun K hK => ⟨_, by go_simp <;> rfl, ?_⟩); go_simp; refine hK _ ?_; clear hK K)
 (refine Text.purek rfl rfl (fun K hK => ⟨_, fun w' => by go_simp <;> rfl, ?_⟩); go_simp; refine hK _ ?_; clear hK K)
 (refine Text.readk rfl rfl (fun K hK => ⟨_, by go_simp <;> rfl, ?_⟩); go_simp; refine hK _ ?_; clear hK K)
 (refine Text.purek rfl rfl (fun K hK => ⟨_, fun w' => by go_simp <;> rfl, ?_⟩); go_simp; refine hK _ ?_; clear hK K)
 refine Text.done ?_
 clear p1 p2
 have q0 : w1.drew.cell? ⟨g, 12 + u * 3 + u, none⟩ = some (.bool true) := by rw [HT1.out.drew.cw hu hu, HWR.out]
 have q1 : w1.drew.cell? ⟨w.heap.size, 0, none⟩ = some (.int .i64 5) := HA1.out.drew.get (j := 0) rfl
 subst hao
 have p4 := HT1.out.drew.ca
 have p5 := HT1.out.drew.cb
 cases ca : T.ad with
 | false =>
  rw [ca] at p4
  go_wp2_with (first
   | ((with_reducible show wpList _ _ _ (⟨none, _, _, _, _, _⟩ :: _) _ _); refine wpList_store1 _ rfl 4 (.tmp 262) (.const (.bool true)) rfl (sz1 _ (by kernel_rfl) _) g (45 + o) _ _ (.bool true) rfl rfl HT1.out.drew.bl rfl rfl (by rw [tCs_len]; omega) ?_; intro w7 y1 y2 y3; rw [set_ex ho] at y1; have HT7 := Lib.hid (HT1.out.drew.put y1 y2 rfl); clear y1 y2 y3))
  go_ret
  refine ⟨rfl, v, ?_⟩
  unfold Tn.expelC
  rw [if_pos (.inl ca)]
  exact HT7.out
 | true =>
  rw [ca] at p4
  by_cases hb : (o : Int) = T.bw
  ·
   have f1 : ((o : Int) != T.bw) = false := by rw [bne_eq_false_iff_eq]; exact hb
   have HB := Lib.hid hb
   clear hb
   go_wp2_with fail
   go_ret
   refine ⟨rfl, v, ?_⟩
   unfold Tn.expelC
   rw [if_neg (by rintro (h | h); rw [ca] at h; cases h; exact h HB.out)]
   exact HT1.out.drew
  ·
   have f1 : ((o : Int) != T.bw) = true := by rw [bne_iff_ne]; exact hb
   have HB := Lib.hid hb
   clear hb
   go_wp2_with (first
    | ((with_reducible show wpList _ _ _ (⟨none, _, _, _, _, _⟩ :: _) _ _); refine wpList_store1 _ rfl 4 (.tmp 262) (.const (.bool true)) rfl (sz1 _ (by kernel_rfl) _) g (45 + o) _ _ (.bool true) rfl rfl HT1.out.drew.bl rfl rfl (by rw [tCs_len]; omega) ?_; intro w7 y1 y2 y3; rw [set_ex ho] at y1; have HT7 := Lib.hid (HT1.out.drew.put y1 y2 rfl); clear y1 y2 y3))
   go_ret
   refine ⟨rfl, v, ?_⟩
   unfold Tn.expelC
   rw [if_pos (.inr HB.out)]
   exact HT7.out
theorem do_none (w0 : World) (g : Nat) (T : Tn) (v : Nat → Value) (u : Nat) (k ao : Int) (st : UInt8) (w : World) (h : TM w0 w g T v) (hu : u < 3) (hk : k < 0 ∨ 6 < k) (hwr : T.wr (3 * u + u) = true) :
  Calls Tryz.prog 21 #[.pointer (some ⟨g, 0, none⟩), .agg (acC ⟨k, (u : Int), ao, st⟩).toArray] w fun e w' => e = .returned (.bool true) ∧ ∃ v', TM w0 w' g T v' := by
 have H := Lib.hid h
 have HWR := Lib.hid hwr
 have f0 : (k == 0) = false := by rw [beq_eq_false_iff_ne]; omega
 have f1 : (k == 1) = false := by rw [beq_eq_false_iff_ne]; omega
 have f2 : (k == 2) = false := by rw [beq_eq_false_iff_ne]; omega
 have f3 : (k == 3) = false := by rw [beq_eq_false_iff_ne]; omega
 have f4 : (k == 4) = false := by rw [beq_eq_false_iff_ne]; omega
 have f5 : (k == 5) = false := by rw [beq_eq_false_iff_ne]; omega
 have f6 : (k == 6) = false := by rw [beq_eq_false_iff_ne]; omega
 clear h hwr hk
 go_enter Tryz.func21, Tryz.ntmps21
 go_wp2_with (first
  | ((with_reducible show wpList _ _ _ (⟨some 3, _, _, _, _, _⟩ :: _) _ _); refine wpList_box _ rfl 55 (.tmp 1) rfl (acC ⟨k, (u : Int), ao, st⟩) rfl ?_; intro w1 y1 y2 y3; have HA1 := Lib.hid y1; have HT1 := Lib.hid (H.out.kept y2); have HB1 := Lib.hid y2; clear y1 y2 y3)
  | fail)
 have p1 := HA1.out.get (j := 1) rfl
 have p2 := HA1.out.get (j := 2) rfl
 refine Text.wp_region_text (fun _ => True) [(0, 4), (2, 4), (1, 1), (4, 4), (3, 1), (5, 4)] (by kernel_rfl) (by kernel_rfl) (fun _ _ _ _ _ h => h) (trivial) ?_
 iterate 2 (refine Text.purek rfl rfl (fun K hK => ⟨_, fun w' => by go_simp <;> rfl, ?_⟩); go_simp; refine hK _ ?_; clear hK K)
 (refine Text.readk rfl rfl (fun K hK => ⟨_, by go_simp <;> rfl, ?_⟩); go_simp; refine hK _ ?_; clear hK K)
 (refine Text.purek rfl rfl (fun K hK => ⟨_, fun w' => by go_simp <;> rfl, ?_⟩); go_simp; refine hK _ ?_; clear hK K)
 (refine Text.readk rfl rfl (fun K hK => ⟨_, by go_simp <;> rfl, ?_⟩); go_simp; refine hK _ ?_; clear hK K)
 (refine Text.purek rfl rfl (fun K hK => ⟨_, fun w' => by go_simp <;> rfl, ?_⟩); go_simp; refine hK _ ?_; clear hK K)
 refine Text.done ?_
 clear p1 p2
 have q0 : w1.drew.cell? ⟨g, 12 + u * 3 + u, none⟩ = some (.bool true) := by rw [HT1.out.drew.cw hu hu, HWR.out]
 have q1 : w1.drew.cell? ⟨w.heap.size, 0, none⟩ = some (.int .i64 k) := HA1.out.drew.get (j := 0) rfl
 go_wp2_with fail
 go_ret
 exact ⟨rfl, v, HT1.out.drew⟩
end
end Go.Proofs.YtfonbliomokffaaGreat
