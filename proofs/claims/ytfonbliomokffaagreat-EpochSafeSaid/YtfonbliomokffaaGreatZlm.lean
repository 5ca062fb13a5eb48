/- The town's acts: add. -/
import Derived.Test.YtfonbliomokffaaGreatZkm
namespace Go.Proofs.YtfonbliomokffaaGreat
open Go Go.RowKit Gf Sha

def Tn.addC (T : Tn) (u : Nat) : Tn := if T.ad = false ∧ u < 2 ∧ T.ex u = false then T.add u else T
theorem TM.rowW {w0 w : World} {g : Nat} {T : Tn} {v : Nat → Value} (h : TM w0 w g T v) {u : Nat} (hu : u < 3) : At w g (12 + u * 3) [.bool (T.wr (3 * u)), .bool (T.wr (3 * u + 1)), .bool (T.wr (3 * u + 2))] := fun j x hj => by
 match j, hj with
 | 0, hj => cases hj; exact h.cw hu (d := 0) (by omega)
 | 1, hj => cases hj; exact h.cw hu (d := 1) (by omega)
 | 2, hj => cases hj; exact h.cw hu (d := 2) (by omega)
theorem TM.rowV {w0 w : World} {g : Nat} {T : Tn} {v : Nat → Value} (h : TM w0 w g T v) {u : Nat} (hu : u < 3) : At w g (3 + u * 3) [.int .i64 ((T.vw (3 * u) : Nat) : Int), .int .i64 ((T.vw (3 * u + 1) : Nat) : Int), .int .i64 ((T.vw (3 * u + 2) : Nat) : Int)] := fun j x hj => by
 match j, hj with
 | 0, hj => cases hj; exact h.cv hu (d := 0) (by omega)
 | 1, hj => cases hj; exact h.cv hu (d := 1) (by omega)
 | 2, hj => cases hj; exact h.cv hu (d := 2) (by omega)
theorem splice3 {T T' : Tn} {v : Nat → Value} {i : Nat} {a b c : Value} (hi : i + 3 ≤ 50) (h0 : tC T' v i = a) (h1 : tC T' v (i + 1) = b) (h2 : tC T' v (i + 2) = c) (h : ∀ j, j < 50 → ¬ (i ≤ j ∧ j < i + 3) → tC T' v j = tC T v j) : splice (tCs T v) i [a, b, c] = tCs T' v := tCs_splice hi (fun j hj => by
 by_cases h3 : j < i
 ·
  rw [if_pos h3, h j hj (by omega)]
 ·
  rw [if_neg h3]
  by_cases h4 : j < i + [a, b, c].length
  ·
   rw [if_pos h4]
   have h4' : j < i + 3 := h4
   have h5 : j = i ∨ j = i + 1 ∨ j = i + 2 := by omega
   rcases h5 with rfl | rfl | rfl
   ·
    rw [Nat.sub_self]; exact h0
   ·
    rw [show i + 1 - i = 1 by omega]; exact h1
   ·
    rw [show i + 2 - i = 2 by omega]; exact h2
  ·
   rw [if_neg h4]
   have h4' : ¬ j < i + 3 := h4
   exact h j hj (by omega))
theorem splice_wr (T : Tn) (v : Nat → Value) (u : Nat) : splice (tCs T v) 18 [.bool (T.wr (3 * u)), .bool (T.wr (3 * u + 1)), .bool (T.wr (3 * u + 2))] = tCs { T with wr := fun i => if inRow 3 2 3 i then T.wr (3 * u + (i - 6)) else T.wr i } v := splice3 (by omega) rfl rfl rfl (fun j hj hn => by
 unfold tC
 simp only []
 split
 ·
  rfl
 ·
  split
  ·
   rfl
  ·
   split
   ·
    rw [if_neg (by rw [inRow_iff]; omega)]
   ·
    rfl)
theorem splice_vw (T : Tn) (v : Nat → Value) (u : Nat) : splice (tCs T v) 9 [.int .i64 ((T.vw (3 * u) : Nat) : Int), .int .i64 ((T.vw (3 * u + 1) : Nat) : Int), .int .i64 ((T.vw (3 * u + 2) : Nat) : Int)] = tCs { T with vw := fun i => if inRow 3 2 3 i then T.vw (3 * u + (i - 6)) else T.vw i } v := splice3 (by omega) rfl rfl rfl (fun j hj hn => by
 unfold tC
 simp only []
 split
 ·
  rfl
 ·
  split
  ·
   rw [if_neg (by rw [inRow_iff]; omega)]
  ·
   rfl)
section
set_option maxRecDepth 100000
set_option maxHeartbeats 4000000
theorem do_add (w0 : World) (g : Nat) (T : Tn) (v : Nat → Value) (u : Nat) (ao : Int) (st : UInt8) (w : World) (h : TM w0 w g T v) (hu : u < 3) (hwr : T.wr (3 * u + u) = true) :
  Calls Tryz.prog 21 #[.pointer (some ⟨g, 0, none⟩), .agg (acC ⟨6, (u : Int), ao, st⟩).toArray] w fun e w' => e = .returned (.bool true) ∧ ∃ v', TM w0 w' g (T.addC u) v' := by
 have H := Lib.hid h
 have HWR := Lib.hid hwr
 have hu' : (u : Int) < 3 := by omega
 clear h hwr
 go_enter Tryz.func21, Tryz.ntmps21
 go_wp2_with (first
  | ((with_reducible show wpList _ _ _ (⟨some 3, _, _, _, _, _⟩ :: _) _ _); refine wpList_box _ rfl 55 (.tmp 1) rfl (acC ⟨6, (u : Int), ao, st⟩) rfl ?_; intro w1 y1 y2 y3; have HA1 := Lib.hid y1; have HT1 := Lib.hid (H.out.kept y2); have HB1 := Lib.hid y2; clear y1 y2 y3)
  | fail)
 have p1 := HA1.out.get (j := 1) rfl
 have p2 := HA1.out.get (j := 2) rfl
 refine Text.wp_region_text (fun _ => True) [(0, 4), (2, 4), (1, 1), (4, 4), (3, 1), (5, 4)] (by kernel_rfl) (by kernel_rfl) (fun _ _ _ _ _ h => h) (trivial) ?_
 iterate 2 (refine Text.purek rfl rfl (fun K hK => ⟨_, fun w' => by go_simp <;> rfl, ?_⟩); go_simp; refine hK _ ?_; clear hK K)
 (refine Text.readk rfl rfl (fun K hK => ⟨_, by go_simp <;> rfl, ?_⟩); go_simp; refine hK _ ?_; clear hK K)
 (refine Text.purek rfl rfl (fun K hK => ⟨_, fun w' => by go_simp <;> rfl, ?_⟩); go_simp; refine hK _ ?_; clear hK K)
 (refine Text.readk rfl rfl (fun K hK => ⟨_, by go_simp <;> rfl, ?_⟩); go_simp; refine hK _ ?_; clear hK K)
 (refine Text.purek rfl rfl (fun K hK => ⟨_, fun w' => by go_simp <;> rfl, ?_⟩); go_simp; refine hK _ ?_; clear hK K)
 refine Text.done ?_
 clear p1 p2
 have q0 : w1.drew.cell? ⟨g, 12 + u * 3 + u, none⟩ = some (.bool true) := by rw [HT1.out.drew.cw hu hu, HWR.out]
 have q1 : w1.drew.cell? ⟨w.heap.size, 0, none⟩ = some (.int .i64 6) := HA1.out.drew.get (j := 0) rfl
 have p4 := HT1.out.drew.ca
 have p5 := HT1.out.drew.ce hu
 cases ca : T.ad with
 | true =>
  rw [ca] at p4
  go_wp2_with fail
  go_ret
  refine ⟨rfl, v, ?_⟩
  unfold Tn.addC
  rw [if_neg (fun h => by rw [ca] at h; cases h.1)]
  exact HT1.out.drew
 | false =>
  rw [ca] at p4
  by_cases h2 : u < 2
  rotate_left
  ·
   have f1 : decide ((u : Int) < 2) = false := decide_eq_false (by omega)
   have f1' : decide (u < 2) = false := decide_eq_false h2
   go_wp2_with fail
   go_ret
   refine ⟨rfl, v, ?_⟩
   unfold Tn.addC
   rw [if_neg (fun h => h2 h.2.1)]
   exact HT1.out.drew
  have f1 : decide ((u : Int) < 2) = true := decide_eq_true (by omega)
  have f1' : decide (u < 2) = true := decide_eq_true h2
  cases ce : T.ex u with
  | true =>
   rw [ce] at p5
   go_wp2_with fail
   go_ret
   refine ⟨rfl, v, ?_⟩
   unfold Tn.addC
   rw [if_neg (fun h => by rw [ce] at h; cases h.2.2)]
   exact HT1.out.drew
  | false =>
   rw [ce] at p5
   have HC : Hid (T.addC u = T.add u) := Lib.hid (if_pos ⟨ca, h2, ce⟩)
   go_wp2_with (first
    | ((with_reducible show wpList _ _ _ (⟨none, _, _, _, _, _⟩ :: _) _ _); refine wpList_store1 _ rfl 4 (.tmp 287) (.const (.bool true)) rfl (sz1 _ (by kernel_rfl) _) g 48 _ _ (.bool true) rfl rfl HT1.out.drew.bl rfl rfl (by rw [tCs_len]; omega) ?_; intro w2 y1 y2 y3; rw [set_ad] at y1; have HT2 := Lib.hid (HT1.out.drew.put y1 y2 rfl); clear y1 y2 y3)
    | ((with_reducible show wpList _ _ _ (⟨none, _, _, _, _, _⟩ :: _) _ _); refine wpList_store1 _ rfl 3 (.tmp 289) (.tmp 285) rfl (sz1 _ (by kernel_rfl) _) g 49 _ _ (.int .i64 (u : Int)) rfl rfl HT2.out.bl rfl rfl (by rw [tCs_len]; omega) ?_; intro w3 y1 y2 y3; rw [set_bw] at y1; have HT3 := Lib.hid (HT2.out.put y1 y2 rfl); clear y1 y2 y3)
    | ((with_reducible show wpList _ _ _ (⟨none, _, _, _, _, _⟩ :: _) _ _); refine wpList_store1 _ rfl 4 (.tmp 295) (.const (.bool true)) rfl (sz1 _ (by kernel_rfl) _) g (12 + u * 3 + 2) _ _ (.bool true) rfl rfl HT3.out.bl rfl rfl (by rw [tCs_len]; omega) ?_; intro w4 y1 y2 y3; rw [set_wr hu (by omega : 2 < 3)] at y1; have HT4 := Lib.hid (HT3.out.put y1 y2 rfl); clear y1 y2 y3))
   obtain ⟨X, hX⟩ : ∃ X : Tn, X = ({ ({ ({ T with ad := true } : Tn) with bw := (u : Int) } : Tn) with wr := up T.wr (3 * u + 2) true } : Tn) := ⟨_, rfl⟩
   have HT4' : Hid (TM w0 w4 g X v) := Lib.hid (by rw [hX]; exact HT4.out)
   have HX : Hid (X.vw = T.vw) := Lib.hid (by rw [hX])
   have HXA : Hid ({ ({ X with wr := fun i => if inRow 3 2 3 i then X.wr (3 * u + (i - 6)) else X.wr i } : Tn) with vw := fun i => if inRow 3 2 3 i then X.vw (3 * u + (i - 6)) else X.vw i } = T.add u) := Lib.hid (by rw [hX]; rfl)
   clear hX HT4 p4 p5
   refine Text.wp_region_text (fun w' => At w' g (12 + u * 3) [.bool (X.wr (3 * u)), .bool (X.wr (3 * u + 1)), .bool (X.wr (3 * u + 2))]) [(0, 4), (1, 4), (2, 4), (3, 4), (4, 4), (5, 4), (7, 4), (8, 4), (6, 0), (9, 4), (10, 3)] (by kernel_rfl) (by kernel_rfl) (fun _ _ _ _ _ h => h) (HT4'.out.drew.rowW hu) ?_
   iterate 8 (refine Text.purek rfl rfl (fun K hK => ⟨_, fun w' => by go_simp <;> rfl, ?_⟩); go_simp; refine hK _ ?_; clear hK K)
   refine Text.heldk rfl rfl (fun K hK => ?_)
   refine ⟨_, fun w' hw' => exec_loadv 48 (.tmp 301) rfl 3 (by kernel_rfl) g (12 + u * 3) _ rfl hw' rfl, ?_⟩
   go_simp
   refine hK _ ?_
   clear hK K
   (refine Text.purek rfl rfl (fun K hK => ⟨_, fun w' => by go_simp <;> rfl, ?_⟩); go_simp; refine hK _ ?_; clear hK K)
   refine Text.last rfl rfl (fun K hK => ?_)
   refine wp_storev 48 (.tmp 305) (.tmp 302) rfl 3 (by kernel_rfl) g 18 _ _ [.bool (X.wr (3 * u)), .bool (X.wr (3 * u + 1)), .bool (X.wr (3 * u + 2))] rfl rfl HT4'.out.drew.bl rfl (one_val _ rfl) (by rw [tCs_len]; omega) ?_
   intro w5 y1 y2 y3
   rw [splice_wr] at y1
   have HT5 := Lib.hid (HT4'.out.drew.put y1 y2 rfl)
   clear y1 y2 y3
   refine hK _ _ ?_
   clear hK K
   refine Text.done ?_
   go_wp2_with fail
   refine Text.wp_region_text (fun w' => At w' g (3 + u * 3) [.int .i64 ((X.vw (3 * u) : Nat) : Int), .int .i64 ((X.vw (3 * u + 1) : Nat) : Int), .int .i64 ((X.vw (3 * u + 2) : Nat) : Int)]) [(0, 4), (1, 4), (2, 4), (3, 4), (4, 4), (5, 4), (7, 4), (8, 4), (6, 0), (9, 4), (10, 3)] (by kernel_rfl) (by kernel_rfl) (fun _ _ _ _ _ h => h) (HT5.out.drew.rowV hu) ?_
   iterate 8 (refine Text.purek rfl rfl (fun K hK => ⟨_, fun w' => by go_simp <;> rfl, ?_⟩); go_simp; refine hK _ ?_; clear hK K)
   refine Text.heldk rfl rfl (fun K hK => ?_)
   refine ⟨_, fun w' hw' => exec_loadv 46 (.tmp 311) rfl 3 (by kernel_rfl) g (3 + u * 3) _ rfl hw' rfl, ?_⟩
   go_simp
   refine hK _ ?_
   clear hK K
   (refine Text.purek rfl rfl (fun K hK => ⟨_, fun w' => by go_simp <;> rfl, ?_⟩); go_simp; refine hK _ ?_; clear hK K)
   refine Text.last rfl rfl (fun K hK => ?_)
   refine wp_storev 46 (.tmp 315) (.tmp 312) rfl 3 (by kernel_rfl) g 9 _ _ [.int .i64 ((X.vw (3 * u) : Nat) : Int), .int .i64 ((X.vw (3 * u + 1) : Nat) : Int), .int .i64 ((X.vw (3 * u + 2) : Nat) : Int)] rfl rfl HT5.out.drew.bl rfl (one_val _ rfl) (by rw [tCs_len]; omega) ?_
   intro w6 y1 y2 y3
   rw [show splice (tCs { X with wr := fun i => if inRow 3 2 3 i then X.wr (3 * u + (i - 6)) else X.wr i } v) 9 [.int .i64 ((X.vw (3 * u) : Nat) : Int), .int .i64 ((X.vw (3 * u + 1) : Nat) : Int), .int .i64 ((X.vw (3 * u + 2) : Nat) : Int)] = _ from splice_vw { X with wr := fun i => if inRow 3 2 3 i then X.wr (3 * u + (i - 6)) else X.wr i } v u] at y1
   have HT6 := Lib.hid (HT5.out.drew.put y1 y2 rfl)
   clear y1 y2 y3
   refine hK _ _ ?_
   clear hK K
   refine Text.done ?_
   go_wp2_with fail
   go_ret
   refine ⟨rfl, v, ?_⟩
   rw [HC.out, ← HXA.out]
   exact HT6.out
end
end Go.Proofs.YtfonbliomokffaaGreat
