/- The reference's Greater. -/
import Derived.Test.YtklfficlegfhjaaGreatLum
namespace Go.Proofs.YtklfficlegfhjaaGreat
open Go Go.RowKit Gf Sha

theorem great_eq (x : Int) (l k : List Int) : greaterB (x :: l) (x :: k) = greaterB l k := by
 rw [greaterB, if_pos rfl]
theorem great_ne {x y : Int} (h : x ≠ y) (l k : List Int) : greaterB (x :: l) (y :: k) = decide (y < x) := by
 rw [greaterB, if_neg h]
theorem drop_at {α : Type} {l : List α} {i : Nat} {x : α} (h : l[i]? = some x) : l.drop i = x :: l.drop (i + 1) := by
 obtain ⟨hl, rfl⟩ := List.getElem?_eq_some_iff.1 h
 exact List.drop_eq_getElem_cons hl
set_option maxRecDepth 100000 in
set_option maxHeartbeats 4000000 in
theorem rgreat_any (A : Option Addr) (n c : Nat) (a : List Int) (B : Option Addr) (d : Nat) (b : List Int) (w : World) (ha : LS rInt 1 8 w A n c a) (hb : LS rInt 1 8 w B n d b) :
  Calls Tryz.prog 74 #[.slice A n c, .slice B n d] w fun e w' => e = .returned (.bool (greaterB a b)) ∧ Below w.heap.size w w' := by
 have hn := ha.len_le
 have HA := Lib.hid ha
 have HB := Lib.hid hb
 have HLA := Lib.hid ha.1
 clear ha hb
 go_enter Tryz.func74, Tryz.ntmps74
 go_wp2_with fail
 go_loopw [5] (fun iv wr => ∃ i : Nat, i ≤ n ∧ iv = .int .i64 (i : Int) ∧ Hid (greaterB a b = greaterB (a.drop i) (b.drop i)) ∧ Hid (Below w.heap.size w wr)) (fun iv _ => n - (intOf iv).toNat)
 case atStart => exact ⟨0, by omega, rfl, Lib.hid (by simp), Lib.hid (Below.refl _ _)⟩
 case round =>
  obtain ⟨i, hi, rfl, hg, hb⟩ := hrel
  obtain ⟨wx, hwx⟩ : ∃ x, x = wr := ⟨_, rfl⟩
  rw [← hwx] at hb ⊢
  clear hwx
  by_cases hlt : i < n
  ·
   obtain ⟨x, ga, oa, hx, ea, q0⟩ := HA.out.int_at hb.out hlt
   obtain ⟨y, gb, ob, hy, eb, q1⟩ := HB.out.int_at hb.out hlt
   have HDX := Lib.hid (drop_at hx)
   have HDY := Lib.hid (drop_at hy)
   subst ea eb
   clear hx hy
   by_cases h1 : x = y
   ·
    have f1 : (x != y) = false := by rw [h1]; exact bne_self_eq_false y
    have HF : Hid (greaterB a b = greaterB (a.drop (i + 1)) (b.drop (i + 1))) := Lib.hid (by rw [hg.out, HDX.out, HDY.out, h1, great_eq])
    clear h1
    go_wp2_with fail
    refine Text.wp_region_text (fun _ => True) [(0, 4), (1, 4), (2, 4), (4, 4), (5, 4), (6, 4), (3, 1), (7, 1), (8, 4)] (by kernel_rfl) (by kernel_rfl) (fun _ _ _ _ _ h => h) (trivial) ?_
    iterate 6 (refine Text.purek rfl rfl (fun K hK => ⟨_, fun w' => by go_simp <;> rfl, ?_⟩); go_simp; refine hK _ ?_; clear hK K)
    iterate 2 (refine Text.readk rfl rfl (fun K hK => ⟨_, by go_simp <;> rfl, ?_⟩); go_simp; refine hK _ ?_; clear hK K)
    (refine Text.purek rfl rfl (fun K hK => ⟨_, fun w' => by go_simp <;> rfl, ?_⟩); go_simp; refine hK _ ?_; clear hK K)
    refine Text.done ?_
    go_wp2_with fail
    go_roundw
    case rel => exact ⟨i + 1, by omega, by go_num, HF, Lib.hid hb.out.drew⟩
    case measure => simp [intOf]; omega
   ·
    have f1 : (x != y) = true := by rw [bne_iff_ne]; exact h1
    have HF : Hid (greaterB a b = decide (x > y)) := Lib.hid (by rw [hg.out, HDX.out, HDY.out, great_ne h1])
    clear h1
    go_wp2_with fail
    refine Text.wp_region_text (fun _ => True) [(0, 4), (1, 4), (2, 4), (4, 4), (5, 4), (6, 4), (3, 1), (7, 1), (8, 4)] (by kernel_rfl) (by kernel_rfl) (fun _ _ _ _ _ h => h) (trivial) ?_
    iterate 6 (refine Text.purek rfl rfl (fun K hK => ⟨_, fun w' => by go_simp <;> rfl, ?_⟩); go_simp; refine hK _ ?_; clear hK K)
    iterate 2 (refine Text.readk rfl rfl (fun K hK => ⟨_, by go_simp <;> rfl, ?_⟩); go_simp; refine hK _ ?_; clear hK K)
    (refine Text.purek rfl rfl (fun K hK => ⟨_, fun w' => by go_simp <;> rfl, ?_⟩); go_simp; refine hK _ ?_; clear hK K)
    refine Text.done ?_
    go_wp2_with fail
    refine Text.wp_region_text (fun _ => True) [(0, 4), (1, 4), (2, 4), (4, 4), (5, 4), (6, 4), (3, 1), (7, 1), (8, 4), (9, 4)] (by kernel_rfl) (by kernel_rfl) (fun _ _ _ _ _ h => h) (trivial) ?_
    iterate 6 (refine Text.purek rfl rfl (fun K hK => ⟨_, fun w' => by go_simp <;> rfl, ?_⟩); go_simp; refine hK _ ?_; clear hK K)
    iterate 2 (refine Text.readk rfl rfl (fun K hK => ⟨_, by go_simp <;> rfl, ?_⟩); go_simp; refine hK _ ?_; clear hK K)
    iterate 2 (refine Text.purek rfl rfl (fun K hK => ⟨_, fun w' => by go_simp <;> rfl, ?_⟩); go_simp; refine hK _ ?_; clear hK K)
    refine Text.done ?_
    go_wp2_with fail
    go_ret
    exact ⟨by rw [HF.out]; rfl, hb.out.drew.drew⟩
  ·
   obtain rfl : i = n := by omega
   have HF : Hid (greaterB a b = false) := Lib.hid (by rw [hg.out, List.drop_eq_nil_of_le (by rw [HLA.out]; exact Nat.le_refl _)]; rfl)
   go_wp2_with fail
   go_ret
   exact ⟨by rw [HF.out]; rfl, hb.out⟩
end Go.Proofs.YtklfficlegfhjaaGreat
