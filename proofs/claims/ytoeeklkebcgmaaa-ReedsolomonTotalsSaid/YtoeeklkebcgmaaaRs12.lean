/- Contracts of package reedsolomon: the closure inside fits. -/
import Derived.Test.YtoeeklkebcgmaaaBits
namespace Go.Proofs.Ytoeeklkebcgmaaa
open Go.RowKit Gf

attribute [local go_sem] Gf.xor_bits Gf.and_bits Gf.or_bits Gf.ne_zero_iff Gf.eq_zero_iff Gf.eq_one_iff Gf.beq_bytes Gf.bne_bytes Gf.bv_toNat

set_option maxHeartbeats 4000000 in
theorem fits1_any (gs gf gp gl : Nat) (s a b : UInt8) (j p : Nat) (g1 o1 d c1 g2 o2 n c g3 o3 L c3 : Nat) (w : World)
    (hs : w.cell? ⟨gs, 0, none⟩ = some (B s)) (hfz : w.frozen? ⟨gs, 0, none⟩ = false) (hf : w.cell? ⟨gf, 0, none⟩ = some (.slice (some ⟨g1, o1, none⟩) d c1)) (hfj : w.cell? ⟨g1, o1 + j, none⟩ = some (B a))
    (hp : w.cell? ⟨gp, 0, none⟩ = some (.slice (some ⟨g2, o2, none⟩) n c)) (hpj : w.cell? ⟨g2, o2 + j, none⟩ = some (.slice (some ⟨g3, o3, none⟩) L c3)) (hl : w.cell? ⟨gl, 0, none⟩ = some (.int .i64 (p : Int)))
    (hb : w.cell? ⟨g3, o3 + p, none⟩ = some (B b)) (hj : j < d) (hjn : j < n) (hpL : p < L) :
    Calls Try.prog 59 #[.int .i64 (j : Int), .pointer (some ⟨gs, 0, none⟩), .pointer (some ⟨gf, 0, none⟩), .pointer (some ⟨gp, 0, none⟩), .pointer (some ⟨gl, 0, none⟩)] w
      fun e w' => e = .returned (.tuple #[]) ∧ w' = (w.setCell ⟨gs, 0, none⟩ (B (s ^^^ mul a b))).drew := by
  go_enter Try.func59, Try.ntmps59
  go_wp2_with fail
  refine Text.wp_region_text (fun _ => True) [(2, 4), (6, 4), (0, 1), (1, 1), (3, 4), (4, 1), (5, 1), (7, 4), (8, 1), (9, 1), (10, 4), (11, 1), (12, 1), (13, 4), (14, 2)] (by kernel_rfl) (by kernel_rfl) (fun _ _ _ _ _ h => h) (trivial) ?_
  iterate 2 (refine Text.purek rfl rfl (fun K hK => ⟨_, fun w' => by go_simp <;> rfl, ?_⟩); go_simp; refine hK _ ?_; clear hK K)
  iterate 2 (refine Text.readk rfl rfl (fun K hK => ⟨_, by go_simp <;> rfl, ?_⟩); go_simp; refine hK _ ?_; clear hK K)
  (refine Text.purek rfl rfl (fun K hK => ⟨_, fun w' => by go_simp <;> rfl, ?_⟩); go_simp; refine hK _ ?_; clear hK K)
  iterate 2 (refine Text.readk rfl rfl (fun K hK => ⟨_, by go_simp <;> rfl, ?_⟩); go_simp; refine hK _ ?_; clear hK K)
  (refine Text.purek rfl rfl (fun K hK => ⟨_, fun w' => by go_simp <;> rfl, ?_⟩); go_simp; refine hK _ ?_; clear hK K)
  iterate 2 (refine Text.readk rfl rfl (fun K hK => ⟨_, by go_simp <;> rfl, ?_⟩); go_simp; refine hK _ ?_; clear hK K)
  (refine Text.purek rfl rfl (fun K hK => ⟨_, fun w' => by go_simp <;> rfl, ?_⟩); go_simp; refine hK _ ?_; clear hK K)
  (refine Text.readk rfl rfl (fun K hK => ⟨_, by go_simp <;> rfl, ?_⟩); go_simp; refine hK _ ?_; clear hK K)
  refine Text.quietk rfl rfl (fun K hK => ?_)
  refine ⟨_, _, _, by go_simp <;> rfl, mul_any a b _, ?_⟩
  go_simp
  refine hK _ ?_
  clear hK K
  (refine Text.purek rfl rfl (fun K hK => ⟨_, fun w' => by go_simp <;> rfl, ?_⟩); go_simp; refine hK _ ?_; clear hK K)
  refine Text.eff rfl rfl (fun K hK => ?_)
  go_simp
  refine hK _ _ trivial ?_
  clear hK K
  refine Text.done ?_
  go_end0
  exact ⟨rfl, rfl⟩
end Go.Proofs.Ytoeeklkebcgmaaa
