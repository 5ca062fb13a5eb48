/- Several texts in one: La, Lb. -/
import Derived.Test.YtklfficlegfhjaaC6
/- The reference's Find and Device. -/
namespace Go.Proofs.Ytklfficlegfhjaa
open Go Go.RowKit Gf Sha

theorem gfi_hit {α : Type} {q : α → Bool} {l : List α} (h : 0 ≤ gfi q l) : ∃ v ∈ l, q v = true := by
  unfold gfi at h
  cases hf : l.findIdx? q with
  | none => rw [hf] at h; simp at h
  | some k =>
    obtain ⟨hk, h1, _⟩ := List.findIdx?_eq_some_iff_getElem.1 hf
    exact ⟨_, List.getElem_mem hk, h1⟩
theorem gfi_miss {α : Type} {q : α → Bool} {l : List α} (h : ¬ 0 ≤ gfi q l) : ∀ v ∈ l, q v = false := by
  unfold gfi at h
  cases hf : l.findIdx? q with
  | none => exact List.findIdx?_eq_none_iff.1 hf
  | some k => rw [hf] at h; simp at h
theorem fdI_gfi (ws : List Wt) (s : List UInt8) : fdI ws s = gfi (fun w => decide (w.st = s)) ws := rfl
theorem fdI_hit {ws : List Wt} {s : List UInt8} (h : 0 ≤ fdI ws s) : ∃ v ∈ ws, v.st = s := let ⟨v, h1, h2⟩ := gfi_hit h; ⟨v, h1, of_decide_eq_true h2⟩
theorem fdI_miss {ws : List Wt} {s : List UInt8} (h : ¬ fdI ws s ≥ 0) : ∀ v ∈ ws, v.st ≠ s := fun v hv => of_decide_eq_false (gfi_miss h v hv)
theorem hxI_hit {hs : List Hd} {d : Int} (h : 0 ≤ hxI hs d) : ∃ v ∈ hs, v.dv = d := let ⟨v, h1, h2⟩ := gfi_hit h; ⟨v, h1, of_decide_eq_true h2⟩
theorem hxI_miss {hs : List Hd} {d : Int} (h : ¬ hxI hs d ≥ 0) : ∀ v ∈ hs, v.dv ≠ d := fun v hv => of_decide_eq_false (gfi_miss h v hv)
section
set_option maxRecDepth 100000
set_option maxHeartbeats 2000000
theorem idx_gfi {α : Type} {p : α → Bool} {L : List α} {r : Int} (h : idxP p L r) : gfi p L = r := (idx_of p L r h).symm
end
end Go.Proofs.Ytklfficlegfhjaa
/- The reference's Wants and Holders. (Printed by wip/gen_lb.py.) -/
namespace Go.Proofs.Ytklfficlegfhjaa
open Go Go.RowKit Gf Sha

theorem rplZero : (Try.prog.info? 63).map (·.zero) = some (some (.agg plZ.toArray)) := by kernel_rfl
section
set_option maxRecDepth 100000
set_option maxHeartbeats 4000000

end
end Go.Proofs.Ytklfficlegfhjaa
