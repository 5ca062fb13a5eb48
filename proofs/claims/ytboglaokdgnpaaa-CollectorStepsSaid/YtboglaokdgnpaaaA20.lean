/- Several texts in one: Sl, Smm. -/
import Derived.Test.YtboglaokdgnpaaaA19
/- Uncovered, Unneeded, Sparse of the program. -/
namespace Go.Proofs.Ytboglaokdgnpaaa
open Go Go.RowKit Gf Sha

theorem plF_isSome {l : List Sp} {s : Sp} (h : s ∈ l) : (plF l s.id).isSome = true := by
 unfold plF
 rw [List.findIdx?_isSome]
 exact List.any_eq_true.2 ⟨s, h, by simp⟩
theorem st0_live {x : Si} {s : Sp} (h : s ∈ x.sp) : liveT (st0 x) s.id = liveB x s.id := by
 show ((plF x.sp s.id).isSome && (!hasB x.cond s.id && !hasB x.drop s.id)) = _
 rw [plF_isSome h]; rfl
theorem cnt_pos (l : List Rf) (n : List UInt8) : decide (0 < cntN l n) = l.any fun r => r.1 == n := by
 unfold cntN
 cases h : l.any fun r => r.1 == n with
 | true =>
  obtain ⟨r, hr, he⟩ := List.any_eq_true.1 h
  have hm : r ∈ l.filter fun r : Rf => r.1 == n := List.mem_filter.2 ⟨hr, by simpa using he⟩
  have := List.length_pos_of_mem hm
  exact decide_eq_true (by omega)
 | false =>
  have : (l.filter fun r => r.1 == n) = [] := List.filter_eq_nil_iff.2 (fun r hr => by
   have := List.any_eq_false.1 h r hr
   simpa using this)
  rw [this]; rfl
end Go.Proofs.Ytboglaokdgnpaaa
/- Unneeded and Sparse of the program. -/
namespace Go.Proofs.Ytboglaokdgnpaaa
open Go Go.RowKit Gf Sha
theorem szOk_of {l : List Rf} (h1 : l.length ≤ 1000) (h : ∀ r ∈ l, rfB r = true) : szOk l := ⟨h1, fun r hr => by
 have := h r hr
 simp only [rfB, Bool.and_eq_true, decide_eq_true_eq] at this
 exact ⟨this.2.2.1, this.2.2.2⟩⟩
theorem siB_pct {x : Si} (h : siB x = true) : 0 ≤ x.pct ∧ x.pct ≤ 100 := by
 simp only [siB, Bool.and_eq_true, decide_eq_true_eq] at h; exact ⟨h.2.2.2.2.2.2.1, h.2.2.2.2.2.2.2⟩
theorem st0_unneed {x : Si} {s : Sp} : (liveB x s.id && useU (st0 x) s.refs) = unneedB x s := rfl
theorem st0_sparse {x : Si} {s : Sp} : (liveB x s.id && useS (st0 x) x.pct s.refs) = sparseB x s := rfl
theorem filtmap_step {α β : Type} {l : List α} {p : α → Bool} {f : α → β} {k : Nat} {x : α} (h : l[k]? = some x) : ((l.take (k + 1)).filter p).map f = ((l.take k).filter p).map f ++ (if p x then [f x] else []) := by
 rw [filt_step h, List.map_append]
 by_cases hp : p x = true
 ·
  simp [hp]
 ·
  simp [hp]

end Go.Proofs.Ytboglaokdgnpaaa
