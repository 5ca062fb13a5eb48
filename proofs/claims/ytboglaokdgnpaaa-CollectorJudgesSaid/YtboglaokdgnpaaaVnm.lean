/- What a plan deletes, forgets and proposes, plainly. -/
import Derived.Test.YtboglaokdgnpaaaVmm
namespace Go.Proofs.Ytboglaokdgnpaaa
open Go Gf

def delK (l : List Stp) : List Pc := (l.filter fun t => decide (t.kind = 3)).map (·.pc)
def kindK (z : Int) (l : List Stp) : List (List UInt8) := (l.filter fun t => decide (t.kind = z)).flatMap (·.sts)
theorem delK_step {l : List Stp} {k : Nat} {t : Stp} (h : l[k]? = some t) : delK (l.take (k + 1)) = delK (l.take k) ++ (if t.kind = 3 then [t.pc] else []) := by
 have := filtmap_step (p := fun t : Stp => decide (t.kind = 3)) (f := (·.pc)) h
 unfold delK
 rw [this]
 by_cases e : t.kind = 3 <;> simp [e]
theorem kindK_append (z : Int) (l m : List Stp) : kindK z (l ++ m) = kindK z l ++ kindK z m := by
 unfold kindK; rw [List.filter_append, List.flatMap_append]
theorem kindK_step {z : Int} {l : List Stp} {k : Nat} {t : Stp} (h : l[k]? = some t) : kindK z (l.take (k + 1)) = kindK z (l.take k) ++ (if t.kind = z then t.sts else []) := by
 rw [take_next h, kindK_append]
 congr 1
 unfold kindK
 by_cases e : t.kind = z <;> simp [e]
theorem kindK_len (z : Int) (l : List Stp) (k : Nat) : (kindK z (l.take k)).length ≤ (kindK z l).length := by
 have e : kindK z l = kindK z (l.take k) ++ kindK z (l.drop k) := by rw [← kindK_append, List.take_append_drop]
 rw [e, List.length_append]; omega
theorem delK_plan (x : Si) : delK (planL x) = x.held.filter fun p => hasB x.drop p.1 := by
 have e1 : delK (dels x x.held) = x.held.filter fun p => hasB x.drop p.1 := by
  unfold delK dels
  rw [List.filter_eq_self.2 (fun t ht => by obtain ⟨p, _, rfl⟩ := List.mem_map.1 ht; rfl), List.map_map]
  exact List.map_id _
 have e2 : delK ([fgStp x, rwStp x, prStp x].filter neS) = [] := by
  unfold delK
  rw [List.filter_eq_nil_iff.2 (fun t ht => by
   have := (List.mem_filter.1 ht).1
   simp only [List.mem_cons, List.not_mem_nil, or_false] at this
   rcases this with rfl | rfl | rfl <;> simp [fgStp, rwStp, prStp])]
  rfl
 have e3 : delK (dels x x.held ++ [fgStp x, rwStp x, prStp x].filter neS) = delK (dels x x.held) ++ delK ([fgStp x, rwStp x, prStp x].filter neS) := by
  unfold delK; rw [List.filter_append, List.map_append]
 rw [planL, e3, e1, e2, List.append_nil]
theorem kindK_dels (x : Si) {z : Int} (hz : z ≠ 3) : kindK z (dels x x.held) = [] := by
 unfold kindK
 rw [List.filter_eq_nil_iff.2 (fun t ht => by
  obtain ⟨p, _, rfl⟩ := List.mem_map.1 ht
  simpa using fun e => hz e.symm)]
 rfl
theorem kindK_ne (z : Int) (l : List Stp) : kindK z (l.filter neS) = kindK z l := by
 unfold kindK
 induction l with
 | nil => rfl
 | cons a l ih =>
  by_cases h : neS a = true
  ·
   rw [List.filter_cons_of_pos h]
   by_cases e : a.kind = z
   ·
    rw [List.filter_cons_of_pos (by simpa using e), List.filter_cons_of_pos (by simpa using e), List.flatMap_cons, List.flatMap_cons, ih]
   ·
    rw [List.filter_cons_of_neg (by simpa using e), List.filter_cons_of_neg (by simpa using e), ih]
  ·
   rw [List.filter_cons_of_neg h, ih]
   by_cases e : a.kind = z
   ·
    rw [List.filter_cons_of_pos (a := a) (by simpa using e), List.flatMap_cons, neS_nil (by simpa using h)]; rfl
   ·
    rw [List.filter_cons_of_neg (a := a) (by simpa using e)]
theorem fg_plan (x : Si) : kindK 4 (planL x) = fgIds x x.sp := by
 rw [planL, kindK_append, kindK_dels x (by decide), kindK_ne]
 simp [kindK, fgStp, rwStp, prStp]
theorem pr_plan (x : Si) : kindK 2 (planL x) = ssort (pRun x x.sp).2 := by
 rw [planL, kindK_append, kindK_dels x (by decide), kindK_ne]
 simp [kindK, fgStp, rwStp, prStp]
theorem fg_has {x : Si} {s : Sp} (hs : s ∈ x.sp) : hasB (fgIds x x.sp) s.id = hasB x.drop s.id := by
 rw [Bool.eq_iff_iff, hasB_mem]
 constructor
 ·
  intro h
  obtain ⟨t, ht, he⟩ := List.mem_map.1 h
  rw [← he]; exact (List.mem_filter.1 ht).2
 ·
  intro h
  exact List.mem_map.2 ⟨s, List.mem_filter.2 ⟨hs, h⟩, rfl⟩
theorem pr_live {x : Si} (hv : siB x = true) {y : List UInt8} (hy : hasB (ssort (pRun x x.sp).2) y = true) : liveB x y = true := by
 rw [hasB_sort, hasB_mem] at hy
 have ps := (pInv_end hv).sub
 rw [List.take_length] at ps
 obtain ⟨t, _, rfl, hg⟩ := ps y hy
 exact live_of_give hg
theorem pr_cond {x : Si} (hv : siB x = true) {y : List UInt8} (hc : hasB x.cond y = true) : hasB (ssort (pRun x x.sp).2) y = false := by
 cases h : hasB (ssort (pRun x x.sp).2) y with
 | false => rfl
 | true =>
  have := pr_live hv h
  simp [liveB, hc] at this
theorem pr_un {x : Si} : ∀ k, ∀ s ∈ x.sp.take k, unneedB x s = true → s.id ∈ (pRun x (x.sp.take k)).2
 | 0 => fun s hs => by simp at hs
 | k + 1 => fun s hs hu => by
  by_cases hk : k < x.sp.length
  ·
   have ht := List.getElem?_eq_getElem hk
   have hstep : pRun x (x.sp.take (k + 1)) = pStep x (pRun x (x.sp.take k)) x.sp[k] := by rw [take_next ht, pRun_step]
   rw [hstep]
   rw [take_next ht, List.mem_append, List.mem_singleton] at hs
   rcases hs with hs | rfl
   ·
    have ih := pr_un k s hs hu
    unfold pStep
    split
    ·
     split
     ·
      exact List.mem_append.2 (.inl ih)
     ·
      exact ih
    ·
     exact ih
   ·
    have hup : pUp x (pRun x (x.sp.take k)).1 x.sp[k] = true := by
     unfold pUp
     rw [List.all_eq_true]
     intro r hr
     have hw : wanted x x.sp[k] = [] := by
      simp only [unneedB, Bool.and_eq_true] at hu
      simpa using hu.2
     have := List.filter_eq_nil_iff.1 hw r hr
     unfold pOk
     rw [show hasB x.need r.1 = false from by simpa using this]; rfl
    unfold pStep
    rw [hu, Bool.true_or, if_pos rfl, hup, if_pos rfl]
    exact List.mem_append.2 (.inr (List.mem_singleton.2 rfl))
  ·
   have e : x.sp.take (k + 1) = x.sp.take k := by rw [List.take_of_length_le (by omega), List.take_of_length_le (by omega)]
   rw [e] at hs ⊢
   exact pr_un k s hs hu
theorem pr_unneed {x : Si} {id : List UInt8} (h : id ∈ unneedL x) : hasB (ssort (pRun x x.sp).2) id = true := by
 obtain ⟨s, hs, rfl⟩ := List.mem_map.1 h
 rw [List.mem_filter] at hs
 rw [hasB_sort, hasB_mem]
 have := pr_un (x := x) x.sp.length s (by rw [List.take_length]; exact hs.1) hs.2
 rwa [List.take_length] at this
theorem filt_at {α : Type} {l : List α} {p : α → Bool} {k : Nat} {a : α} (h : l[k]? = some a) (hp : p a = true) : (l.filter p)[((l.take k).filter p).length]? = some a := by
 have hk := (List.getElem?_eq_some_iff.1 h).1
 have e : l = l.take k ++ a :: l.drop (k + 1) := by
  have := List.take_append_drop k l
  rw [List.drop_eq_getElem_cons hk] at this
  rw [show l[k] = a from (List.getElem?_eq_some_iff.1 h).2] at this
  exact this.symm
 have e2 : l.filter p = (l.take k).filter p ++ a :: (l.drop (k + 1)).filter p := by
  conv => lhs; rw [e]
  rw [List.filter_append, List.filter_cons_of_pos hp]
 rw [e2, List.getElem?_append_right (Nat.le_refl _), Nat.sub_self]
 rfl
end Go.Proofs.Ytboglaokdgnpaaa
