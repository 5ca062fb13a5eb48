/- The reference's plan is the program's plan, plainly. -/
import Derived.Test.YtboglaokdgnpaaaWhm
import Derived.Test.YtboglaokdgnpaaaVnm
namespace Go.Proofs.Ytboglaokdgnpaaa
open Go Gf

/-- Another live stripe has the name. -/
def oth2 (x : Si) (s : Sp) (n : List UInt8) (t : Sp) : Bool := !decide (t.id = s.id) && (liveB x t.id && inB t n)
def alR (x : Si) (s : Sp) : List Rf := (wanted x s).filter fun r => !x.sp.any (oth2 x s r.1)
theorem cntN_one {s : Sp} (h : (s.refs.map (·.1)).Nodup) {n : List UInt8} (hn : inB s n = true) : cntN s.refs n = 1 := by
 have h1 : 0 < cntN s.refs n := by
  have := cnt_pos s.refs n
  rw [show (s.refs.any fun r => r.1 == n) = true from hn] at this
  simpa using this
 have h2 : (s.refs.filter fun r : Rf => r.1 == n).length = (s.refs.map (·.1)).count n := by
  rw [List.count_eq_length_filter, List.filter_map, List.length_map]; rfl
 have h3 := List.nodup_iff_count.1 h n
 unfold cntN at h1 ⊢
 omega
theorem cnt_flat {l : List Sp} {p : Sp → Bool} {n : List UInt8} : 0 < cntN ((l.filter p).flatMap (·.refs)) n ↔ ∃ t ∈ l, p t = true ∧ inB t n = true := by
 rw [cnt_has]
 constructor
 ·
  rintro ⟨r, hr, he⟩
  obtain ⟨t, ht, hr⟩ := List.mem_flatMap.1 hr
  obtain ⟨ht, hp⟩ := List.mem_filter.1 ht
  exact ⟨t, ht, hp, List.any_eq_true.2 ⟨r, hr, by simpa using he⟩⟩
 ·
  rintro ⟨t, ht, hp, hi⟩
  obtain ⟨r, hr, he⟩ := List.any_eq_true.1 hi
  exact ⟨r, List.mem_flatMap.2 ⟨t, List.mem_filter.2 ⟨ht, hp⟩, hr⟩, by simpa using he⟩
theorem sp_names {x : Si} (hv : siB x = true) {s : Sp} (hs : s ∈ x.sp) : (s.refs.map (·.1)).Nodup := by
 obtain ⟨j, hj⟩ := List.mem_iff_getElem?.1 hs
 exact okB_nodup (spB_refs (okB_at (siB_sp hv) hj)).2.1
theorem in_mem {s : Sp} {r : Rf} (h : r ∈ s.refs) : inB s r.1 = true := List.any_eq_true.2 ⟨r, h, by simp⟩
theorem alone_eq {x : Si} (hv : siB x = true) {s : Sp} (hs : s ∈ x.sp) (hl : liveB x s.id = true) : alR x s = aloneT (st0 x) s := by
 unfold alR aloneT wanted
 rw [List.filter_filter]
 refine List.filter_congr fun r hr => ?_
 have hn : (st0 x).need r.1 = hasB x.need r.1 := rfl
 have hm : (st0 x).nam r.1 = cntN (liveRefs x x.sp) r.1 := rfl
 rw [hn, hm, Bool.and_comm]
 congr 1
 have h1 := lose_one (p := fun t => liveB x t.id) (q := fun t => liveB x t.id && !(t.id == s.id)) hs (siB_ids hv) hl (fun t => rfl) (fun l => cntN l r.1) (fun a b => cntN_append a b r.1)
 have h2 := cntN_one (sp_names hv hs) (in_mem hr)
 have h3 := cnt_flat (l := x.sp) (p := fun t => liveB x t.id && !(t.id == s.id)) (n := r.1)
 have h4 := cntN_le ((x.sp.filter fun t => liveB x t.id && !(t.id == s.id)).flatMap (·.refs)) r.1
 have h5 : cntN (liveRefs x x.sp) r.1 = cntN ((x.sp.filter fun t => liveB x t.id && !(t.id == s.id)).flatMap (·.refs)) r.1 + 1 := by
  simp only at h1
  unfold liveRefs
  omega
 rw [h5]
 cases ho : x.sp.any (oth2 x s r.1) with
 | true =>
  obtain ⟨t, ht, h6⟩ := List.any_eq_true.1 ho
  simp only [oth2, Bool.and_eq_true, Bool.not_eq_true', decide_eq_false_iff_not] at h6
  have := h3.2 ⟨t, ht, by rw [h6.2.1]; simpa using h6.1, h6.2.2⟩
  exact (decide_eq_false (by omega)).symm
 | false =>
  have h6 : ¬ 0 < cntN ((x.sp.filter fun t => liveB x t.id && !(t.id == s.id)).flatMap (·.refs)) r.1 := fun h => by
   obtain ⟨t, ht, hp, hi⟩ := h3.1 h
   have h7 := List.any_eq_false.1 ho t ht
   simp only [Bool.and_eq_true, Bool.not_eq_true', beq_eq_false_iff_ne, ne_eq] at hp
   exact h7 (by simp [oth2, hp.1, hp.2, hi])
  exact (decide_eq_true (by omega)).symm
/-- Behind the first stripes: the same names, ascending. -/
structure GInv (x : Si) (k : Nat) : Prop where
 asc : (givRun x (x.sp.take k)).Pairwise (· < ·)
 mem : ∀ y, y ∈ givRun x (x.sp.take k) ↔ y ∈ (pRun x (x.sp.take k)).2
theorem ok_same {x : Si} (hv : siB x = true) {s : Sp} (hs : s ∈ x.sp) (hl : liveB x s.id = true) {f : List UInt8 → Int} {G out : List (List UInt8)} (hf : ∀ n, f n = cntN (cfG x G) n) (hG : s.id ∉ G) (hm : ∀ y, y ∈ out ↔ y ∈ G) : givOk x out s = pUp x f s := by
 have hb : ∀ y, hasB out y = hasB G y := fun y => by rw [Bool.eq_iff_iff, hasB_mem, hasB_mem]; exact hm y
 unfold givOk pUp wanted
 rw [List.all_filter]
 refine List.all_congr rfl fun r => ?_
 unfold pOk
 congr 1
 have h1 := cfG_snoc hv hs hl G (hasB_no.2 hG) r.1
 rw [← hf, ← pTake_eq] at h1
 rw [← h1, Bool.eq_iff_iff, decide_eq_true_eq]
 unfold cfG
 rw [cnt_flat, List.any_eq_true]
 have key : ∀ t, othB x out s r.1 t = true ↔ ((liveB x t.id && hasB x.carr t.id) && !hasB (G ++ [s.id]) t.id) = true ∧ inB t r.1 = true := fun t => by
  unfold othB
  rw [hb, hasB_snoc]
  simp only [Bool.and_eq_true, Bool.not_eq_true', decide_eq_false_iff_not, Bool.or_eq_false_iff, beq_eq_false_iff_ne, ne_eq]
  constructor
  ·
   rintro ⟨a, b, c, d, e⟩
   exact ⟨⟨⟨b, d⟩, e, fun h => a h.symm⟩, c⟩
  ·
   rintro ⟨⟨⟨b, d⟩, e, a⟩, c⟩
   exact ⟨fun h => a h.symm, b, c, d, e⟩
 constructor
 ·
  rintro ⟨t, ht, h⟩
  exact ⟨t, ht, (key t).1 h⟩
 ·
  rintro ⟨t, ht, h⟩
  exact ⟨t, ht, (key t).2 h⟩
theorem gInv {x : Si} (hv : siB x = true) : ∀ k, GInv x k
 | 0 => ⟨by rw [List.take_zero]; exact List.Pairwise.nil, fun y => by rw [List.take_zero]; rfl⟩
 | k + 1 => by
  have ih := gInv hv k
  by_cases hk : k < x.sp.length
  ·
   have hs := List.getElem?_eq_getElem hk
   obtain ⟨s, hse⟩ : ∃ s, s = x.sp[k] := ⟨_, rfl⟩
   rw [← hse] at hs
   have hmem := List.mem_of_getElem? hs
   have pi := pInv hv k
   have hfresh : s.id ∉ (pRun x (x.sp.take k)).2 := fun hm => by
    obtain ⟨t, ht, he, _⟩ := pi.sub _ hm
    have h9 := okB_fresh (siB_sp hv) hs
    exact absurd (List.any_eq_false.1 h9 t ht) (by simp [spN, he])
   have e1 : pRun x (x.sp.take (k + 1)) = pStep x (pRun x (x.sp.take k)) s := by rw [take_next hs, pRun_step]
   have e2 : givRun x (x.sp.take (k + 1)) = givStep x (givRun x (x.sp.take k)) s := by rw [take_next hs, givRun_step]
   obtain ⟨ha, hm⟩ := ih
   by_cases hgo : (unneedB x s || sparseB x s) = true
   ·
    have e3 := ok_same hv hmem (live_of_give hgo) pi.cnt hfresh hm
    by_cases hup : pUp x (pRun x (x.sp.take k)).1 s = true
    ·
     have e4 : pRun x (x.sp.take (k + 1)) = (pTake x (pRun x (x.sp.take k)).1 s, (pRun x (x.sp.take k)).2 ++ [s.id]) := by
      rw [e1, pStep, hgo, if_pos rfl, hup, if_pos rfl]
     have e5 : givRun x (x.sp.take (k + 1)) = addS (givRun x (x.sp.take k)) s.id := by
      rw [e2, givStep, hgo, if_pos rfl, e3, hup, if_pos rfl]
     obtain ⟨h1, h2⟩ := addS_asc ha s.id
     refine ⟨by rw [e5]; exact h1, fun y => ?_⟩
     rw [e5, e4, h2, hm]
     simp
    ·
     have hup' : pUp x (pRun x (x.sp.take k)).1 s = false := by simpa using hup
     have e4 : pRun x (x.sp.take (k + 1)) = pRun x (x.sp.take k) := by
      rw [e1, pStep, hgo, if_pos rfl, hup']; rfl
     have e5 : givRun x (x.sp.take (k + 1)) = givRun x (x.sp.take k) := by
      rw [e2, givStep, hgo, if_pos rfl, e3, hup']; rfl
     exact ⟨by rw [e5]; exact ha, fun y => by rw [e5, e4]; exact hm y⟩
   ·
    have hgo' : (unneedB x s || sparseB x s) = false := by simpa using hgo
    have e4 : pRun x (x.sp.take (k + 1)) = pRun x (x.sp.take k) := by
     rw [e1, pStep, hgo']; rfl
    have e5 : givRun x (x.sp.take (k + 1)) = givRun x (x.sp.take k) := by
     rw [e2, givStep, hgo']; rfl
    exact ⟨by rw [e5]; exact ha, fun y => by rw [e5, e4]; exact hm y⟩
  ·
   have e : x.sp.take (k + 1) = x.sp.take k := by rw [List.take_of_length_le (by omega), List.take_of_length_le (by omega)]
   obtain ⟨ha, hm⟩ := ih
   exact ⟨by rw [e]; exact ha, fun y => by rw [e]; exact hm y⟩
/-- What the reference gives up is what the program proposes. -/
theorem giv_eq {x : Si} (hv : siB x = true) : givL x = ssort (pRun x x.sp).2 := by
 have h := gInv hv x.sp.length
 obtain ⟨ha, hm⟩ := h
 rw [List.take_length] at ha hm
 have hn := (pInv_end hv).nodup
 rw [List.take_length] at hn
 exact asc_ext ha (sort_asc hn) (fun y => by rw [ssort_mem]; exact hm y)
end Go.Proofs.Ytboglaokdgnpaaa
