/- A plan is safe, plainly. -/
import Derived.Test.YtboglaokdgnpaaaA25
namespace Go.Proofs.Ytboglaokdgnpaaa
open Go Gf

theorem safeB_append (x : Si) : ∀ (l m : List Stp) (st : St), safeB x st (l ++ m) = (safeB x st l && safeB x (safeRun x st l) m)
 | [], m, st => by simp [safeB, safeRun]
 | a :: l, m, st => by
  show (takeB x st a && safeB x (takeS x st a) (l ++ m)) = ((takeB x st a && safeB x (takeS x st a) l) && safeB x (safeRun x (takeS x st a) l) m)
  rw [safeB_append x l m, Bool.and_assoc]
theorem safeRun_append (x : Si) (l m : List Stp) (st : St) : safeRun x st (l ++ m) = safeRun x (safeRun x st l) m := by
 unfold safeRun; rw [List.foldl_append]
theorem hasB_mem {m : List (List UInt8)} {s : List UInt8} : hasB m s = true ↔ s ∈ m := by
 simp [hasB]
theorem hasB_no {m : List (List UInt8)} {s : List UInt8} : hasB m s = false ↔ s ∉ m := by
 rw [← hasB_mem]; simp
theorem hasB_sort (G : List (List UInt8)) (y : List UInt8) : hasB (ssort G) y = hasB G y := by
 rw [Bool.eq_iff_iff, hasB_mem, hasB_mem, ssort_mem]
def delSt (p : Pc) : Stp := ⟨3, [], p, []⟩
structure ButHeld (st st' : St) : Prop where
 pl : st'.pl = st.pl
 need : st'.need = st.need
 cond : st'.cond = st.cond
 drop : st'.drop = st.drop
 nam : st'.nam = st.nam
 ref : st'.ref = st.ref
theorem dels_safe (x : Si) : ∀ (ps : List Pc) (st : St), ps.Nodup → (∀ p ∈ ps, st.held p = true ∧ st.drop p.1 = true) → safeB x st (ps.map delSt) = true ∧ ButHeld st (safeRun x st (ps.map delSt))
 | [], st, _, _ => ⟨rfl, rfl, rfl, rfl, rfl, rfl, rfl⟩
 | p :: ps, st, hn, h => by
  rw [List.nodup_cons] at hn
  have ht : takeB x st (delSt p) = true := by
   have := h p (by simp)
   show (st.held p && st.drop p.1) = true
   rw [this.1, this.2]; rfl
  obtain ⟨h1, h2⟩ := dels_safe x ps (delHeld st p) hn.2 (fun q hq => by
   have := h q (by simp [hq])
   refine ⟨?_, this.2⟩
   show (if q = p then false else st.held q) = true
   rw [if_neg (fun e => hn.1 (by rw [← e]; exact hq))]
   exact this.1)
  refine ⟨?_, h2.pl, h2.need, h2.cond, h2.drop, h2.nam, h2.ref⟩
  show (takeB x st (delSt p) && safeB x (delHeld st p) (ps.map delSt)) = true
  rw [ht, h1]; rfl
theorem pcI_nodup {x : Si} (hv : siB x = true) : x.held.Nodup := by
 have h : okB pcB pcI x.held = true := by simp only [siB, Bool.and_eq_true] at hv; exact hv.1
 have := okB_nodup h
 rwa [show x.held.map pcI = x.held from by simp] at this

/-- A state in which the live stripes, their places and the counts are those of the beginning. -/
structure Good (x : Si) (st : St) : Prop where
 live : ∀ y, liveT st y = liveT (st0 x) y
 pl : ∀ y, liveT (st0 x) y = true → st.pl y = (st0 x).pl y
 need : st.need = (st0 x).need
 drop : st.drop = (st0 x).drop
 nam : st.nam = (st0 x).nam
 ref : st.ref = (st0 x).ref
theorem Good.forget {x : Si} : ∀ (ids : List (List UInt8)) {st : St}, Good x st → (∀ id ∈ ids, (st0 x).drop id = true) → Good x (ids.foldl forgetStep st)
 | [], _, h, _ => h
 | a :: l, st, h, hd => by
  have ha : st.drop a = true := by rw [h.drop]; exact hd a (by simp)
  refine Good.forget l (st := forgetStep st a) ⟨fun y => (liveT_forget ha y).trans (h.live y), fun y hy => ?_, h.need, h.drop, h.nam, h.ref⟩ (fun id hid => hd id (by simp [hid]))
  show (if y = a then none else st.pl y) = _
  rw [if_neg (fun e => by
   subst e
   have h0 : (st0 x).drop y = true := hd y (by simp)
   simp [liveT, h0] at hy)]
  exact h.pl y hy
theorem liveT_condRun (x : Si) : ∀ (ids : List (List UInt8)) (st : St) (y : List UInt8), liveT (condRun x st ids) y = (liveT st y && !hasB ids y)
 | [], st, y => by simp [condRun, hasB]
 | a :: l, st, y => by
  show liveT (condRun x (condStep x st a) l) y = _
  rw [liveT_condRun x l]
  have e : liveT (condStep x st a) y = (liveT st y && !(y == a)) := by
   unfold condStep
   by_cases hl : liveT st a = true
   ·
    rw [if_pos hl]
    show liveT (condOn st a) y = _
    exact liveT_condOn st a y
   ·
    rw [if_neg hl]
    by_cases h : y = a
    ·
     subst h; simp [hl]
    ·
     simp [h]
  rw [e]
  show ((liveT st y && !(y == a)) && !hasB l y) = (liveT st y && !hasB (a :: l) y)
  have e2 : hasB (a :: l) y = ((a == y) || hasB l y) := rfl
  rw [e2, Bool.not_or, Bool.and_assoc, show (y == a) = (a == y) from by rw [Bool.beq_comm]]
/-- The refs of the carried live stripes that are not given up. -/
def cfG (x : Si) (G : List (List UInt8)) : List Rf := (x.sp.filter fun s => (liveB x s.id && hasB x.carr s.id) && !hasB G s.id).flatMap (·.refs)
theorem cfG_nil (x : Si) : cfG x [] = cfOf x x.sp := by
 unfold cfG cfOf
 congr 1
 exact List.filter_congr fun s _ => by simp [hasB]
theorem hasB_snoc (G : List (List UInt8)) (a y : List UInt8) : hasB (G ++ [a]) y = (hasB G y || (a == y)) := by simp [hasB]
theorem cfG_snoc {x : Si} (hv : siB x = true) {s : Sp} (hs : s ∈ x.sp) (hl : liveB x s.id = true) (G : List (List UInt8)) (hG : hasB G s.id = false) (n : List UInt8) : cntN (cfG x (G ++ [s.id])) n = (if hasB x.carr s.id then cntN (cfG x G) n + -1 * cntN s.refs n else cntN (cfG x G) n) := by
 by_cases hc : hasB x.carr s.id = true
 ·
  rw [if_pos hc]
  refine lose_one hs (siB_ids hv) (by rw [hl, hc, hG]; rfl) (fun t => ?_) (fun l => cntN l n) (fun a b => cntN_append a b n)
  rw [hasB_snoc, Bool.not_or, show (s.id == t.id) = (t.id == s.id) from by rw [Bool.beq_comm]]
  simp only [Bool.and_assoc]
 ·
  rw [if_neg hc]
  unfold cfG
  congr 2
  refine List.filter_congr fun t ht => ?_
  rw [hasB_snoc]
  by_cases e : s.id = t.id
  ·
   rw [← e]; simp [hc]
  ·
   simp [show (s.id == t.id) = false from by simpa using e]
theorem pTake_eq {x : Si} (f : List UInt8 → Int) (s : Sp) (n : List UInt8) : pTake x f s n = if hasB x.carr s.id then f n + -1 * cntN s.refs n else f n := by
 unfold pTake
 split <;> rfl
theorem cnt_has {l : List Rf} {n : List UInt8} : 0 < cntN l n ↔ ∃ r ∈ l, r.1 = n := by
 have h := cnt_pos l n
 constructor
 ·
  intro h1
  rw [decide_eq_true h1] at h
  obtain ⟨r, hr, he⟩ := List.any_eq_true.1 h.symm
  exact ⟨r, hr, by simpa using he⟩
 ·
  rintro ⟨r, hr, he⟩
  have : (l.any fun r => r.1 == n) = true := List.any_eq_true.2 ⟨r, hr, by simpa using he⟩
  rw [this] at h
  simpa using h
/-- What holds behind the first k stripes: the counts, the live ones, the covered ones. -/
structure PInv (x : Si) (k : Nat) : Prop where
 cnt : ∀ n, (pRun x (x.sp.take k)).1 n = cntN (cfG x (pRun x (x.sp.take k)).2) n
 sub : ∀ y ∈ (pRun x (x.sp.take k)).2, ∃ t ∈ x.sp.take k, t.id = y ∧ (unneedB x t || sparseB x t) = true
 cov : ∀ t ∈ x.sp, hasB (pRun x (x.sp.take k)).2 t.id = true → ∀ r ∈ t.refs, hasB x.need r.1 = true → 0 < (pRun x (x.sp.take k)).1 r.1
 nodup : (pRun x (x.sp.take k)).2.Nodup
theorem live_of_give {x : Si} {s : Sp} (h : (unneedB x s || sparseB x s) = true) : liveB x s.id = true := by
 simp only [unneedB, sparseB, Bool.or_eq_true, Bool.and_eq_true] at h
 rcases h with h | h <;> exact h.1
theorem pInv {x : Si} (hv : siB x = true) : ∀ k, PInv x k
 | 0 => ⟨(fun n => by rw [List.take_zero]; show cntN (cfOf x x.sp) n = cntN (cfG x []) n; rw [cfG_nil]), (fun y hy => by rw [List.take_zero] at hy; cases hy), (fun t ht h => by rw [List.take_zero] at h; simp [pRun, hasB] at h), (by rw [List.take_zero]; exact List.nodup_nil)⟩
 | k + 1 => by
  have ih := pInv hv k
  by_cases hk : k < x.sp.length
  ·
   have hs := List.getElem?_eq_getElem hk
   obtain ⟨s, hse⟩ : ∃ s, s = x.sp[k] := ⟨_, rfl⟩
   rw [← hse] at hs
   have hmem := List.mem_of_getElem? hs
   have hfresh : s.id ∉ (pRun x (x.sp.take k)).2 := fun hm => by
    obtain ⟨t, ht, he, _⟩ := ih.sub _ hm
    have h9 := okB_fresh (siB_sp hv) hs
    exact absurd (List.any_eq_false.1 h9 t ht) (by simp [spN, he])
   have hstep : pRun x (x.sp.take (k + 1)) = pStep x (pRun x (x.sp.take k)) s := by rw [take_next hs, pRun_step]
   obtain ⟨f, hf⟩ : ∃ f, f = (pRun x (x.sp.take k)).1 := ⟨_, rfl⟩
   obtain ⟨G, hG⟩ : ∃ G, G = (pRun x (x.sp.take k)).2 := ⟨_, rfl⟩
   have ihc := ih.cnt
   have ihs := ih.sub
   have ihv := ih.cov
   have ihn := ih.nodup
   rw [← hf, ← hG] at ihc
   rw [← hG] at ihs hfresh ihn
   rw [← hf, ← hG] at ihv
   have hpair : pRun x (x.sp.take k) = (f, G) := by rw [hf, hG]
   by_cases hgo : (unneedB x s || sparseB x s) = true
   ·
    by_cases hup : pUp x f s = true
    ·
     have e : pRun x (x.sp.take (k + 1)) = (pTake x f s, G ++ [s.id]) := by
      rw [hstep, hpair, pStep, hgo, if_pos rfl, hup, if_pos rfl]
     have hlive := live_of_give hgo
     have hG0 : hasB G s.id = false := hasB_no.2 hfresh
     refine ⟨fun n => ?_, fun y hy => ?_, fun t ht htg r hr hnd => ?_, ?_⟩
     ·
      rw [e]
      show pTake x f s n = _
      rw [cfG_snoc hv hmem hlive G hG0, pTake_eq, ihc]
     ·
      rw [e] at hy
      rcases List.mem_append.1 hy with hy | hy
      ·
       obtain ⟨t, ht, h1⟩ := ihs y hy
       exact ⟨t, by rw [take_next hs]; simp [ht], h1⟩
      ·
       rw [List.mem_singleton.1 hy]
       exact ⟨s, by rw [take_next hs]; simp, rfl, hgo⟩
     ·
      rw [e] at htg ⊢
      show 0 < pTake x f s r.1
      by_cases hin : ∃ q ∈ s.refs, q.1 = r.1
      ·
       obtain ⟨q, hq, hqe⟩ := hin
       have := List.all_eq_true.1 (show (s.refs.all (pOk x (pTake x f s))) = true from hup) q hq
       unfold pOk at this
       rw [hqe, hnd] at this
       simpa using this
      ·
       have h0 : cntN s.refs r.1 = 0 := by
        have h1 := cntN_le s.refs r.1
        have h2 : ¬ 0 < cntN s.refs r.1 := fun h => hin (cnt_has.1 h)
        omega
       rw [pTake_eq, h0]
       have htg' : hasB G t.id = true := by
        have h9 : hasB (G ++ [s.id]) t.id = true := htg
        rw [hasB_snoc, Bool.or_eq_true] at h9
        rcases h9 with h9 | h9
        ·
         exact h9
        ·
         exfalso
         have ee : s.id = t.id := by simpa using h9
         have hts : t = s := by
          have hnd2 := siB_ids hv
          obtain ⟨i, hi⟩ := List.mem_iff_getElem?.1 ht
          obtain ⟨hi1, hi2⟩ := List.getElem?_eq_some_iff.1 hi
          have hp := List.pairwise_iff_getElem.1 (show (x.sp.map (·.id)).Pairwise (· ≠ ·) from hnd2)
          have hse' : x.sp[k] = s := hse.symm
          rcases Nat.lt_trichotomy i k with h | h | h
          ·
           exact absurd (by rw [List.getElem_map, List.getElem_map, hi2, hse']; exact ee.symm) (hp i k (by simpa using hi1) (by simpa using hk) h)
          ·
           subst h; rw [← hi2, hse']
          ·
           exact absurd (by rw [List.getElem_map, List.getElem_map, hi2, hse']; exact ee) (hp k i (by simpa using hk) (by simpa using hi1) h)
         exact hin ⟨r, by rw [← hts]; exact hr, rfl⟩
       have := ihv t ht htg' r hr hnd
       split <;> omega
     ·
      rw [e]
      exact List.nodup_append.2 ⟨ihn, by simp, fun a ha b hb => by rw [List.mem_singleton.1 hb]; exact fun e9 => hfresh (e9 ▸ ha)⟩
    ·
     have e : pRun x (x.sp.take (k + 1)) = (f, G) := by
      rw [hstep, hpair, pStep, hgo, if_pos rfl, if_neg hup]
     exact ⟨fun n => by rw [e]; exact ihc n, fun y hy => by rw [e] at hy; obtain ⟨t, ht, h1⟩ := ihs y hy; exact ⟨t, by rw [take_next hs]; simp [ht], h1⟩, fun t ht h r hr hn => by rw [e] at h ⊢; exact ihv t ht h r hr hn, by rw [e]; exact ihn⟩
   ·
    have e : pRun x (x.sp.take (k + 1)) = (f, G) := by
     rw [hstep, hpair, pStep, if_neg hgo]
    exact ⟨fun n => by rw [e]; exact ihc n, fun y hy => by rw [e] at hy; obtain ⟨t, ht, h1⟩ := ihs y hy; exact ⟨t, by rw [take_next hs]; simp [ht], h1⟩, fun t ht h r hr hn => by rw [e] at h ⊢; exact ihv t ht h r hr hn, by rw [e]; exact ihn⟩
  ·
   have e : x.sp.take (k + 1) = x.sp.take k := by rw [List.take_of_length_le (by omega), List.take_of_length_le (by omega)]
   rw [show PInv x (k + 1) ↔ PInv x k from ⟨fun h => ⟨by have := h.cnt; rwa [e] at this, by have := h.sub; rwa [e] at this, by have := h.cov; rwa [e] at this, by have := h.nodup; rwa [e] at this⟩, fun h => ⟨by rw [e]; exact h.cnt, by rw [e]; exact h.sub, by rw [e]; exact h.cov, by rw [e]; exact h.nodup⟩⟩]
   exact ih
theorem pInv_end {x : Si} (hv : siB x = true) : PInv x x.sp.length := pInv hv _
theorem safe_one (x : Si) (st : St) (s : Stp) (ht : takeB x st s = true) (hs : neS s = false → takeS x st s = st) : safeB x st ([s].filter neS) = true ∧ safeRun x st ([s].filter neS) = takeS x st s := by
 by_cases h : neS s = true
 ·
  rw [List.filter_cons_of_pos h]
  refine ⟨?_, rfl⟩
  show (takeB x st s && true) = true
  rw [ht]; rfl
 ·
  rw [List.filter_cons_of_neg h]
  exact ⟨rfl, (hs (by simpa using h)).symm⟩
theorem neS_nil {s : Stp} (h : neS s = false) : s.sts = [] := by
 unfold neS at h
 simpa using h
/-- PLANS ARE SAFE. -/
theorem plan_safe {x : Si} (hv : siB x = true) : safeB x (st0 x) (planL x) = true := by
 obtain ⟨h1, h2⟩ := dels_safe x (x.held.filter fun p => hasB x.drop p.1) (st0 x) ((pcI_nodup hv).filter _) (fun p hp => by
  rw [List.mem_filter] at hp
  exact ⟨List.any_eq_true.2 ⟨p, hp.1, by simp⟩, hp.2⟩)
 have hd : dels x x.held = (x.held.filter fun p => hasB x.drop p.1).map delSt := rfl
 rw [planL, safeB_append, hd, h1, Bool.true_and]
 obtain ⟨st1, hst1⟩ : ∃ s, s = safeRun x (st0 x) ((x.held.filter fun p => hasB x.drop p.1).map delSt) := ⟨_, rfl⟩
 have i1 : Inv x st1 := by rw [hst1]; exact safe_inv hv _ (Inv.st0 x) h1
 rw [← hst1] at h2 ⊢
 have g1 : Good x st1 := ⟨fun y => by unfold liveT; rw [h2.pl, h2.cond, h2.drop], fun y _ => by rw [h2.pl], h2.need, h2.drop, h2.nam, h2.ref⟩
 have hfgd : ∀ id ∈ fgIds x x.sp, (st0 x).drop id = true ∧ ((st0 x).pl id).isSome = true := fun id hid => by
  obtain ⟨s, hs, rfl⟩ := List.mem_map.1 hid
  rw [List.mem_filter] at hs
  exact ⟨hs.2, plF_isSome hs.1⟩
 have t1 : takeB x st1 (fgStp x) = true := by
  have e : takeB x st1 (fgStp x) = (fgIds x x.sp).all (fgOk st1) := by simp [takeB, fgStp]
  rw [e, List.all_eq_true]
  intro id hid
  obtain ⟨a, b⟩ := hfgd id hid
  rw [fgOk, h2.pl, h2.drop, a, b]; rfl
 have s1 : takeS x st1 (fgStp x) = (fgIds x x.sp).foldl forgetStep st1 := by simp [takeS, fgStp]
 obtain ⟨st2, hst2⟩ : ∃ s, s = takeS x st1 (fgStp x) := ⟨_, rfl⟩
 have i2 : Inv x st2 := by rw [hst2]; exact i1.takeS hv t1
 have g2 : Good x st2 := by rw [hst2, s1]; exact g1.forget _ (fun id hid => (hfgd id hid).1)
 have t2 : takeB x st2 (rwStp x) = true := by
  have e : takeB x st2 (rwStp x) = (rwRefs x x.sp).all fun r => decide (0 < st2.ref r) := by simp [takeB, rwStp]
  rw [e, List.all_eq_true]
  intro r hr
  obtain ⟨s, hs, hr⟩ := List.mem_flatMap.1 hr
  rw [List.mem_filter] at hs
  have hr' := (List.mem_filter.1 hr).1
  have hl : liveB x s.id = true := live_of_give (by rw [hs.2, Bool.or_true])
  have hm : r ∈ liveRefs x x.sp := List.mem_flatMap.2 ⟨s, List.mem_filter.2 ⟨hs.1, hl⟩, hr'⟩
  rw [g2.ref]
  have : 0 < ((liveRefs x x.sp).filter fun q => q == r).length := List.length_pos_of_mem (List.mem_filter.2 ⟨hm, by simp⟩)
  refine decide_eq_true ?_
  show 0 < cntR (liveRefs x x.sp) r
  unfold cntR
  omega
 have s2 : takeS x st2 (rwStp x) = st2 := by simp [takeS, rwStp]
 have t3 : takeB x st2 (prStp x) = true := by
  have pi := pInv_end hv
  have pc := pi.cnt
  have ps := pi.sub
  have pv := pi.cov
  rw [List.take_length] at pc ps pv
  obtain ⟨G, hG⟩ : ∃ G, G = (pRun x x.sp).2 := ⟨_, rfl⟩
  rw [← hG] at pc ps pv
  have e : takeB x st2 (prStp x) = condB x st2 (ssort G) := by rw [hG]; simp [takeB, prStp]
  have hlv : ∀ id ∈ ssort G, liveT st2 id = true := fun id hid => by
   rw [ssort_mem] at hid
   obtain ⟨t, ht, rfl, hg⟩ := ps id hid
   rw [g2.live, st0_live ht]
   exact live_of_give hg
  rw [e, condB, List.all_eq_true.2 hlv, Bool.true_and, condOk, List.all_eq_true]
  intro id hid
  obtain ⟨i, s, _, hsi, hse, hra⟩ := i2.live (hlv id hid)
  rw [refsAt_run, hra, List.all_eq_true]
  intro r hr
  have hneed : (condRun x st2 (ssort G)).need r.1 = hasB x.need r.1 := by rw [(condRun_same x _ _).2.1, g2.need]; rfl
  unfold needOk
  rw [hneed]
  cases hn : hasB x.need r.1 with
  | false => rfl
  | true =>
   have hsm := List.mem_of_getElem? hsi
   have hpos := pv s hsm (by rw [hse]; exact hasB_mem.2 ((ssort_mem _ _).1 hid)) r hr hn
   rw [pc] at hpos
   obtain ⟨q, hq, hqe⟩ := cnt_has.1 hpos
   obtain ⟨t, ht, hqt⟩ := List.mem_flatMap.1 hq
   rw [List.mem_filter, Bool.and_eq_true, Bool.and_eq_true] at ht
   obtain ⟨ht1, ⟨ht2, _⟩, ht4⟩ := ht
   have hcov : covT (condRun x st2 (ssort G)) r.1 = true := by
    unfold covT
    rw [(i2.condRun hv (ssort G)).nam]
    refine decide_eq_true (cnt_has.2 ⟨q, List.mem_flatMap.2 ⟨t, List.mem_filter.2 ⟨ht1, ?_⟩, hqt⟩, hqe⟩)
    rw [liveT_condRun, g2.live, st0_live ht1, ht2, hasB_sort]
    simpa using ht4
   rw [hcov]; rfl
 have s3 : neS (prStp x) = false → takeS x st2 (prStp x) = st2 := fun h => by
  have := neS_nil h
  have e : takeS x st2 (prStp x) = condRun x st2 (prStp x).sts := by simp [takeS, prStp]
  rw [e, this]; rfl
 have e3 : [fgStp x, rwStp x, prStp x].filter neS = [fgStp x].filter neS ++ ([rwStp x].filter neS ++ [prStp x].filter neS) := by
  rw [← List.filter_append, ← List.filter_append]; rfl
 obtain ⟨a1, b1⟩ := safe_one x st1 (fgStp x) t1 (fun h => by rw [s1]; have := neS_nil h; rw [show fgIds x x.sp = [] from this]; rfl)
 obtain ⟨a2, b2⟩ := safe_one x st2 (rwStp x) t2 (fun _ => s2)
 obtain ⟨a3, _⟩ := safe_one x st2 (prStp x) t3 s3
 rw [e3, safeB_append, a1, b1, ← hst2, safeB_append, a2, b2, s2, a3]
 rfl
end Go.Proofs.Ytboglaokdgnpaaa
