/- Locate, plain: program and reference find the same. -/
import Derived.Test.YtoeeklkebcgmaaaNearm
namespace Go.Proofs.Ytoeeklkebcgmaaa
open Go.RowKit Gf

theorem ints_nodup {l : List Nat} (h : l.Nodup) : (ints l).Nodup := by
  unfold ints List.Nodup at *
  rw [List.pairwise_map]
  exact h.imp (fun hab e => hab (Int.ofNat.inj e))
section
variable {d t n : Nat} {z : List Nat} {m : List (List UInt8)} {L : Nat} (g : GvOk d t n z m L)
include g
theorem GvOk.loc_popc {s : Nat} (h : locH z m d L n s = true) : popc s = (n - d) / 2 := by
  have := g.d1
  unfold locH at h
  rw [Bool.and_eq_true, Bool.and_eq_true] at h
  simpa using h.1.1
theorem GvOk.loc_near {s : Nat} (hn8 : n ≤ 8) (hs : s < 2 ^ n) (h : locH z m d L n s = true) : NearB d n z m L (locX z m d L n s) := by
  have hp := g.loc_popc h
  have hr := (g.right hn8 hs hp).1
  have hX := g.sl_rec _ hr
  rw [← selN_eq, ← selM_eq] at hX
  have h1 := (g.loc_iff hn8 hs hp).1 h
  refine ⟨hX.1, hX.2, ?_⟩
  have h2 := popc_cnt hn8 hs
  rw [← hp, h2]
  refine cnt_mono (fun k hk hb => ?_)
  cases ht : s.testBit k with
  | true => rfl
  | false => rw [h1 k hk ht] at hb; cases hb
theorem GvOk.z_sub (p : Nat → Bool) : (slN z p n).Nodup := by
  have h2 : (slN z p n).Sublist ((List.range n).map (gN z)) := List.Sublist.map _ List.filter_sublist
  have h3 : (List.range n).map (gN z) = z := by have := range_gN (z := z); rwa [g.zl] at this
  rw [h3] at h2
  exact g.nodup.sublist h2
theorem GvOk.loc_out {s : Nat} (hn8 : n ≤ 8) (hs : s < 2 ^ n) (h : locH z m d L n s = true) : locO z m d L n s = ints (wrA d z m (locX z m d L n s) L n t) := by
  have hp := g.loc_popc h
  have hr := (g.right hn8 hs hp).1
  have h1 := (g.loc_iff hn8 hs hp).1 h
  have g' := g.sl _ hr
  have hpc := popc_cnt hn8 hs
  have e1 : locR z n s = slN z (fun k => s.testBit k == false) n := selN_eq _ _ _ _
  have e2 : selM m s false n = slM m (fun k => s.testBit k == false) n := selM_eq _ _ _ _
  have e3 : selN z s true n = slN z (fun k => s.testBit k == true) n := selN_eq _ _ _ _
  have e4 : selM m s true n = slM m (fun k => s.testBit k == true) n := selM_eq _ _ _ _
  have hct : cnt (fun k => s.testBit k == true) n = popc s := by rw [hpc]; exact cnt_congr (fun k _ => by cases s.testBit k <;> rfl)
  have hlen : (selN z s true n).length = popc s := by rw [e3, slN_length, hct]
  unfold locO
  refine asc_ext (isort_asc (ints_nodup ?_)) (wrA_asc g.nodup (by rw [g.zl]; exact Nat.le_refl _) t) (fun x => ?_)
  · have h2 := difs_sub (selM m s false n) (facM d (locR z n s) (selN z s true n)) (selN z s true n) (selM m s true n) L (popc s) (by omega)
    refine List.Nodup.sublist h2 (List.Nodup.sublist (List.take_sublist _ _) ?_)
    rw [e3]; exact g.z_sub _
  · rw [isort_mem, ints_mem, ints_mem]
    have key : ∀ k, k ∈ difs (selM m s false n) (facM d (locR z n s) (selN z s true n)) (selN z s true n) (selM m s true n) L (popc s) ↔ k ∈ wrA d z m (locX z m d L n s) L n t := by
      intro x
      rw [difs_mem, wrA_mem]
      have hfp : ∀ i, i < popc s → prd (selM m s false n) (gR (facM d (locR z n s) (selN z s true n)) i) L = pcR (crw d (gN (selN z s true n) i)) (locX z m d L n s) L := fun i hi => by
        unfold locX
        rw [e1, e2]
        exact fac_piece g'.take_nodup g'.take_lt g'.d8 g'.dz g'.rect g'.dm (by rw [hlen]; exact hi)
      constructor
      · rintro ⟨i, hi, hx, hne⟩
        obtain ⟨k, hk, _, _, a1, a2⟩ := sl_at z m (fun k => s.testBit k == true) n i (by rw [hct]; exact hi)
        rw [hfp i hi, e4, a2, e3, a1] at hne
        rw [e3, a1] at hx
        refine ⟨by rw [← hx]; exact g.lt k hk, k, hk, hx, bdB_true.2 (fun e => hne e.symm)⟩
      · rintro ⟨_, k, hk, hx, hb⟩
        have hbit : s.testBit k = true := by
          cases ht : s.testBit k with
          | true => rfl
          | false => rw [h1 k hk ht] at hb; cases hb
        obtain ⟨i, hi, a1, a2⟩ := sl_of z m (p := fun k => s.testBit k == true) hk (by simp [hbit])
        rw [hct] at hi
        refine ⟨i, hi, by rw [e3, a1]; exact hx, ?_⟩
        rw [hfp i hi, e4, a2, e3, a1]
        exact fun e => bdB_true.1 hb e.symm
    constructor
    · rintro ⟨k, hk, e⟩; exact ⟨k, (key k).1 hk, e⟩
    · rintro ⟨k, hk, e⟩; exact ⟨k, (key k).2 hk, e⟩
theorem GvOk.rf_near {s : Nat} (h : rfH z m d L n t s = true) : NearB d n z m L (rfX z m d L n s) := by
  unfold rfH at h
  rw [Bool.and_eq_true] at h
  have h1 : (selN z s true n).length = d := by simpa using h.1
  have h2 : (wrA d z m (rfX z m d L n s) L n t).length ≤ (n - d) / 2 := by simpa using h.2
  rw [selN_eq, slN_length] at h1
  have hX := g.sl_rec (fun k => s.testBit k == true) (by omega)
  rw [← selN_eq, ← selM_eq] at hX
  refine ⟨hX.1, hX.2, ?_⟩
  rwa [wrA_length g.lt] at h2
theorem GvOk.near_loc (hn8 : n ≤ 8) {X : List (List UInt8)} (hX : NearB d n z m L X) : ∃ s, s < 2 ^ n ∧ locH z m d L n s = true := by
  have h1 := cnt_not (bdB d z m X L) n
  have h2 := hX.few
  have h3 := g.dn
  have h4 := g.d1
  obtain ⟨q, hq1, hq2⟩ := cnt_sub (fun k => !bdB d z m X L k) n (n - (n - d) / 2) (by omega)
  obtain ⟨s, hs, hb⟩ := bits_of (fun k => !q k) n
  have hp : popc s = (n - d) / 2 := by
    rw [popc_cnt hn8 hs, cnt_congr (q := fun k => !q k) hb]
    have := cnt_not q n
    omega
  have hok : ∀ k, k < n → s.testBit k = false → bdB d z m X L k = false := fun k hk ht => by
    have := hb k hk
    rw [ht] at this
    have hqk : q k = true := by cases hh : q k with
      | true => rfl
      | false => rw [hh] at this; cases this
    have := (hq1 k hqk).1
    simpa using this
  have hXe : X = locX z m d L n s := by
    unfold locX locR
    rw [selN_eq, selM_eq]
    exact g.sl_only hX.len hX.rect _ (g.right hn8 hs hp).1 (fun k hk ht => bdB_false.1 (hok k hk (by simpa using ht)))
  exact ⟨s, hs, (g.loc_iff hn8 hs hp).2 (by rw [← hXe]; exact hok)⟩
theorem GvOk.near_rf {X : List (List UInt8)} (hX : NearB d n z m L X) : ∃ s, s < 2 ^ n ∧ rfH z m d L n t s = true := by
  have h1 := cnt_not (bdB d z m X L) n
  have h2 := hX.few
  have h3 := g.dn
  obtain ⟨q, hq1, hq2⟩ := cnt_sub (fun k => !bdB d z m X L k) n d (by omega)
  obtain ⟨s, hs, hb⟩ := bits_of q n
  have hc : cnt (fun k => s.testBit k == true) n = d := by rw [← hq2]; exact cnt_congr (fun k hk => by rw [hb k hk]; cases q k <;> rfl)
  have hXe : X = rfX z m d L n s := by
    unfold rfX
    rw [selN_eq, selM_eq]
    refine g.sl_only hX.len hX.rect _ (by omega) (fun k hk ht => ?_)
    have ht' : s.testBit k = true := by simpa using ht
    rw [hb k hk] at ht'
    have := (hq1 k ht').1
    exact bdB_false.1 (by simpa using this)
  refine ⟨s, hs, ?_⟩
  unfold rfH
  rw [selN_eq, slN_length, hc, ← hXe, wrA_length g.lt, decide_eq_true rfl, decide_eq_true h2]; rfl
theorem GvOk.loc_same {s s' : Nat} (hn8 : n ≤ 8) (hs : s < 2 ^ n) (h : locH z m d L n s = true) (h' : rfH z m d L n t s' = true) : locO z m d L n s = ints (wrA d z m (rfX z m d L n s') L n t) := by
  rw [g.loc_out hn8 hs h, g.near_one (g.loc_near hn8 hs h) (g.rf_near h')]
theorem GvOk.rf_ex {s : Nat} (hn8 : n ≤ 8) (hs : s < 2 ^ n) (h : locH z m d L n s = true) : ∃ s', s' < 2 ^ n ∧ rfH z m d L n t s' = true := g.near_rf (g.loc_near hn8 hs h)
theorem GvOk.loc_ex {s : Nat} (hn8 : n ≤ 8) (h : rfH z m d L n t s = true) : ∃ s', s' < 2 ^ n ∧ locH z m d L n s' = true := g.near_loc hn8 (g.rf_near h)
end
end Go.Proofs.Ytoeeklkebcgmaaa
