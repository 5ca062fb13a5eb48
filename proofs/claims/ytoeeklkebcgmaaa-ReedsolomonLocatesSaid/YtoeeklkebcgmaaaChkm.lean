/- Contract of reedsolomon.Check; ReedsolomonChecks: the walk. -/
import Derived.Test.YtoeeklkebcgmaaaLawRecm
import Derived.Test.YtoeeklkebcgmaaaRf8m
import Derived.Test.YtoeeklkebcgmaaaA3
namespace Go.Proofs.Ytoeeklkebcgmaaa
open Go.RowKit Gf

def ChkR (b : Bool) (r : Int) (w : World) (e : Ending) (w' : World) : Prop := e = .returned (.tuple #[.bool b, .int .i64 r]) ∧ Below w.heap.size w w'

set_option maxRecDepth 100000 in
set_option maxHeartbeats 2000000 in
theorem check_ok (d t : Nat) (A A' : Option Addr) (n c c' : Nat) (z : List Nat) (m : List (List UInt8)) (L : Nat) (w : World) (h : IS w A n c (ints z)) (h' : MS w A' n c' m) (hok : gvE d t (ints z) m = 0) (gk : GvOk d t n z m L) :
    Calls Try.prog 26 #[.int .i64 (d : Int), .int .i64 (t : Int), .slice A n c, .slice A' n c'] w (ChkR (decide (cfl m (facM d z (z.drop d)) d L (n - d) < 0)) 0 w) := by
  have HI := Lib.hid h
  have HM := Lib.hid h'
  have HG := Lib.hid hok
  have HK := Lib.hid gk
  have hd1 := gk.d1
  have hd8 := gk.d8
  have hdn := gk.dn
  have hnc := h.2.1
  have hn16 : n ≤ 16 := Nat.le_trans gk.nt gk.t16
  clear h h' hok gk
  obtain ⟨nk, hnk⟩ : ∃ nk, nk = n - d := ⟨_, rfl⟩
  have HNK := Lib.hid hnk
  obtain ⟨q, hq⟩ : ∃ q, q = cfl m (facM d z (z.drop d)) d L nk := ⟨_, rfl⟩
  have HQ := Lib.hid hq
  rw [← hnk, ← hq]
  have HFr : Hid (Rect (facM d z (z.drop d)) d) := Lib.hid (facM_rect HK.out.dz)
  have HPF : Hid (∀ i, i < nk → (prd m (gR (facM d z (z.drop d)) i) L).length = L) := Lib.hid (fun i hi => prd_length HK.out.rect HK.out.ml (by rw [HFr.out i (by rw [facM_length, List.length_drop, HK.out.zl]; omega)]; exact hdn))
  have hcb := cfl_bound (d := d) HK.out.rect HK.out.ml HK.out.L6 nk (by omega) HPF.out
  rw [← hq] at hcb
  obtain ⟨hq1, hq2⟩ := hcb
  have HD64 : Hid (d ≤ 64 ∧ d + nk ≤ n ∧ n ≤ 64 ∧ nk ≤ 64) := Lib.hid (by omega)
  have HDR : Hid (∀ (W : World) (A0 : Option Addr) (c0 : Nat), IS W A n c (ints z) → (c = d ∨ (A0 = A.map (fun x => x.add d) ∧ c0 = c - d)) → 0 < nk → IS W A0 nk c0 (ints (z.drop d))) := Lib.hid (fun W A0 c0 hI hc h0 => by
    rcases hc with hc | ⟨rfl, rfl⟩
    · omega
    · rw [hnk]; exact IS.drop hI hd1 (by omega))
  have HYL : Hid ((z.drop d).length = nk) := Lib.hid (by rw [List.length_drop, HK.out.zl, hnk])
  have HY16 : Hid (∀ i, i < nk → gN (z.drop d) i < 16) := Lib.hid (fun i hi => by rw [gN_drop]; exact HK.out.lt16 _ (by omega))
  clear hnk hq
  by_cases hcd : c = d
  · have hnd : n = d := by omega
    have HF0 : Hid (∀ (W : World) (gt : Nat), Blk W gt 80 (tblA d 16 0) → IS W A d d (ints z) → Calls Try.prog 41 #[.pointer (some ⟨gt, 0, none⟩), .slice A d d, .slice A 0 0] W (FacRet (facM d z (z.drop d)) nk W)) := Lib.hid (fun W gt hT hI => by
      have h0 : nk = 0 := by have := HNK.out; omega
      rw [h0]
      exact factors_gen gt d A A d 0 d 0 z (z.drop d) W hT hd8 hd1 hI (fun i hi => HK.out.lt16 i (by omega)) (Nat.le_refl _) (by have := HYL.out; omega) (fun h => absurd h (by omega)) (fun i hi => absurd hi (by omega)) (by omega) HK.out.reg)
    have hnd' := hnd.symm
    have hcd' := hcd.symm
    clear hnd hcd HDR
    subst hnd'
    subst hcd'
    go_enter Try.func26, Try.ntmps26
    go_wp2_with fail
    refine (checkGiven_any _ t A A' _ _ _ c' (ints z) m w HI.out HM.out).mono ?_
    rintro e w1 ⟨rfl, hb1⟩
    rw [HG.out]
    have HB1 := Lib.hid hb1
    clear hb1
    go_wp2_with fail
    refine Text.wp_region_text (fun _ => True) [(0, 4), (1, 4), (3, 4), (4, 4), (5, 4), (6, 4), (2, 2), (7, 2), (8, 2), (9, 4), (10, 4), (11, 4)] (by kernel_rfl) (by kernel_rfl) (fun _ _ _ _ _ h => h) (trivial) ?_
    iterate 6 (refine Text.purek rfl rfl (fun K hK => ⟨_, fun w' => by go_simp <;> rfl, ?_⟩); go_simp; refine hK _ ?_; clear hK K)
    refine Text.eff rfl rfl (fun K hK => ?_)
    go_simp
    refine (newTable_any d w1.drew hd8).mono ?_
    rintro e w2 ⟨rfl, htab, hb2⟩
    have hb2' : Below w1.heap.size w1 w2 := below_ofDrew hb2
    have HT : Hid (Blk w2 w1.heap.size 80 (tblA d 16 0)) := Lib.hid htab
    have HB2 := Lib.hid (below_then HB1.out hb2')
    refine hK _ _ trivial ?_
    clear hK K htab hb2 hb2' HB1
    refine Text.eff rfl rfl (fun K hK => ?_)
    go_simp
    refine (HF0.out w2 w1.heap.size HT.out (HI.out.kept HB2.out)).mono ?_
    rintro e w3 ⟨A8, c8, rfl, hm8, hb8⟩
    have HM8 := Lib.hid hm8
    have HB3 := Lib.hid (below_then HB2.out hb8)
    refine hK _ _ trivial ?_
    clear hK K hm8 hb8 HT HB2
    refine Text.eff rfl rfl (fun K hK => ?_)
    go_simp
    refine (conflict_any A' A8 _ c' nk c8 m (facM d z (z.drop d)) d L w3 (HM.out.kept HB3.out) HM8.out HK.out.rect HK.out.L6 HFr.out hd1 HD64.out.1 HD64.out.2.1 HD64.out.2.2.1).mono ?_
    rintro e w4 ⟨rfl, hb4⟩
    rw [← HQ.out]
    have HB4 := Lib.hid (below_then HB3.out hb4)
    refine hK _ _ trivial ?_
    clear hK K hb4 HB3 HM8
    iterate 3 (refine Text.purek rfl rfl (fun K hK => ⟨_, fun w' => by go_simp <;> rfl, ?_⟩); go_simp; refine hK _ ?_; clear hK K)
    refine Text.done ?_
    go_wp2_with fail
    go_ret2
    exact ⟨rfl, HB4.out⟩
  · have HCD := Lib.hid hcd
    go_enter Try.func26, Try.ntmps26
    go_wp2_with fail
    refine (checkGiven_any _ t A A' _ _ _ c' (ints z) m w HI.out HM.out).mono ?_
    rintro e w1 ⟨rfl, hb1⟩
    rw [HG.out]
    have HB1 := Lib.hid hb1
    clear hb1
    go_wp2_with fail
    refine Text.wp_region_text (fun _ => True) [(0, 4), (1, 4), (3, 4), (4, 4), (5, 4), (6, 4), (2, 2), (7, 2), (8, 2), (9, 4), (10, 4), (11, 4)] (by kernel_rfl) (by kernel_rfl) (fun _ _ _ _ _ h => h) (trivial) ?_
    iterate 6 (refine Text.purek rfl rfl (fun K hK => ⟨_, fun w' => by go_simp <;> rfl, ?_⟩); go_simp; refine hK _ ?_; clear hK K)
    refine Text.eff rfl rfl (fun K hK => ?_)
    go_simp
    refine (newTable_any d w1.drew hd8).mono ?_
    rintro e w2 ⟨rfl, htab, hb2⟩
    have hb2' : Below w1.heap.size w1 w2 := below_ofDrew hb2
    have HT : Hid (Blk w2 w1.heap.size 80 (tblA d 16 0)) := Lib.hid htab
    have HB2 := Lib.hid (below_then HB1.out hb2')
    refine hK _ _ trivial ?_
    clear hK K htab hb2 hb2' HB1
    refine Text.eff rfl rfl (fun K hK => ?_)
    go_simp
    rw [← HNK.out]
    refine (factors_gen w1.heap.size d A _ n nk c (c - d) z (z.drop d) w2 HT.out hd8 hd1 (HI.out.kept HB2.out) HK.out.lt16 hdn HYL.out (fun h0 => HDR.out w2 _ _ (HI.out.kept HB2.out) (.inr ⟨rfl, rfl⟩) h0) HY16.out HD64.out.2.2.2 HK.out.reg).mono ?_
    rintro e w3 ⟨A8, c8, rfl, hm8, hb8⟩
    have HM8 := Lib.hid hm8
    have HB3 := Lib.hid (below_then HB2.out hb8)
    refine hK _ _ trivial ?_
    clear hK K hm8 hb8 HT HB2
    refine Text.eff rfl rfl (fun K hK => ?_)
    go_simp
    refine (conflict_any A' A8 _ c' nk c8 m (facM d z (z.drop d)) d L w3 (HM.out.kept HB3.out) HM8.out HK.out.rect HK.out.L6 HFr.out hd1 HD64.out.1 HD64.out.2.1 HD64.out.2.2.1).mono ?_
    rintro e w4 ⟨rfl, hb4⟩
    rw [← HQ.out]
    have HB4 := Lib.hid (below_then HB3.out hb4)
    refine hK _ _ trivial ?_
    clear hK K hb4 HB3 HM8
    iterate 3 (refine Text.purek rfl rfl (fun K hK => ⟨_, fun w' => by go_simp <;> rfl, ?_⟩); go_simp; refine hK _ ?_; clear hK K)
    refine Text.done ?_
    go_wp2_with fail
    go_ret2
    exact ⟨rfl, HB4.out⟩

theorem check_bad (d t : Int) (A A' : Option Addr) (n c n' c' : Nat) (z : List Int) (m : List (List UInt8)) (w : World) (h : IS w A n c z) (h' : MS w A' n' c' m) (hbad : gvE d t z m ≠ 0) :
    Calls Try.prog 26 #[.int .i64 d, .int .i64 t, .slice A n c, .slice A' n' c'] w (ChkR false (gvE d t z m) w) := by
  have HI := Lib.hid h
  have HM := Lib.hid h'
  have HC := Lib.hid (gvE_cases d t z m)
  have HB := Lib.hid hbad
  clear h h' hbad
  go_enter Try.func26, Try.ntmps26
  go_wp2_with fail
  refine (checkGiven_any d t A A' n c n' c' z m w HI.out HM.out).mono ?_
  rintro e w1 ⟨rfl, hb1⟩
  have HB1 := Lib.hid hb1
  clear hb1
  rcases HC.out with e | e | e
  · exact absurd e HB.out
  · rw [e]
    have HE := Lib.hid e
    clear HB HC e
    go_wp2_with fail
    go_ret2
    exact ⟨by rw [HE.out]; rfl, HB1.out⟩
  · rw [e]
    have HE := Lib.hid e
    clear HB HC e
    go_wp2_with fail
    go_ret2
    exact ⟨by rw [HE.out]; rfl, HB1.out⟩

theorem wrA_nil {d : Nat} {z : List Nat} {m X : List (List UInt8)} {L n t : Nat} (hlt : ∀ i, i < n → gN z i < t) : wrA d z m X L n t = [] ↔ ∀ k, k < n → gR m k = pcR (crw d (gN z k)) X L := by
  constructor
  · intro h k hk
    apply Classical.byContradiction
    intro hne
    have h1 : gN z k ∈ wrA d z m X L n t := by
      unfold wrA
      rw [List.mem_flatMap]
      refine ⟨gN z k, List.mem_range.2 (hlt k hk), ?_⟩
      unfold wrP
      rw [List.mem_map]
      exact ⟨k, List.mem_filter.2 ⟨List.mem_range.2 hk, by unfold wrB; simp [hne]⟩, rfl⟩
    rw [h] at h1
    cases h1
  · intro h
    rw [List.eq_nil_iff_forall_not_mem]
    intro x hx
    unfold wrA at hx
    rw [List.mem_flatMap] at hx
    obtain ⟨i, _, hx⟩ := hx
    unfold wrP at hx
    rw [List.mem_map] at hx
    obtain ⟨k, hk, _⟩ := hx
    obtain ⟨hk1, hk2⟩ := List.mem_filter.1 hk
    unfold wrB at hk2
    rw [Bool.and_eq_true] at hk2
    have e : gN z k = i := by simpa using hk2.1
    have h2 := h k (List.mem_range.1 hk1)
    rw [e] at h2
    rw [decide_eq_true h2] at hk2
    simp at hk2
theorem GvOk.cons {d t n : Nat} {z : List Nat} {m : List (List UInt8)} {L : Nat} (g : GvOk d t n z m L) : cfl m (facM d z (z.drop d)) d L (n - d) < 0 ↔ ∀ k, k < n → gR m k = pcR (crw d (gN z k)) (recM d z m L) L := by
  have hdn := g.dn
  rw [cfl_iff]
  have hp : ∀ j, j < n - d → prd m (gR (facM d z (z.drop d)) j) L = pcR (crw d (gN z (d + j))) (recM d z m L) L := fun j hj => by
    rw [fac_piece g.take_nodup g.take_lt g.d8 g.dz g.rect g.dm (by rw [List.length_drop, g.zl]; exact hj), gN_drop]
  constructor
  · intro h k hk
    by_cases hkd : k < d
    · exact (own_piece g.take_nodup g.take_lt g.d8 g.dz g.rect g.dm hkd).symm
    · have := h (k - d) (by omega)
      rwa [hp _ (by omega), show d + (k - d) = k by omega] at this
  · intro h j hj
    rw [hp j hj]; exact h (d + j) (by omega)

set_option maxRecDepth 100000 in
set_option maxHeartbeats 2000000 in
theorem checks_walk (d t : Int) (A : Option Addr) (n c : Nat) (z : List Int) (A' : Option Addr) (n' c' : Nat) (m : List (List UInt8)) (w : World) (h : IS w A n c z) (h' : MS w A' n' c' m) :
    Calls Try.prog 8 #[.int .i64 d, .int .i64 t, .slice A n c, .slice A' n' c'] w fun e w' => e = .returned (.bool true) ∧ Below w.heap.size w w' := by
  have HLz := Lib.hid h.1
  have HLm := Lib.hid h'.1
  have HI := Lib.hid h
  have HM := Lib.hid h'
  clear h h'
  go_enter Try.func8, Try.ntmps8
  go_wp2_with fail
  refine (few_any A' n' c' m 17 _ HM.out).mono ?_
  rintro e w' ⟨rfl, rfl⟩
  cases hf : fewB m 17 with
  | false =>
    go_wp2_with fail
    refine (awake_any _).mono ?_
    rintro e w2 ⟨rfl, hb2⟩
    have HB2 := Lib.hid hb2
    clear hb2
    go_wp2_with fail
    go_ret
    exact ⟨rfl, HB2.out⟩
  | true =>
    clear hf
    by_cases hn17 : 17 < n
    · have q1 : decide ((17 : Int) < (n : Int)) = true := by simp; omega
      go_wp2_with fail
      refine (awake_any _).mono ?_
      rintro e w2 ⟨rfl, hb2⟩
      have HB2 := Lib.hid hb2
      clear hb2
      go_wp2_with fail
      go_ret
      exact ⟨rfl, HB2.out⟩
    · have q1 : decide ((17 : Int) < (n : Int)) = false := by simp; omega
      clear hn17
      by_cases hg : gvE d t z m = 0
      · obtain ⟨d, t, z, L, rfl, rfl, rfl, gk⟩ := gv_ok HLz.out hg
        obtain rfl : n' = n := by rw [← HLm.out, gk.ml]
        have HG := Lib.hid hg
        have HK := Lib.hid gk
        obtain ⟨b, hb⟩ : ∃ b, b = decide (cfl m (facM d z (z.drop d)) d L (n' - d) < 0) := ⟨_, rfl⟩
        have HBD := Lib.hid hb
        clear hg gk hb
        go_wp2_with fail
        refine (check_ok d t A A' n' c c' z m L w HI.out HM.out HG.out HK.out).mono ?_
        rintro e w2 ⟨rfl, hb2⟩
        rw [← HBD.out]
        have HIA := Lib.hid (HI.out.kept hb2)
        have HMA := Lib.hid (HM.out.kept hb2)
        have HB2 := Lib.hid hb2
        clear hb2
        go_wp2_with fail
        refine (given_any d t A A' n' c n' c' (ints z) m w2 HIA.out HMA.out).mono ?_
        rintro e w3 ⟨rfl, hb3⟩
        rw [HG.out]
        have HIB := Lib.hid (HIA.out.kept hb3)
        have HMB := Lib.hid (HMA.out.kept hb3)
        have HB3 := Lib.hid (below_then HB2.out hb3)
        clear hb3 HIA HMA HB2
        go_wp2_with fail
        refine (rrec_any d A A' n' c n' c' z m L w3 HIB.out HMB.out HK.out.rect HK.out.L0 HK.out.L6 HK.out.d1 HK.out.d8 HK.out.dn HK.out.dn HK.out.lt16).mono ?_
        rintro e w5 ⟨A5, c5, rfl, hm5, hb5⟩
        rw [HK.out.recEq] at hm5
        have HM5 := Lib.hid hm5
        have HIC := Lib.hid (HIB.out.kept hb5)
        have HMC := Lib.hid (HMB.out.kept hb5)
        have HB5 := Lib.hid (below_then HB3.out hb5)
        clear hm5 hb5 HIB HMB HB3
        go_wp2_with fail
        refine (wrong_any d t A A' A5 n' c c' d c5 z m (recM d z m L) L w5 HIC.out HMC.out HM5.out (recM_rect HK.out.rect HK.out.dz HK.out.dm) HK.out.d1 (Nat.le_refl _) HK.out.d8 HK.out.t16 (by have := HK.out.nt; have := HK.out.t16; omega) HK.out.L6).mono ?_
        rintro e w6 ⟨v6, rfl, ho6, hb6⟩
        obtain ⟨A6, c6, rfl⟩ : ∃ A c, v6 = .slice A (wrA d z m (recM d z m L) L n' t).length c := own_slice ho6
        obtain ⟨r, hr⟩ : ∃ r, r = (wrA d z m (recM d z m L) L n' t).length := ⟨_, rfl⟩
        have HEQ : Hid (b = ((r : Int) == 0)) := Lib.hid (by
          rw [HBD.out, hr]
          have h1 := HK.out.cons
          have h2 := wrA_nil (d := d) (z := z) (m := m) (X := recM d z m L) (L := L) HK.out.lt
          by_cases h3 : wrA d z m (recM d z m L) L n' t = []
          · rw [decide_eq_true (h1.2 (h2.1 h3)), h3]; rfl
          · rw [decide_eq_false (fun h4 => h3 (h2.2 (h1.1 h4)))]
            have : (wrA d z m (recM d z m L) L n' t).length ≠ 0 := fun h5 => h3 (List.length_eq_zero_iff.1 h5)
            symm; simp; exact h3)
        rw [← hr]
        have HB6 := Lib.hid (below_then HB5.out hb6)
        clear ho6 hb6 hr HIC HMC HM5 HB5
        go_wp2_with fail
        refine (awake_any _).mono ?_
        rintro e w7 ⟨rfl, hb7⟩
        have HB7 := Lib.hid (below_then HB6.out hb7)
        clear hb7
        have q4 : (b == ((r : Int) == 0)) = true := by rw [HEQ.out]; simp
        clear HBD
        go_wp2_with fail
        go_ret
        exact ⟨rfl, HB7.out⟩
      · have HG := Lib.hid hg
        obtain ⟨r, hr⟩ : ∃ r, r = gvE d t z m := ⟨_, rfl⟩
        have q2 : (r != 0) = true := by rw [hr]; simpa using hg
        have q3 : (r != r) = false := by simp
        have HRB : Hid (Calls Try.prog 26 #[.int .i64 d, .int .i64 t, .slice A n c, .slice A' n' c'] w (ChkR false r w)) := Lib.hid (by rw [hr]; exact check_bad d t A A' n c n' c' z m w HI.out HM.out hg)
        have HR := Lib.hid hr
        clear hg hr
        go_wp2_with fail
        refine HRB.out.mono ?_
        rintro e w2 ⟨rfl, hb2⟩
        have HIA := Lib.hid (HI.out.kept hb2)
        have HMA := Lib.hid (HM.out.kept hb2)
        have HB2 := Lib.hid hb2
        clear hb2 HRB
        go_wp2_with fail
        refine (given_any d t A A' n c n' c' z m w2 HIA.out HMA.out).mono ?_
        rintro e w3 ⟨rfl, hb3⟩
        rw [← HR.out]
        have HB3 := Lib.hid (below_then HB2.out hb3)
        clear hb3 HIA HMA HB2
        go_wp2_with fail
        refine (awake_any _).mono ?_
        rintro e w4 ⟨rfl, hb4⟩
        have HB4 := Lib.hid (below_then HB3.out hb4)
        clear hb4 HB3
        go_wp2_with fail
        go_ret
        exact ⟨rfl, HB4.out⟩
end Go.Proofs.Ytoeeklkebcgmaaa
