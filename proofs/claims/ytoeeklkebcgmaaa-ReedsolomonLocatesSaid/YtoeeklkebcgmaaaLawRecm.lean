/- ReedsolomonReconstructs: the walk; and what good arguments of given pieces are. -/
import Derived.Test.YtoeeklkebcgmaaaA4
import Derived.Test.YtoeeklkebcgmaaaA7
namespace Go.Proofs.Ytoeeklkebcgmaaa
open Go.RowKit Gf

/-- What it means that given pieces are in order. -/
structure GvOk (d t n : Nat) (z : List Nat) (m : List (List UInt8)) (L : Nat) : Prop where
  d1 : 1 ≤ d
  d8 : d ≤ 8
  dt : d ≤ t
  t16 : t ≤ 16
  dn : d ≤ n
  zl : z.length = n
  ml : m.length = n
  nt : n ≤ t
  rect : Rect m L
  L0 : 0 < L
  L6 : L ≤ 65536
  nodup : z.Nodup
  lt : ∀ i, i < n → gN z i < t
theorem gv_ok {d t : Int} {z : List Int} {m : List (List UInt8)} {n : Nat} (hz : z.length = n) (h : gvE d t z m = 0) : ∃ (d' t' : Nat) (z' : List Nat) (L : Nat), d = (d' : Int) ∧ t = (t' : Int) ∧ z = ints z' ∧ GvOk d' t' n z' m L := by
  unfold gvE at h
  split at h
  · rename_i h1
    split at h
    · rename_i h2
      split at h
      · cases h
      · rename_i h3
        unfold ixE at h1
        split at h1
        · rename_i h4
          rw [Bool.and_eq_true] at h4
          obtain ⟨v1, v2, v3, v4⟩ := vld_iff.1 h4.1
          have hsp := idxB_spec h4.2
          have hints : z = ints (z.map Int.toNat) := by
            apply List.ext_getElem (by simp [ints])
            intro i hi hi'
            have := (hsp i hi).1
            rw [gI_eq hi] at this
            simp [ints]; omega
          have hn0 : 0 < m.length := by omega
          have hone := oneB_spec h2.2
          refine ⟨d.toNat, t.toNat, z.map Int.toNat, (gR m 0).length, by omega, by omega, hints, ⟨by omega, by omega, by omega, by omega, by omega, by rw [List.length_map]; exact hz, by omega, ?_, fun i hi => (hone i hi).2.2, ?_, (hone 0 hn0).2.1, ?_, fun i hi => ?_⟩⟩
          · rcases idx_len h4.2 with h5 | h5
            · omega
            · rw [h5] at hz; simp at hz; omega
          · have := (hone 0 hn0).1; omega
          · have := idx_nodup h4.2
            rw [hints] at this
            unfold ints at this
            unfold List.Nodup at this ⊢
            rw [List.pairwise_map] at this
            exact this.imp (fun hab e => hab (by rw [e]))
          · have h6 := hsp i (by omega)
            rw [gI_eq (by omega)] at h6
            rw [gN_eq (by rw [List.length_map]; omega)]
            simp; omega
        · cases h1
    · cases h
  · cases h
section
variable {d t n : Nat} {z : List Nat} {m : List (List UInt8)} {L : Nat} (g : GvOk d t n z m L)
include g
theorem GvOk.take_nodup : (z.take d).Nodup := g.nodup.sublist (List.take_sublist _ _)
theorem GvOk.take_lt : ∀ r ∈ z.take d, r < 16 := fun r hr => by
  obtain ⟨i, hi, rfl⟩ := List.getElem_of_mem hr
  have h1 : i < n := by rw [List.length_take] at hi; have := g.dn; omega
  have h2 := g.lt i h1
  have h3 := g.t16
  rw [gN_eq (by rw [g.zl]; exact h1)] at h2
  simp; omega
theorem GvOk.lt16 : ∀ i, i < n → gN z i < 16 := fun i hi => by have := g.lt i hi; have := g.t16; omega
theorem GvOk.reg : Reg d z := reg_all g.take_nodup g.take_lt g.d8 (by rw [g.zl]; exact g.dn)
theorem GvOk.dz : d ≤ z.length := by rw [g.zl]; exact g.dn
theorem GvOk.dm : d ≤ m.length := by rw [g.ml]; exact g.dn
theorem GvOk.recEq : refRec d z m L = recM d z m L := refRec_eq g.take_nodup g.take_lt g.d8 g.dz g.rect g.dm
end

set_option maxRecDepth 100000 in
set_option maxHeartbeats 2000000 in
theorem rec_walk (d t : Int) (A : Option Addr) (n c : Nat) (z : List Int) (A' : Option Addr) (n' c' : Nat) (m : List (List UInt8)) (w : World) (h : IS w A n c z) (h' : MS w A' n' c' m) :
    Calls Try.prog 7 #[.int .i64 d, .int .i64 t, .slice A n c, .slice A' n' c'] w fun e w' => e = .returned (.bool true) ∧ Below w.heap.size w w' := by
  have HLz := Lib.hid h.1
  have HLm := Lib.hid h'.1
  have HI := Lib.hid h
  have HM := Lib.hid h'
  clear h h'
  go_enter Try.func7, Try.ntmps7
  go_wp2_with fail
  refine (few_any A' n' c' m 17 _ HM.out).mono ?_
  rintro e w' ⟨rfl, rfl⟩
  cases hf : fewB m 17 with
  | false =>
    go_wp2_with fail
    refine (awake_any _).mono ?_
    rintro e w2 ⟨rfl, hb2⟩
    have HB2 := Lib.hid hb2
    clear hb2
    go_wp2_with fail
    go_ret
    exact ⟨rfl, HB2.out⟩
  | true =>
    clear hf
    by_cases hn17 : 17 < n
    · have q1 : decide ((17 : Int) < (n : Int)) = true := by simp; omega
      go_wp2_with fail
      refine (awake_any _).mono ?_
      rintro e w2 ⟨rfl, hb2⟩
      have HB2 := Lib.hid hb2
      clear hb2
      go_wp2_with fail
      go_ret
      exact ⟨rfl, HB2.out⟩
    · have q1 : decide ((17 : Int) < (n : Int)) = false := by simp; omega
      clear hn17
      by_cases hg : gvE d t z m = 0
      · obtain ⟨d, t, z, L, rfl, rfl, rfl, gk⟩ := gv_ok HLz.out hg
        obtain rfl : n' = n := by rw [← HLm.out, gk.ml]
        have HG := Lib.hid hg
        have HK := Lib.hid gk
        clear hg gk
        go_wp2_with fail
        refine (reconstruct_ok d t A A' n' c c' z m L w HI.out HM.out HG.out HK.out.d1 HK.out.d8 HK.out.lt16 HK.out.dn HK.out.rect HK.out.L6 HK.out.reg).mono ?_
        rintro e w2 ⟨v2, rfl, hv2⟩
        obtain ⟨g2, n2, rfl, hn2, hm2, hb2⟩ := hv2.ms (by rw [recM_length]; have := HK.out.d8; unfold lim; omega)
        obtain rfl : n2 = d := by rw [← hn2, recM_length]
        have HM2 := Lib.hid hm2
        have HIA := Lib.hid (HI.out.kept hb2)
        have HMA := Lib.hid (HM.out.kept hb2)
        have HB2 := Lib.hid hb2
        clear hm2 hb2 hv2 hn2
        go_wp2_with fail
        refine (given_any n2 t A A' n' c n' c' (ints z) m w2 HIA.out HMA.out).mono ?_
        rintro e w3 ⟨rfl, hb3⟩
        rw [HG.out]
        have HM3 := Lib.hid (HM2.out.kept hb3)
        have HIB := Lib.hid (HIA.out.kept hb3)
        have HMB := Lib.hid (HMA.out.kept hb3)
        have HB3 := Lib.hid (below_then HB2.out hb3)
        clear hb3 HM2 HIA HMA HB2
        go_wp2_with fail
        refine (awake_any _).mono ?_
        rintro e w4 ⟨rfl, hb4⟩
        have HM4 := Lib.hid (HM3.out.kept hb4)
        have HIC := Lib.hid (HIB.out.kept hb4)
        have HMC := Lib.hid (HMB.out.kept hb4)
        have HB4 := Lib.hid (below_then HB3.out hb4)
        clear hb4 HM3 HIB HMB HB3
        go_wp2_with fail
        refine (rrec_any n2 A A' n' c n' c' z m L w4 HIC.out HMC.out HK.out.rect HK.out.L0 HK.out.L6 HK.out.d1 HK.out.d8 HK.out.dn HK.out.dn HK.out.lt16).mono ?_
        rintro e w5 ⟨A5, c5, rfl, hm5, hb5⟩
        rw [HK.out.recEq] at hm5
        have HM5 := Lib.hid hm5
        have HM45 := Lib.hid (HM4.out.kept hb5)
        have HB5 := Lib.hid (below_then HB4.out hb5)
        clear hm5 hb5 HM4 HIC HMC HB4
        go_wp2_with fail
        refine (same_any _ _ n2 n2 n2 c5 _ _ w5 HM45.out HM5.out).mono ?_
        rintro e w6 ⟨rfl, hb6⟩
        rw [show sameB (recM n2 z m L) (recM n2 z m L) = true from decide_eq_true rfl]
        have HB6 := Lib.hid (below_then HB5.out hb6)
        clear hb6
        go_wp2_with fail
        go_ret
        exact ⟨rfl, HB6.out⟩
      · have HG := Lib.hid hg
        obtain ⟨r, hr⟩ : ∃ r, r = gvE d t z m := ⟨_, rfl⟩
        have q2 : (r != 0) = true := by rw [hr]; simpa using hg
        have q3 : (r != r) = false := by simp
        have HRB : Hid (Calls Try.prog 24 #[.int .i64 d, .int .i64 t, .slice A n c, .slice A' n' c'] w (Bad r w)) := Lib.hid (by rw [hr]; exact reconstruct_bad d t A A' n c n' c' z m w HI.out HM.out hg)
        have HR := Lib.hid hr
        clear hg hr
        go_wp2_with fail
        refine HRB.out.mono ?_
        rintro e w2 ⟨rfl, hb2⟩
        have HIA := Lib.hid (HI.out.kept hb2)
        have HMA := Lib.hid (HM.out.kept hb2)
        have HB2 := Lib.hid hb2
        clear hb2 HRB
        go_wp2_with fail
        refine (given_any d t A A' n c n' c' z m w2 HIA.out HMA.out).mono ?_
        rintro e w3 ⟨rfl, hb3⟩
        rw [← HR.out]
        have HB3 := Lib.hid (below_then HB2.out hb3)
        clear hb3 HIA HMA HB2
        go_wp2_with fail
        refine (awake_any _).mono ?_
        rintro e w4 ⟨rfl, hb4⟩
        have HB4 := Lib.hid (below_then HB3.out hb4)
        clear hb4 HB3
        go_wp2_with fail
        go_ret
        exact ⟨rfl, HB4.out⟩
end Go.Proofs.Ytoeeklkebcgmaaa
