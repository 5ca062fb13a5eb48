/- ReedsolomonRepairs: the walk. -/
import Derived.Test.YtoeeklkebcgmaaaLawRecm
import Derived.Test.YtoeeklkebcgmaaaRf9m
namespace Go.Proofs.Ytoeeklkebcgmaaa
open Go.RowKit Gf

/-- What it means that indices are in order. -/
structure IxOk (d t n : Nat) (z : List Nat) : Prop where
  d1 : 1 ≤ d
  d8 : d ≤ 8
  dt : d ≤ t
  t16 : t ≤ 16
  zl : z.length = n
  nodup : z.Nodup
  lt : ∀ i, i < n → gN z i < t
theorem ix_ok {d t : Int} {z : List Int} {n : Nat} (hz : z.length = n) (h : ixE d t z = 0) : ∃ (d' t' : Nat) (z' : List Nat), d = (d' : Int) ∧ t = (t' : Int) ∧ z = ints z' ∧ IxOk d' t' n z' := by
  unfold ixE at h
  split at h
  · rename_i h4
    rw [Bool.and_eq_true] at h4
    obtain ⟨v1, v2, v3, v4⟩ := vld_iff.1 h4.1
    have hsp := idxB_spec h4.2
    have hints : z = ints (z.map Int.toNat) := by
      apply List.ext_getElem (by simp [ints])
      intro i hi hi'
      have := (hsp i hi).1
      rw [gI_eq hi] at this
      simp [ints]; omega
    refine ⟨d.toNat, t.toNat, z.map Int.toNat, by omega, by omega, hints, ⟨by omega, by omega, by omega, by omega, by rw [List.length_map]; exact hz, ?_, fun i hi => ?_⟩⟩
    · have := idx_nodup h4.2
      rw [hints] at this
      unfold ints at this
      unfold List.Nodup at this ⊢
      rw [List.pairwise_map] at this
      exact this.imp (fun hab e => hab (by rw [e]))
    · have h6 := hsp i (by omega)
      rw [gI_eq (by omega)] at h6
      rw [gN_eq (by rw [List.length_map]; omega)]
      simp; omega
  · cases h
theorem IxOk.reg {d t n : Nat} {z : List Nat} (g : IxOk d t n z) (hdn : d ≤ n) : Reg d z := reg_all (g.nodup.sublist (List.take_sublist _ _)) (fun r hr => by
  obtain ⟨i, hi, rfl⟩ := List.getElem_of_mem hr
  have h1 : i < n := by rw [List.length_take] at hi; omega
  have h2 := g.lt i h1
  have h3 := g.t16
  rw [gN_eq (by rw [g.zl]; exact h1)] at h2
  simp; omega) g.d8 (by rw [g.zl]; exact hdn)
theorem rp_piece {d t n : Nat} {z : List Nat} {m : List (List UInt8)} {L : Nat} (g : GvOk d t n z m L) (i : Nat) : prd m (fac1 d z i) L = pcR (crw d i) (recM d z m L) L := by
  have := fac_piece g.take_nodup g.take_lt g.d8 g.dz g.rect g.dm (y := [i]) (j := 0) (by simp)
  exact this
theorem rp_row {d t n : Nat} {z : List Nat} {m : List (List UInt8)} {L : Nat} (g : GvOk d t n z m L) (i : Nat) : pcR (fac1 d z i) (m.take d) L = prd m (fac1 d z i) L := by
  have h := fac1_length (i := i) g.dz
  rw [prd_row g.rect (by rw [h]; exact g.dm), h]
/-- A slice of one slice, just made. -/
theorem one_row {w : World} {A : Option Addr} {n c : Nat} {l : List UInt8} (h : BS w A n c l) : MS (w.alloc (.cells #[.slice A n c] 22)) (some ⟨w.heap.size, 0, none⟩) 1 1 [l] :=
  ⟨rfl, Nat.le_refl _, by unfold lim; omega, fun k hk => by
    obtain rfl : k = 0 := by omega
    exact ⟨w.heap.size, 0, A, n, c, rfl, by rw [(Blk.new w _ _).cell]; rfl, h.kept ((Below.refl _ _).alloc (Nat.le_refl _) _)⟩⟩

set_option maxRecDepth 100000 in
set_option maxHeartbeats 2000000 in
theorem repairs_walk (d t : Int) (A : Option Addr) (n c : Nat) (z : List Int) (A' : Option Addr) (n' c' : Nat) (m : List (List UInt8)) (i : Int) (w : World) (h : IS w A n c z) (h' : MS w A' n' c' m) :
    Calls Try.prog 9 #[.int .i64 d, .int .i64 t, .slice A n c, .slice A' n' c', .int .i64 i] w fun e w' => e = .returned (.bool true) ∧ Below w.heap.size w w' := by
  have HLz := Lib.hid h.1
  have HLm := Lib.hid h'.1
  have HI := Lib.hid h
  have HM := Lib.hid h'
  clear h h'
  go_enter Try.func9, Try.ntmps9
  go_wp2_with fail
  refine (few_any A' n' c' m 17 _ HM.out).mono ?_
  rintro e w' ⟨rfl, rfl⟩
  cases hf : fewB m 17 with
  | false =>
    go_wp2_with fail
    refine (awake_any _).mono ?_
    rintro e w2 ⟨rfl, hb2⟩
    have HB2 := Lib.hid hb2
    clear hb2
    go_wp2_with fail
    go_ret
    exact ⟨rfl, HB2.out⟩
  | true =>
    clear hf
    by_cases hn17 : 17 < n
    · have q1 : decide ((17 : Int) < (n : Int)) = true := by simp; omega
      go_wp2_with fail
      refine (awake_any _).mono ?_
      rintro e w2 ⟨rfl, hb2⟩
      have HB2 := Lib.hid hb2
      clear hb2
      go_wp2_with fail
      go_ret
      exact ⟨rfl, HB2.out⟩
    · have q1 : decide ((17 : Int) < (n : Int)) = false := by simp; omega
      clear hn17
      cases hv : vldB d t with
      | false =>
        have HV := Lib.hid hv
        have hix : ixE d t z = 1 := by unfold ixE; rw [hv]; rfl
        have hgv : gvE d t z m = 1 := by unfold gvE; rw [if_neg (by rw [hix]; decide)]
        have hrp : rpE d t z m i = 1 := by unfold rpE; rw [if_pos (.inl hgv)]
        have hcf : cfE d t z i = 1 := by unfold cfE; rw [if_pos (.inl (by rw [hix]; decide))]
        have HRB : Hid (Calls Try.prog 28 #[.int .i64 d, .int .i64 t, .slice A n c, .slice A' n' c', .int .i64 i] w (Bad 1 w)) := Lib.hid (by
          have := repair_bad d t i A A' n c n' c' z m w HI.out HM.out (by rw [hrp]; decide)
          rwa [hrp] at this)
        have HCB : Hid (∀ W, IS W A n c z → Calls Try.prog 29 #[.int .i64 d, .int .i64 t, .slice A n c, .int .i64 i] W (Bad 1 W)) := Lib.hid (fun W hW => by
          have := coeff_bad d t i A n c z W hW (by rw [hcf]; decide)
          rwa [hcf] at this)
        clear hix hgv hrp hcf hv
        go_wp2_with fail
        refine HRB.out.mono ?_
        rintro e w2 ⟨rfl, hb2⟩
        have HIA := Lib.hid (HI.out.kept hb2)
        have HMA := Lib.hid (HM.out.kept hb2)
        have HB2 := Lib.hid hb2
        clear hb2 HRB
        go_wp2_with fail
        refine (HCB.out w2 HIA.out).mono ?_
        rintro e w3 ⟨rfl, hb3⟩
        have HIB := Lib.hid (HIA.out.kept hb3)
        have HMB := Lib.hid (HMA.out.kept hb3)
        have HB3 := Lib.hid (below_then HB2.out hb3)
        clear hb3 HIA HMA HB2
        go_wp2_with fail
        refine (rvalid_any _ _ _).mono ?_
        rintro e w' ⟨rfl, rfl⟩
        rw [HV.out]
        go_wp2_with fail
        refine (given_any _ _ A A' n c n' c' _ m w3 HIB.out HMB.out).mono ?_
        rintro e w5 ⟨rfl, hb5⟩
        have HB5 := Lib.hid (below_then HB3.out hb5)
        obtain ⟨y, hy⟩ : ∃ y, y = gvE d t z m := ⟨_, rfl⟩
        rw [← hy]
        clear hy
        clear hb5
        go_wp2_with fail
        refine (awake_any _).mono ?_
        rintro e w6 ⟨rfl, hb6⟩
        have HB6 := Lib.hid (below_then HB5.out hb6)
        clear hb6
        go_wp2_with fail
        go_ret
        exact ⟨rfl, HB6.out⟩
      | true =>
        have HV := Lib.hid hv
        by_cases hi0 : i < 0
        · clear hv
          have q2 : decide (i < 0) = true := by simpa using hi0
          have hrp : rpE d t z m i = 1 := by unfold rpE; rw [if_pos (.inr (.inl hi0))]
          have hcf : cfE d t z i = 1 := by unfold cfE; rw [if_pos (.inr (.inl hi0))]
          have HRB : Hid (Calls Try.prog 28 #[.int .i64 d, .int .i64 t, .slice A n c, .slice A' n' c', .int .i64 i] w (Bad 1 w)) := Lib.hid (by
            have := repair_bad d t i A A' n c n' c' z m w HI.out HM.out (by rw [hrp]; decide)
            rwa [hrp] at this)
          have HCB : Hid (∀ W, IS W A n c z → Calls Try.prog 29 #[.int .i64 d, .int .i64 t, .slice A n c, .int .i64 i] W (Bad 1 W)) := Lib.hid (fun W hW => by
            have := coeff_bad d t i A n c z W hW (by rw [hcf]; decide)
            rwa [hcf] at this)
          clear hrp hcf hi0
          go_wp2_with fail
          refine HRB.out.mono ?_
          rintro e w2 ⟨rfl, hb2⟩
          have HIA := Lib.hid (HI.out.kept hb2)
          have HMA := Lib.hid (HM.out.kept hb2)
          have HB2 := Lib.hid hb2
          clear hb2 HRB
          go_wp2_with fail
          refine (HCB.out w2 HIA.out).mono ?_
          rintro e w3 ⟨rfl, hb3⟩
          have HIB := Lib.hid (HIA.out.kept hb3)
          have HMB := Lib.hid (HMA.out.kept hb3)
          have HB3 := Lib.hid (below_then HB2.out hb3)
          clear hb3 HIA HMA HB2
          go_wp2_with fail
          refine (rvalid_any _ _ _).mono ?_
          rintro e w' ⟨rfl, rfl⟩
          rw [HV.out]
          go_wp2_with fail
          refine (given_any _ _ A A' n c n' c' _ m w3 HIB.out HMB.out).mono ?_
          rintro e w5 ⟨rfl, hb5⟩
          have HB5 := Lib.hid (below_then HB3.out hb5)
          obtain ⟨y, hy⟩ : ∃ y, y = gvE d t z m := ⟨_, rfl⟩
          rw [← hy]
          clear hy
          clear hb5
          go_wp2_with fail
          refine (awake_any _).mono ?_
          rintro e w6 ⟨rfl, hb6⟩
          have HB6 := Lib.hid (below_then HB5.out hb6)
          clear hb6
          go_wp2_with fail
          go_ret
          exact ⟨rfl, HB6.out⟩
        · have q2 : decide (i < 0) = false := by simpa using hi0
          by_cases hit : t ≤ i
          · clear hv
            have q3 : decide (t ≤ i) = true := by simpa using hit
            have hrp : rpE d t z m i = 1 := by unfold rpE; rw [if_pos (.inr (.inr hit))]
            have hcf : cfE d t z i = 1 := by unfold cfE; rw [if_pos (.inr (.inr hit))]
            have HRB : Hid (Calls Try.prog 28 #[.int .i64 d, .int .i64 t, .slice A n c, .slice A' n' c', .int .i64 i] w (Bad 1 w)) := Lib.hid (by
              have := repair_bad d t i A A' n c n' c' z m w HI.out HM.out (by rw [hrp]; decide)
              rwa [hrp] at this)
            have HCB : Hid (∀ W, IS W A n c z → Calls Try.prog 29 #[.int .i64 d, .int .i64 t, .slice A n c, .int .i64 i] W (Bad 1 W)) := Lib.hid (fun W hW => by
              have := coeff_bad d t i A n c z W hW (by rw [hcf]; decide)
              rwa [hcf] at this)
            clear hrp hcf hit hi0
            go_wp2_with fail
            refine HRB.out.mono ?_
            rintro e w2 ⟨rfl, hb2⟩
            have HIA := Lib.hid (HI.out.kept hb2)
            have HMA := Lib.hid (HM.out.kept hb2)
            have HB2 := Lib.hid hb2
            clear hb2 HRB
            go_wp2_with fail
            refine (HCB.out w2 HIA.out).mono ?_
            rintro e w3 ⟨rfl, hb3⟩
            have HIB := Lib.hid (HIA.out.kept hb3)
            have HMB := Lib.hid (HMA.out.kept hb3)
            have HB3 := Lib.hid (below_then HB2.out hb3)
            clear hb3 HIA HMA HB2
            go_wp2_with fail
            refine (rvalid_any _ _ _).mono ?_
            rintro e w' ⟨rfl, rfl⟩
            rw [HV.out]
            go_wp2_with fail
            refine (given_any _ _ A A' n c n' c' _ m w3 HIB.out HMB.out).mono ?_
            rintro e w5 ⟨rfl, hb5⟩
            have HB5 := Lib.hid (below_then HB3.out hb5)
            obtain ⟨y, hy⟩ : ∃ y, y = gvE d t z m := ⟨_, rfl⟩
            rw [← hy]
            clear hy
            clear hb5
            go_wp2_with fail
            refine (awake_any _).mono ?_
            rintro e w6 ⟨rfl, hb6⟩
            have HB6 := Lib.hid (below_then HB5.out hb6)
            clear hb6
            go_wp2_with fail
            go_ret
            exact ⟨rfl, HB6.out⟩
          · have q3 : decide (t ≤ i) = false := by simpa using hit
            cases hx : idxB t z with
            | false =>
              clear hv
              have HX := Lib.hid hx
              have hix : ixE d t z = 1 := by unfold ixE; rw [hx]; simp
              have hgv : gvE d t z m = 1 := by unfold gvE; rw [if_neg (by rw [hix]; decide)]
              have hrp : rpE d t z m i = 1 := by unfold rpE; rw [if_pos (.inl hgv)]
              have hcf : cfE d t z i = 1 := by unfold cfE; rw [if_pos (.inl (by rw [hix]; decide))]
              have HRB : Hid (Calls Try.prog 28 #[.int .i64 d, .int .i64 t, .slice A n c, .slice A' n' c', .int .i64 i] w (Bad 1 w)) := Lib.hid (by
                have := repair_bad d t i A A' n c n' c' z m w HI.out HM.out (by rw [hrp]; decide)
                rwa [hrp] at this)
              have HCB : Hid (∀ W, IS W A n c z → Calls Try.prog 29 #[.int .i64 d, .int .i64 t, .slice A n c, .int .i64 i] W (Bad 1 W)) := Lib.hid (fun W hW => by
                have := coeff_bad d t i A n c z W hW (by rw [hcf]; decide)
                rwa [hcf] at this)
              have HGV := Lib.hid hgv
              clear hix hgv hrp hcf hx hit hi0
              go_wp2_with fail
              refine HRB.out.mono ?_
              rintro e w2 ⟨rfl, hb2⟩
              have HIA := Lib.hid (HI.out.kept hb2)
              have HMA := Lib.hid (HM.out.kept hb2)
              have HB2 := Lib.hid hb2
              clear hb2 HRB
              go_wp2_with fail
              refine (HCB.out w2 HIA.out).mono ?_
              rintro e w3 ⟨rfl, hb3⟩
              have HIB := Lib.hid (HIA.out.kept hb3)
              have HMB := Lib.hid (HMA.out.kept hb3)
              have HB3 := Lib.hid (below_then HB2.out hb3)
              clear hb3 HIA HMA HB2
              go_wp2_with fail
              refine (rvalid_any _ _ _).mono ?_
              rintro e w' ⟨rfl, rfl⟩
              rw [HV.out]
              go_wp2_with fail
              refine (indices_any _ A n c _ w3 HIB.out).mono ?_
              rintro e w4 ⟨rfl, hb4⟩
              rw [HX.out]
              have HIC := Lib.hid (HIB.out.kept hb4)
              have HMC := Lib.hid (HMB.out.kept hb4)
              have HB4 := Lib.hid (below_then HB3.out hb4)
              clear hb4 HIB HMB HB3
              go_wp2_with fail
              refine (given_any _ _ A A' n c n' c' _ m w4 HIC.out HMC.out).mono ?_
              rintro e w5 ⟨rfl, hb5⟩
              have HB5 := Lib.hid (below_then HB4.out hb5)
              rw [HGV.out]
              clear hb5
              go_wp2_with fail
              refine (awake_any _).mono ?_
              rintro e w6 ⟨rfl, hb6⟩
              have HB6 := Lib.hid (below_then HB5.out hb6)
              clear hb6
              go_wp2_with fail
              go_ret
              exact ⟨rfl, HB6.out⟩
            | true =>
              have HX := Lib.hid hx
              have hix : ixE d t z = 0 := by unfold ixE; rw [hv, hx]; rfl
              clear hv hx
              by_cases hnd : (n : Int) < d
              · have q4 : decide ((n : Int) < d) = true := by simpa using hnd
                obtain ⟨r, hr⟩ : ∃ r, r = gvE d t z m := ⟨_, rfl⟩
                have hr0 : r ≠ 0 := by
                  rw [hr]; unfold gvE; rw [if_pos hix]
                  split
                  · rw [if_pos (by rw [HLz.out]; exact hnd)]; decide
                  · decide
                have HR0 := Lib.hid hr0
                have q5 : (r != 0) = true := by simpa using hr0
                have q6 : (r != r) = false := by simp
                have hrp : rpE d t z m i = r := by
                  unfold rpE
                  split
                  · rename_i h9
                    rcases h9 with h9 | h9 | h9
                    · rw [hr, h9]
                    · exact absurd h9 hi0
                    · exact absurd h9 hit
                  · rw [hr]
                have hcf : cfE d t z i = 10 := by unfold cfE; rw [if_neg (by rw [hix]; simp; omega), if_pos (by rw [HLz.out]; exact hnd)]
                have HRB : Hid (Calls Try.prog 28 #[.int .i64 d, .int .i64 t, .slice A n c, .slice A' n' c', .int .i64 i] w (Bad r w)) := Lib.hid (by
                  have := repair_bad d t i A A' n c n' c' z m w HI.out HM.out (by rw [hrp]; exact HR0.out)
                  rwa [hrp] at this)
                have HCB : Hid (∀ W, IS W A n c z → Calls Try.prog 29 #[.int .i64 d, .int .i64 t, .slice A n c, .int .i64 i] W (Bad 10 W)) := Lib.hid (fun W hW => by
                  have := coeff_bad d t i A n c z W hW (by rw [hcf]; decide)
                  rwa [hcf] at this)
                have HGV := Lib.hid hr
                clear hix hrp hcf hit hi0 hnd hr hr0
                go_wp2_with fail
                refine HRB.out.mono ?_
                rintro e w2 ⟨rfl, hb2⟩
                have HIA := Lib.hid (HI.out.kept hb2)
                have HMA := Lib.hid (HM.out.kept hb2)
                have HB2 := Lib.hid hb2
                clear hb2 HRB
                go_wp2_with fail
                refine (HCB.out w2 HIA.out).mono ?_
                rintro e w3 ⟨rfl, hb3⟩
                have HIB := Lib.hid (HIA.out.kept hb3)
                have HMB := Lib.hid (HMA.out.kept hb3)
                have HB3 := Lib.hid (below_then HB2.out hb3)
                clear hb3 HIA HMA HB2
                go_wp2_with fail
                refine (rvalid_any _ _ _).mono ?_
                rintro e w' ⟨rfl, rfl⟩
                rw [HV.out]
                go_wp2_with fail
                refine (indices_any _ A n c _ w3 HIB.out).mono ?_
                rintro e w4 ⟨rfl, hb4⟩
                rw [HX.out]
                have HIC := Lib.hid (HIB.out.kept hb4)
                have HMC := Lib.hid (HMB.out.kept hb4)
                have HB4 := Lib.hid (below_then HB3.out hb4)
                clear hb4 HIB HMB HB3
                go_wp2_with fail
                refine (given_any _ _ A A' n c n' c' _ m w4 HIC.out HMC.out).mono ?_
                rintro e w5 ⟨rfl, hb5⟩
                have HB5 := Lib.hid (below_then HB4.out hb5)
                rw [← HGV.out]
                clear hb5
                go_wp2_with fail
                refine (awake_any _).mono ?_
                rintro e w6 ⟨rfl, hb6⟩
                have HB6 := Lib.hid (below_then HB5.out hb6)
                clear hb6
                go_wp2_with fail
                go_ret
                exact ⟨rfl, HB6.out⟩
              · have q4 : decide ((n : Int) < d) = false := by simpa using hnd
                by_cases hg : gvE d t z m = 0
                · obtain ⟨d, t, z, L, rfl, rfl, rfl, gk⟩ := gv_ok HLz.out hg
                  obtain rfl : n' = n := by rw [← HLm.out, gk.ml]
                  obtain ⟨i, rfl⟩ : ∃ i' : Nat, i = (i' : Int) := ⟨i.toNat, by omega⟩
                  have HG := Lib.hid hg
                  have HK := Lib.hid gk
                  have HIX := Lib.hid hix
                  have hit' : i < t := by omega
                  have HIT := Lib.hid hit'
                  obtain ⟨X, hX⟩ : ∃ X, X = prd m (fac1 d z i) L := ⟨_, rfl⟩
                  have HX1 : Hid (pcR (crw d i) (recM d z m L) L = X) := Lib.hid (by rw [hX, rp_piece gk])
                  have HX2 : Hid (pcR (fac1 d z i) (m.take d) L = X) := Lib.hid (by rw [hX, rp_row gk])
                  have HXE := Lib.hid hX
                  have hbb : ((strB X).toList == (strB X).toList) = true := by simp
                  have hd1 := gk.d1
                  have hdn := gk.dn
                  have hdc : d ≤ c' := Nat.le_trans gk.dn HM.out.2.1
                  have q8 : ((d : Int) != (d : Int)) = false := by simp
                  clear hg gk hix hit hit' hX hnd
                  go_wp2_with fail
                  refine (repair_ok d t i A A' n' c c' z m L w HI.out HM.out HG.out HK.out.d1 HK.out.d8 HK.out.t16 HIT.out HK.out.lt16 HK.out.dn HK.out.rect HK.out.L6 HK.out.reg).mono ?_
                  rintro e w2 ⟨v2, rfl, A2, n2, c2, rfl, hbs2, hb2⟩
                  rw [← HXE.out] at hbs2
                  have HXA := Lib.hid hbs2
                  have HIA := Lib.hid (HI.out.kept hb2)
                  have HMA := Lib.hid (HM.out.kept hb2)
                  have HB2 := Lib.hid hb2
                  clear hb2 hbs2
                  go_wp2_with fail
                  refine (coeff_ok d t i A n' c z w2 HIA.out HIX.out HK.out.d1 HK.out.d8 HK.out.t16 HIT.out HK.out.lt16 HK.out.dn HK.out.reg).mono ?_
                  rintro e w3 ⟨v3, rfl, A3, n3, c3, rfl, hbs3, hb3⟩
                  obtain rfl : n3 = d := by rw [← hbs3.1, fac1_length HK.out.dz]
                  have HF3 := Lib.hid hbs3
                  have HXB := Lib.hid (HXA.out.kept hb3)
                  have HIB := Lib.hid (HIA.out.kept hb3)
                  have HMB := Lib.hid (HMA.out.kept hb3)
                  have HB3 := Lib.hid (below_then HB2.out hb3)
                  clear hb3 hbs3 HXA HIA HMA HB2
                  go_wp2_with fail
                  refine (rvalid_any _ _ _).mono ?_
                  rintro e w' ⟨rfl, rfl⟩
                  rw [HV.out]
                  go_wp2_with fail
                  refine (indices_any _ A n' c _ w3 HIB.out).mono ?_
                  rintro e w4 ⟨rfl, hb4⟩
                  rw [HX.out]
                  have HF4 := Lib.hid (HF3.out.kept hb4)
                  have HXC := Lib.hid (HXB.out.kept hb4)
                  have HIC := Lib.hid (HIB.out.kept hb4)
                  have HMC := Lib.hid (HMB.out.kept hb4)
                  have HB4 := Lib.hid (below_then HB3.out hb4)
                  clear hb4 HXB HIB HMB HB3 HF3
                  go_wp2_with fail
                  refine (given_any _ _ A A' n' c n' c' _ m w4 HIC.out HMC.out).mono ?_
                  rintro e w5 ⟨rfl, hb5⟩
                  rw [HG.out]
                  have HF5 := Lib.hid (HF4.out.kept hb5)
                  have HXD := Lib.hid (HXC.out.kept hb5)
                  have HID := Lib.hid (HIC.out.kept hb5)
                  have HMD := Lib.hid (HMC.out.kept hb5)
                  have HB5 := Lib.hid (below_then HB4.out hb5)
                  clear hb5 HXC HIC HMC HB4 HF4
                  have cv1 := conv_str HXD.out.drew
                  go_wp2_with fail
                  refine Text.wp_region_text (fun w' => (convert 22 9 (.slice A2 n2 c2)).run Try.prog w' = .ok (.string (strB X)) w') [(0, 4), (2, 4), (3, 4), (4, 4), (5, 4), (6, 4), (1, 0), (7, 2), (8, 2), (9, 1), (10, 4)] (by kernel_rfl) (by kernel_rfl) (fun _ _ _ _ _ h => h) (cv1) ?_
                  iterate 6 (refine Text.purek rfl rfl (fun K hK => ⟨_, fun w' => by go_simp <;> rfl, ?_⟩); go_simp; refine hK _ ?_; clear hK K)
                  (refine Text.heldk rfl rfl (fun K hK => ⟨_, fun w' hw' => by go_simp <;> rfl, ?_⟩); go_simp; refine hK _ ?_; clear hK K)
                  refine Text.eff rfl rfl (fun K hK => ?_)
                  go_simp
                  refine (rrec_any n3 A A' n' c n' c' z m L w5.drew HID.out.drew HMD.out.drew HK.out.rect HK.out.L0 HK.out.L6 HK.out.d1 HK.out.d8 HK.out.dn HK.out.dn HK.out.lt16).mono ?_
                  rintro e w6 ⟨A6, c6, rfl, hm6, hb6⟩
                  have hb6' : Below w5.heap.size w5 w6 := below_ofDrew hb6
                  rw [HK.out.recEq] at hm6
                  have HM6 := Lib.hid hm6
                  have HF6 := Lib.hid (HF5.out.kept hb6')
                  have HXE6 := Lib.hid (HXD.out.kept hb6')
                  have HME := Lib.hid (HMD.out.kept hb6')
                  have HB6 := Lib.hid (below_then HB5.out hb6')
                  refine hK _ _ (conv_str HXE6.out) ?_
                  clear hK K hm6 hb6 hb6' HXD HID HMD HB5 HF5 cv1
                  refine Text.eff rfl rfl (fun K hK => ?_)
                  go_simp
                  refine (rpiece_any n3 i A6 n3 c6 (recM n3 z m L) L w6 HM6.out (recM_rect HK.out.rect HK.out.dz HK.out.dm) HK.out.d1 (Nat.le_refl _) HK.out.d8 (by have := HIT.out; have := HK.out.t16; omega)).mono ?_
                  rintro e w7 ⟨v7, rfl, g7, n7, rfl, hn7, hg7, hk7, hb7⟩
                  rw [HX1.out] at hn7 hk7
                  have cv7 := conv_str (BS.of_blk hk7 hn7 (by rw [← HX1.out, pcR_length] at hn7; have := HK.out.L6; unfold lim; omega))
                  have HF7 := Lib.hid (HF6.out.kept hb7)
                  have HX7 := Lib.hid (HXE6.out.kept hb7)
                  have HM7 := Lib.hid (HME.out.kept hb7)
                  have HB7 := Lib.hid (below_then HB6.out hb7)
                  refine hK _ _ (conv_str HX7.out) ?_
                  clear hK K hn7 hg7 hk7 hb7 HM6 HF6 HXE6 HME HB6
                  (refine Text.readk rfl rfl (fun K hK => ⟨_, by go_simp <;> rfl, ?_⟩); go_simp; refine hK _ ?_; clear hK K)
                  (refine Text.purek rfl rfl (fun K hK => ⟨_, fun w' => by go_simp <;> rfl, ?_⟩); go_simp; refine hK _ ?_; clear hK K)
                  refine Text.done ?_
                  clear cv7
                  have cv8 := conv_str HX7.out.drew
                  go_wp2_with fail
                  refine Text.wp_region_text (fun w' => (convert 22 9 (.slice A2 n2 c2)).run Try.prog w' = .ok (.string (strB X)) w') [(0, 2), (1, 4), (2, 4), (4, 4), (6, 4), (7, 4), (8, 4), (3, 0), (5, 2), (9, 2), (10, 4), (11, 1), (12, 1), (13, 4), (14, 4), (15, 4)] (by kernel_rfl) (by kernel_rfl) (fun _ _ _ _ _ h => h) (cv8) ?_
                  refine Text.eff rfl rfl (fun K hK => ?_)
                  go_simp
                  refine (awake_any _).mono ?_
                  rintro e w8 ⟨rfl, hb8⟩
                  have hb8' : Below w7.heap.size w7 w8 := below_ofDrew hb8
                  have HF8 := Lib.hid (HF7.out.kept hb8')
                  have HX8 := Lib.hid (HX7.out.kept hb8')
                  have HM8 := Lib.hid (HM7.out.kept hb8')
                  have HB8 := Lib.hid (below_then HB7.out hb8')
                  refine hK _ _ (conv_str HX8.out) ?_
                  clear hK K hb8 hb8' HF7 HX7 HM7 HB7 cv8
                  iterate 6 (refine Text.purek rfl rfl (fun K hK => ⟨_, fun w' => by go_simp <;> rfl, ?_⟩); go_simp; refine hK _ ?_; clear hK K)
                  (refine Text.heldk rfl rfl (fun K hK => ⟨_, fun w' hw' => by go_simp <;> rfl, ?_⟩); go_simp; refine hK _ ?_; clear hK K)
                  refine Text.effw rfl rfl (fun K hK => ?_)
                  go_simp
                  have hbA : Below w8.heap.size w8 (w8.alloc (.cells #[.slice A3 n3 c3] 22)) := (Below.refl _ _).alloc (Nat.le_refl _) _
                  have HBA := Lib.hid hbA
                  have HXA := Lib.hid (HX8.out.kept hbA)
                  have HMA := Lib.hid (HM8.out.kept hbA)
                  refine hK _ _ (conv_str HXA.out) ?_
                  clear hK K hbA
                  refine Text.effw rfl rfl (fun K hK => ?_)
                  go_simp
                  refine (apply1_any _ _ (fac1 n3 z i) A' n3 c' (m.take n3) L _ (one_row HF8.out) (HMA.out.take HK.out.dn) (fun k hk => by
                    rw [List.length_take] at hk
                    rw [gR_take (by omega)]; exact HK.out.rect k (by omega)) HK.out.d1 HK.out.d8 (fac1_length HK.out.dz)).mono ?_
                  rintro e w9 ⟨gO, cap, rfl, ⟨G, ht⟩, hb9⟩
                  rw [HX2.out] at ht
                  have hc9 := ht.cell (i := 0) (by decide)
                  have cv9 := conv_str (BS.of_blk (l := X) (ht.rows 0 (by decide)) (ht.rect 0 (by simp)) (by have := HK.out.L6; unfold lim; omega))
                  have HB9 := Lib.hid (below_then HB8.out (below_then HBA.out hb9))
                  refine hK _ _ (conv_str (HXA.out.kept hb9)) ?_
                  clear hK K ht hb9 HBA HXA HMA HF8 HX8 HM8 HB8
                  (refine Text.purek rfl rfl (fun K hK => ⟨_, fun w' => by go_simp <;> rfl, ?_⟩); go_simp; refine hK _ ?_; clear hK K)
                  iterate 2 (refine Text.readk rfl rfl (fun K hK => ⟨_, by go_simp <;> rfl, ?_⟩); go_simp; refine hK _ ?_; clear hK K)
                  iterate 3 (refine Text.purek rfl rfl (fun K hK => ⟨_, fun w' => by go_simp <;> rfl, ?_⟩); go_simp; refine hK _ ?_; clear hK K)
                  refine Text.done ?_
                  go_wp2_with fail
                  go_ret
                  exact ⟨rfl, HB9.out⟩
                · obtain ⟨r, hr⟩ : ∃ r, r = gvE d t z m := ⟨_, rfl⟩
                  have hr0 : r ≠ 0 := by rw [hr]; exact hg
                  have HR0 := Lib.hid hr0
                  have q5 : (r != 0) = true := by simpa using hr0
                  have q6 : (r != r) = false := by simp
                  have hrp : rpE d t z m i = r := by
                    unfold rpE
                    split
                    · rename_i h9
                      rcases h9 with h9 | h9 | h9
                      · rw [hr, h9]
                      · exact absurd h9 hi0
                      · exact absurd h9 hit
                    · rw [hr]
                  have HRB : Hid (Calls Try.prog 28 #[.int .i64 d, .int .i64 t, .slice A n c, .slice A' n' c', .int .i64 i] w (Bad r w)) := Lib.hid (by
                    have := repair_bad d t i A A' n c n' c' z m w HI.out HM.out (by rw [hrp]; exact hr0)
                    rwa [hrp] at this)
                  have HCO : Hid (∀ W, IS W A n c z → Calls Try.prog 29 #[.int .i64 d, .int .i64 t, .slice A n c, .int .i64 i] W fun e w' => ∃ A3 n3 c3, e = .returned (.tuple #[.slice A3 n3 c3, .int .i64 0]) ∧ ((n3 : Int) != d) = false ∧ Below W.heap.size W w') := Lib.hid (fun W hW => by
                    obtain ⟨d', t', z', rfl, rfl, rfl, gk⟩ := ix_ok HLz.out hix
                    obtain ⟨i', rfl⟩ : ∃ i' : Nat, i = (i' : Int) := ⟨i.toNat, by omega⟩
                    have hdn : d' ≤ n := by omega
                    refine (coeff_ok d' t' i' A n c z' W hW hix gk.d1 gk.d8 gk.t16 (by omega) (fun k hk => by have := gk.lt k hk; have := gk.t16; omega) hdn (gk.reg hdn)).mono ?_
                    rintro e w3 ⟨v3, rfl, A3, n3, c3, rfl, hbs3, hb3⟩
                    refine ⟨A3, n3, c3, rfl, ?_, hb3⟩
                    have := hbs3.1
                    rw [fac1_length (by rw [gk.zl]; exact hdn)] at this
                    rw [this]; simp)
                  have HGV := Lib.hid hr
                  clear hix hrp hit hi0 hnd hr hr0 hg
                  go_wp2_with fail
                  refine HRB.out.mono ?_
                  rintro e w2 ⟨rfl, hb2⟩
                  have HIA := Lib.hid (HI.out.kept hb2)
                  have HMA := Lib.hid (HM.out.kept hb2)
                  have HB2 := Lib.hid hb2
                  clear hb2 HRB
                  go_wp2_with fail
                  refine (HCO.out w2 HIA.out).mono ?_
                  rintro e w3 ⟨A3, n3, c3, rfl, q7, hb3⟩
                  have HIB := Lib.hid (HIA.out.kept hb3)
                  have HMB := Lib.hid (HMA.out.kept hb3)
                  have HB3 := Lib.hid (below_then HB2.out hb3)
                  clear hb3 HIA HMA HB2
                  go_wp2_with fail
                  refine (rvalid_any _ _ _).mono ?_
                  rintro e w' ⟨rfl, rfl⟩
                  rw [HV.out]
                  go_wp2_with fail
                  refine (indices_any _ A n c _ w3 HIB.out).mono ?_
                  rintro e w4 ⟨rfl, hb4⟩
                  rw [HX.out]
                  have HIC := Lib.hid (HIB.out.kept hb4)
                  have HMC := Lib.hid (HMB.out.kept hb4)
                  have HB4 := Lib.hid (below_then HB3.out hb4)
                  clear hb4 HIB HMB HB3
                  go_wp2_with fail
                  refine (given_any _ _ A A' n c n' c' _ m w4 HIC.out HMC.out).mono ?_
                  rintro e w5 ⟨rfl, hb5⟩
                  have HB5 := Lib.hid (below_then HB4.out hb5)
                  rw [← HGV.out]
                  clear hb5
                  go_wp2_with fail
                  refine (awake_any _).mono ?_
                  rintro e w6 ⟨rfl, hb6⟩
                  have HB6 := Lib.hid (below_then HB5.out hb6)
                  clear hb6
                  go_wp2_with fail
                  go_ret
                  exact ⟨rfl, HB6.out⟩
end Go.Proofs.Ytoeeklkebcgmaaa
