/- ReedsolomonEncodes: the walk. -/
import Derived.Test.YtoeeklkebcgmaaaAwk
import Derived.Test.YtoeeklkebcgmaaaRf5
import Derived.Test.YtoeeklkebcgmaaaLawTotals
namespace Go.Proofs.Ytoeeklkebcgmaaa
open Go.RowKit Gf

/-- The slices of old rows, copied into a row of the call's own. -/
theorem copy_rows {w0 w w1 : World} {A : Option Addr} {n c : Nat} {m : List (List UInt8)} {ps : List Value} {v1 : Value} (h : MS w0 A n c m) (hb : Below w0.heap.size w0 w) (hne : ∀ j, j < n → (gR m j).length ≠ 0)
    (p3 : ∀ j, j < n → ∃ A' n' c', ps[j]? = some (.slice A' n' c') ∧ BS w0 A' n' c' (gR m j)) (hp1 : AppPost w0.heap.size 22 (.slice (some ⟨w.heap.size, 0, none⟩) 0 0) 0 n ([] ++ ps) v1 (w.alloc (.cells #[] 22)) w1) : OwnM w1 w0.heap.size v1 n m ∧ Below w0.heap.size w0 w1 := by
  have hb1 : Below w0.heap.size w0 w1 := (hb.alloc hb.size _).grown hp1.2.1 (by simp; have := hb.size; omega) (by simp [Value.ownBlock]; exact hb.size)
  have ho := hp1.1
  rw [Nat.zero_add, List.nil_append] at ho
  refine ⟨⟨h.1, ps, ho, fun j hj => ?_⟩, hb1⟩
  obtain ⟨A', n', c', q, hbs⟩ := p3 j hj
  have hn' : 0 < n' := by rw [← hbs.1]; have := hne j hj; omega
  refine ⟨A', n', c', q, hbs.kept hb1, hn', fun g' o' e e' => ?_⟩
  obtain ⟨g2, o2, e2, hc⟩ := hbs.2.2.2 0 hn'
  rw [e] at e2
  injection e2 with e2
  injection e2 with e2
  have h1 := cell_lt hc
  have h2 := ho.lt g' e'
  simp only at h1
  omega
def EncJ (blocks : List (List UInt8)) (L k : Nat) (v : Value) (w wr : World) : Prop := OwnM wr w.heap.size v k (fillB blocks L k) ∧ Below w.heap.size w wr ∧ (∃ A c, v = .slice A k c)

set_option maxRecDepth 100000 in
set_option maxHeartbeats 4000000 in
theorem encodes_walk (d t : Int) (A : Option Addr) (n c : Nat) (m : List (List UInt8)) (w : World) (h : MS w A n c m) :
    Calls Try.prog 4 #[.int .i64 d, .int .i64 t, .slice A n c] w fun e w' => e = .returned (.bool true) ∧ Below w.heap.size w w' := by
  have HLm := Lib.hid h.1
  have HM := Lib.hid h
  clear h
  go_enter Try.func4, Try.ntmps4
  go_wp2_with fail
  refine (few_any A n c m 9 _ HM.out).mono ?_
  rintro e w' ⟨rfl, rfl⟩
  cases hf : fewB m 9 with
  | false =>
    go_wp2_with fail
    refine (awake_any _).mono ?_
    rintro e w2 ⟨rfl, hb2⟩
    have HB2 := Lib.hid hb2
    clear hb2
    go_wp2_with fail
    go_ret
    exact ⟨rfl, HB2.out⟩
  | true =>
    clear hf
    by_cases hok : vldB d t = true ∧ 0 < n ∧ (n : Int) ≤ d ∧ oneB m = true
    · obtain ⟨hv, hn0, hnd, hone⟩ := hok
      obtain ⟨v1, v2, v3, v4⟩ := vld_iff.1 hv
      obtain ⟨d, rfl⟩ : ∃ k : Nat, d = (k : Int) := ⟨d.toNat, by omega⟩
      obtain ⟨t, rfl⟩ : ∃ k : Nat, t = (k : Int) := ⟨t.toNat, by omega⟩
      have h1 : 1 ≤ d := by omega
      have h2 : d ≤ 8 := by omega
      have h3 : d ≤ t := by omega
      have h4 : t ≤ 16 := by omega
      have hnd' : n ≤ d := by omega
      obtain ⟨L, hL⟩ : ∃ L, L = (gR m 0).length := ⟨_, rfl⟩
      have hrect : Rect m L := fun i hi => by rw [(oneB_spec hone i hi).2.2, hL]
      have hL0 : 0 < L := by have := (oneB_spec hone 0 (by rw [HLm.out]; exact hn0)).1; omega
      have HONE := Lib.hid hone
      have HL := Lib.hid hL
      have HV := Lib.hid hv
      have HNE : Hid (∀ j, j < n → (gR m j).length ≠ 0) := Lib.hid (fun j hj => (oneB_spec hone j (by rw [HLm.out]; exact hj)).1)
      have HE1 : Hid (encM d t m L = rencM d t (fillB m L d) L) := Lib.hid (encM_eq hrect (by rw [HLm.out]; exact hnd'))
      have HRC := Lib.hid hrect
      have HBL : Hid (blkB m (d : Int) = true) := Lib.hid (by unfold blkB; rw [hone, HLm.out]; simp; omega)
      clear hone hL hv hrect v1 v2 v3 v4 hnd
      go_wp2_with fail
      refine (encode_ok d t n c A m L w h1 h2 h3 h4 HM.out hn0 hnd' HONE.out HL.out.symm).mono ?_
      rintro e w2 ⟨v2, rfl, hv2⟩
      rw [HE1.out] at hv2
      obtain ⟨g2, n2, rfl, hn2, hm2, hb2⟩ := hv2.ms (by rw [rencM_length]; unfold lim; omega)
      obtain rfl : n2 = t := by rw [← hn2, rencM_length]
      have HM2 := Lib.hid hm2
      have HMA := Lib.hid (HM.out.kept hb2)
      have HB2 := Lib.hid hb2
      clear hm2 hb2 hv2 hn2
      go_wp2_with fail
      refine (rvalid_any _ _ _).mono ?_
      rintro e w' ⟨rfl, rfl⟩
      rw [HV.out]
      go_wp2_with fail
      refine (blocks_any A n c m d _ HMA.out).mono ?_
      rintro e w3 ⟨rfl, hb3⟩
      rw [HBL.out]
      have HMB := Lib.hid (HMA.out.kept hb3)
      have HM23 := Lib.hid (HM2.out.kept hb3)
      have HB3 := Lib.hid (below_then HB2.out hb3)
      clear hb3 HMA HM2 HB2
      obtain ⟨g, o, _, _, _, rfl, _⟩ := HMB.out.at_ (Below.refl _ _) hn0
      obtain ⟨ps, p1, p2, p3⟩ := HMB.out.list
      have HO0 : Hid ((w3.alloc (.cells #[] 22)).ownsRow w3.heap.size 22 1 (.slice (some ⟨w3.heap.size, 0, none⟩) 0 0) 0 []) :=
        Lib.hid (World.ownsRow_lit w3 #[] 0 (Nat.le_refl _) (by simp [maxLen]) rfl)
      have hbA : Below w3.heap.size w3 (w3.alloc (.cells #[] 22)) := (Below.refl _ _).alloc (Nat.le_refl _) _
      have HC := Lib.hid (p2.kept hbA)
      have H1 : Hid (∀ u ∈ ps, u.oneCell' = true) := Lib.hid (fun u hu => by
        obtain ⟨j, hj⟩ := List.getElem?_of_mem hu
        have hjn : j < n := by rw [← p1]; exact (List.getElem?_eq_some_iff.1 hj).1
        obtain ⟨A', n', c', q, _⟩ := p3 j hjn
        rw [q] at hj
        injection hj with hj
        subst hj
        rfl)
      have P1 := Lib.hid p1
      have P3 := Lib.hid p3
      clear p1 p2 p3 hbA
      go_wp2_with (first
        | (at_builtin; refine wpList_app _ rfl (.tmp 41) (.tmp 42) 30 rfl w3.heap.size 22 (.slice none 0 0) 24 Try.underlying30 infoBytes rfl (.slice (some ⟨w3.heap.size, 0, none⟩) 0 0) 0 [] rfl HO0.out (some ⟨g, o, none⟩) n c ps rfl P1.out HC.out H1.out (by omega) (by omega) (by simp) ?_; intro v4 w4 hp4))
      have HCR := Lib.hid (copy_rows HMB.out (Below.refl _ _) HNE.out P3.out hp4)
      obtain ⟨A4, c4, rfl, _⟩ := HCR.out.1.ms (by unfold lim; omega)
      have HI : Hid (EncJ m L n (.slice A4 n c4) w3 w4) := Lib.hid ⟨by rw [← HLm.out, fillB_start, HLm.out]; exact HCR.out.1, HCR.out.2, A4, c4, rfl⟩
      have hmk := make_bytes L (by
        obtain ⟨_, _, _, _, _, _, _, hr0⟩ := HMB.out.at_ (Below.refl _ _) hn0
        have q1 := hr0.len_le
        have q2 := hr0.1
        have q3 := HL.out
        omega)
      clear hp4 HCR HO0 HC H1 P1 P3
      go_wp2_with fail
      go_loopw [9] (fun v wr => ∃ k : Nat, n ≤ k ∧ k ≤ d ∧ Hid (EncJ m L k v w3 wr)) (fun v _ => d - lenOf v)
      case atStart => exact ⟨n, Nat.le_refl _, hnd', HI⟩
      case round =>
        obtain ⟨k, hk1, hk, hJ⟩ := hrel
        obtain ⟨ho, hb, Av, cv, rfl⟩ := hJ.out
        by_cases hlt : k < d
        · obtain ⟨g', o', A2, n2', c2, e2, hca0, hra⟩ := HMB.out.at_ (Below.refl _ _) hn0
          injection e2 with e2
          injection e2 with e21 e22
          subst e21 e22
          obtain rfl : n2' = L := by rw [← hra.1, HL.out]
          rw [Nat.add_zero] at hca0
          have hca := cell_kept hb hca0
          obtain ⟨hm, ps', hown, hps⟩ := ho
          have hbM : Below wr.heap.size wr (wr.alloc (.cells (row (zeros n2')) 5)) := (Below.refl _ _).alloc (Nat.le_refl _) _
          have hbM2 : Below wr.heap.size wr ((wr.alloc (.cells (row (zeros n2')) 5)).alloc (.cells #[.slice (some ⟨wr.heap.size, 0, none⟩) n2' n2'] 22)) := hbM.alloc (by simp) _
          have HOW := Lib.hid (Kp.own (S := fun _ => False) (Kp.of_below hbM2) hown (fun _ _ => id))
          have HBM2 := Lib.hid hbM2
          have HB := Lib.hid hb
          have HM' := Lib.hid hm
          have HPS := Lib.hid hps
          have HOWN := Lib.hid hown
          have HLL := Lib.hid hra.len_le
          clear hb hm hps hown hra hca0 hbM hbM2 HI hJ
          go_wp2_with (first
            | (at_builtin; refine wpList_app1 _ rfl (.tmp 48) (.tmp 54) 30 22 (.slice none 0 0) 24 Try.underlying30 infoBytes rfl rfl w3.heap.size (.slice Av k cv) k ps' rfl HOW.out (wr.heap.size + 1) 1 22 (.slice (some ⟨wr.heap.size, 0, none⟩) n2' n2') rfl (Blk.new1 wr (.cells (row (zeros n2')) 5) _ _) rfl (by omega) (by omega) (Nat.le_trans HB.out.size HBM2.out.size) ?_; intro v4 w4 hp4))
          have HR : Hid (EncJ m n2' (k + 1) v4 w3 w4) := by
            have hpl : ps'.length = k := by have := HOWN.out.1; simpa using this
            have hz : BS ((wr.alloc (.cells (row (zeros n2')) 5)).alloc (.cells #[.slice (some ⟨wr.heap.size, 0, none⟩) n2' n2'] 22)) (some ⟨wr.heap.size, 0, none⟩) n2' n2' (zeros n2') :=
              BS.of_blk ((Blk.new wr _ _).alloc _) (zeros_length n2') (by have := HLL.out; unfold lim; omega)
            have h5 := OwnM.push (Nat.le_trans HB.out.size HBM2.out.size) HM'.out (fun j hj => by
              obtain ⟨A', k', c', p1, p2, p3, p4⟩ := HPS.out j hj
              exact ⟨A', k', c', p1, p2.kept HBM2.out, p3, p4⟩) hpl hz hL0 (fun g' o' e e' => by
                injection e with e
                injection e with e
                have := HOWN.out.lt g' e'
                omega) hp4
            rw [← fillB_succ _ _ _ (by rw [HLm.out]; exact hk1)] at h5
            obtain ⟨A5, c5, e5, _⟩ := h5.ms (by unfold lim; omega)
            exact Lib.hid ⟨h5, (below_thenB HB.out HB.out.size HBM2.out).grown hp4.2.1 (Nat.le_trans HB.out.size HBM2.out.size) (fun b hb' => own_base HOWN.out b hb'), A5, c5, e5⟩
          clear hp4
          go_roundw
          case rel => exact ⟨k + 1, by omega, by omega, HR⟩
          case measure =>
            obtain ⟨_, _, A5, c5, rfl⟩ := HR.out
            simp [lenOf]; omega
        · obtain rfl : k = d := by omega
          have HO := Lib.hid ho
          have HB := Lib.hid hb
          have HB4 := Lib.hid (below_then HB3.out hb)
          have HM24 := Lib.hid (HM23.out.kept hb)
          obtain ⟨A5, c5, e5, hm5⟩ := ho.ms (by unfold lim; omega)
          injection e5 with e51 e52 e53
          subst e51 e53
          have HM5 := Lib.hid hm5
          clear ho hb HI hmk hJ hm5 HM23 HB3
          go_wp2_with fail
          refine (awake_any _).mono ?_
          rintro e w5 ⟨rfl, hb5⟩
          have HM25 := Lib.hid (HM24.out.kept hb5)
          have HM55 := Lib.hid (HM5.out.kept hb5)
          have HB5 := Lib.hid (below_then HB4.out hb5)
          clear hb5 HM24 HM5 HB4
          go_wp2_with fail
          refine (rencode_any k n2 Av k cv (fillB m L k) L w5 HM55.out (fillB_rect m L k HRC.out (by rw [HLm.out]; exact hnd')) hL0 (by omega) (Nat.le_refl _) h2 h4).mono ?_
          rintro e w6 ⟨v6, rfl, ho6, hb6⟩
          obtain ⟨A6, c6, rfl, hm6⟩ := ho6.ms (by unfold lim; omega)
          have HM6 := Lib.hid hm6
          have HM26 := Lib.hid (HM25.out.kept hb6)
          have HB6 := Lib.hid (below_then HB5.out hb6)
          clear ho6 hm6 hb6 HM25 HM55 HB5
          go_wp2_with fail
          refine (same_any _ _ n2 n2 n2 c6 _ _ w6 HM26.out HM6.out).mono ?_
          rintro e w7 ⟨rfl, hb7⟩
          rw [show sameB (rencM k n2 (fillB m L k) L) (rencM k n2 (fillB m L k) L) = true from decide_eq_true rfl]
          have HB7 := Lib.hid (below_then HB6.out hb7)
          clear hb7
          go_wp2_with fail
          go_ret
          exact ⟨rfl, HB7.out⟩
    · have HBAD := Lib.hid hok
      go_wp2_with fail
      refine (encode_bad d t A n c m w HM.out HBAD.out).mono ?_
      rintro e w' ⟨rfl, rfl⟩
      clear hok
      go_wp2_with fail
      refine (rvalid_any _ _ _).mono ?_
      rintro e w' ⟨rfl, rfl⟩
      cases hv : vldB d t with
      | false =>
        go_wp2_with fail
        refine (awake_any _).mono ?_
        rintro e w2 ⟨rfl, hb2⟩
        have HB2 := Lib.hid hb2
        clear hb2
        go_wp2_with fail
        go_ret
        exact ⟨rfl, HB2.out⟩
      | true =>
        have HBL : Hid (blkB m d = false) := Lib.hid (by
          rw [Bool.eq_false_iff]
          intro hbl
          simp only [blkB, Bool.and_eq_true, decide_eq_true_eq] at hbl
          rw [HLm.out] at hbl
          exact HBAD.out ⟨hv, by omega, hbl.2, hbl.1.1⟩)
        clear hv
        go_wp2_with fail
        refine (blocks_any A n c m d _ HM.out).mono ?_
        rintro e w1 ⟨rfl, hb1⟩
        rw [HBL.out]
        have HB1 := Lib.hid hb1
        clear hb1
        go_wp2_with fail
        refine (awake_any _).mono ?_
        rintro e w2 ⟨rfl, hb2⟩
        have HB2 := Lib.hid (below_then HB1.out hb2)
        clear hb2
        go_wp2_with fail
        go_ret
        exact ⟨rfl, HB2.out⟩
end Go.Proofs.Ytoeeklkebcgmaaa
