/- Contracts of package reedsolomon: conflict. -/
import Derived.Test.YtoeeklkebcgmaaaStr
namespace Go.Proofs.Ytoeeklkebcgmaaa
open Go.RowKit Gf

attribute [local go_sem] Gf.xor_bits Gf.and_bits Gf.or_bits Gf.ne_zero_iff Gf.eq_zero_iff Gf.eq_one_iff Gf.beq_bytes Gf.bne_bytes Gf.bv_toNat

/-- The first place at which two lists differ. -/
def fdf : List UInt8 → List UInt8 → Nat
  | a :: l, b :: l' => if a = b then fdf l l' + 1 else 0
  | _, _ => 0
theorem gB_zero (a : UInt8) (l : List UInt8) : gB (a :: l) 0 = a := rfl
theorem gB_succ (a : UInt8) (l : List UInt8) (i : Nat) : gB (a :: l) (i + 1) = gB l i := rfl
theorem fdf_spec : ∀ (l l' : List UInt8), l.length = l'.length → l ≠ l' → fdf l l' < l.length ∧ (∀ i, i < fdf l l' → gB l i = gB l' i) ∧ gB l (fdf l l') ≠ gB l' (fdf l l')
  | [], [], _, h => absurd rfl h
  | [], _ :: _, h, _ => by simp at h
  | _ :: _, [], h, _ => by simp at h
  | a :: l, b :: l', h, hne => by
    by_cases e : a = b
    · subst e
      obtain ⟨h1, h2, h3⟩ := fdf_spec l l' (by simpa using h) (fun e => hne (by rw [e]))
      simp only [fdf, if_true, List.length_cons]
      refine ⟨by omega, fun i hi => ?_, by rw [gB_succ, gB_succ]; exact h3⟩
      cases i with
      | zero => rfl
      | succ i => rw [gB_succ, gB_succ]; exact h2 i (by omega)
    · simp only [fdf, if_neg e, List.length_cons]
      exact ⟨by omega, fun i hi => absurd hi (by omega), e⟩

/-- What conflict holds after j factors. -/
def cfl (m F : List (List UInt8)) (d L : Nat) : Nat → Int
  | 0 => -1
  | j + 1 => if gR m (d + j) = prd m (gR F j) L then cfl m F d L j else
      if cfl m F d L j < 0 ∨ (fdf (gR m (d + j)) (prd m (gR F j) L) : Int) < cfl m F d L j then (fdf (gR m (d + j)) (prd m (gR F j) L) : Int) else cfl m F d L j
theorem cfl_bound {m F : List (List UInt8)} {d L n : Nat} (hr : Rect m L) (hm : m.length = n) (hL : L ≤ 65536) : ∀ j, d + j ≤ n → (∀ i, i < j → (prd m (gR F i) L).length = L) → -1 ≤ cfl m F d L j ∧ cfl m F d L j < 65536
  | 0, _, _ => by simp [cfl]
  | j + 1, h, hp => by
    have ih := cfl_bound (d := d) (F := F) hr hm hL j (by omega) (fun i hi => hp i (by omega))
    simp only [cfl]
    by_cases e : gR m (d + j) = prd m (gR F j) L
    · rw [if_pos e]; exact ih
    · rw [if_neg e]
      have hl := hr (d + j) (by omega)
      have := (fdf_spec _ _ (by rw [hl, hp j (by omega)]) e).1
      split <;> omega
theorem prd_length {m : List (List UInt8)} {l : List UInt8} {L n : Nat} (hr : Rect m L) (hm : m.length = n) (hl : l.length ≤ n) : (prd m l L).length = L := by
  unfold prd
  rw [cmat_get _ _ _ _ _ _ (by simp)]
  refine crow_length _ _ _ _ _ _ (hr.take _) (fun i hi => ?_) (by simp) (by omega)
  obtain rfl : i = 0 := by simp at hi; omega
  show l.length = _
  rw [List.length_take]; omega

set_option maxHeartbeats 4000000 in
theorem conflict_any (A A' : Option Addr) (n c k c' : Nat) (m F : List (List UInt8)) (d L : Nat) (w : World) (h : MS w A n c m) (h' : MS w A' k c' F) (hr : Rect m L) (hL : L ≤ 65536) (hF : Rect F d) (hd : 0 < d) (hd8 : d ≤ 64) (hnk : d + k ≤ n) (hn64 : n ≤ 64) :
    Calls Try.prog 43 #[.slice A n c, .slice A' k c'] w fun e w' => e = .returned (.int .i64 (cfl m F d L k)) ∧ Below w.heap.size w w' := by
  have HLm := Lib.hid h.1
  have HLF := Lib.hid h'.1
  have HP : Hid (∀ j, j < k → (prd m (gR F j) L).length = L) := Lib.hid (fun j hj => prd_length hr h.1 (by rw [hF j (by rw [h'.1]; exact hj)]; omega))
  have HM := Lib.hid h
  have HF' := Lib.hid h'
  have HD := Lib.hid (show 0 < d from hd)
  clear h h'
  go_enter Try.func43, Try.ntmps43
  go_wp2_with fail
  go_loopw [5, 13] (fun f i wr => ∃ j : Nat, j ≤ k ∧ i = .int .i64 (j : Int) ∧ f = .int .i64 (cfl m F d L j) ∧ Below w.heap.size w wr) (fun _ i _ => k - (intOf i).toNat)
  case atStart => exact ⟨0, by omega, rfl, rfl, Below.refl _ _⟩
  case round =>
    obtain ⟨j, hj, rfl, rfl, hb⟩ := hrel
    by_cases hlt : j < k
    · obtain ⟨g, o, A1, n1, c1, rfl, hc1, hr1⟩ := HF'.out.at_ hb hlt
      obtain ⟨g2, o2, A2, n2, c2, rfl, hc2, hr2⟩ := HM.out.at_ hb (show d + j < n by omega)
      obtain rfl : n1 = d := by rw [← hr1.1]; exact hF j (by rw [HLF.out]; exact hlt)
      obtain rfl : n2 = L := by rw [← hr2.1]; exact hr (n1 + j) (by rw [HLm.out]; omega)
      have HB := Lib.hid hb
      have HMr := Lib.hid ((HM.out.kept (Below.refl _ _)).2.2.1)
      have HR1 := Lib.hid hr1
      have HR2 := Lib.hid hr2
      have hcb := cfl_bound (d := n1) (F := F) hr HLm.out hL j (by omega) (fun i hi => HP.out i (by omega))
      obtain ⟨f0, hf0⟩ : ∃ f0, f0 = cfl m F n1 n2 j := ⟨_, rfl⟩
      rw [← hf0] at hcb ⊢
      have HF0 := Lib.hid hf0
      obtain ⟨q, hq⟩ : ∃ q, q = n1 + j := ⟨_, rfl⟩
      rw [← hq] at hc2
      have hw : IntKind.i64.wrap ((n1 : Int) + (j : Int)) = (q : Int) := by rw [IntKind.wrap_i64]; omega
      have hq1 : (q : Int) < (n : Int) := by omega
      have HQ := Lib.hid hq
      clear hb hr1 hr2 hf0 HMr hq
      go_wp2_with fail
      refine Text.wp_region_text (fun w' => w'.cell? ⟨g2, o2 + q, none⟩ = some (.slice A2 n2 c2)) [(0, 4), (1, 4), (2, 4), (3, 4), (4, 4), (5, 4), (7, 4), (8, 4), (6, 0), (9, 2), (10, 4), (11, 4)] (by kernel_rfl) (by kernel_rfl) (fun _ _ _ _ _ h => h) (hc2) ?_
      iterate 8 (refine Text.purek rfl rfl (fun K hK => ⟨_, fun w' => by go_simp <;> rfl, ?_⟩); go_simp; refine hK _ ?_; clear hK K)
      (refine Text.heldk rfl rfl (fun K hK => ⟨_, fun w' hw' => by go_simp <;> rfl, ?_⟩); go_simp; refine hK _ ?_; clear hK K)
      refine Text.eff rfl rfl (fun K hK => ?_)
      go_simp
      refine (predict_any _ A1 n c n1 c1 m (gR F j) n2 wr.drew (HM.out.kept (HB.out)).drew HR1.out.drew hr hL HD.out hd8 (by omega)).mono ?_
      rintro e w4 ⟨v4, rfl, A5, n5, c5, rfl, hbs5, hb5⟩
      have hb5' : Below wr.heap.size wr w4 := below_ofDrew hb5
      refine hK _ _ (cell_kept hb5' hc2) ?_
      obtain rfl : n5 = n2 := by rw [← hbs5.1]; exact HP.out j hlt
      have HB4 : Hid (Below w.heap.size w w4) := Lib.hid (below_then HB.out hb5')
      have HS := Lib.hid hbs5
      have HP2 : Hid (BS w4 A2 n5 c2 (gR m (n1 + j))) := Lib.hid (HR2.out.kept hb5')
      clear hK K hb5 hb5' hbs5 HR1 HR2 HB hc1 hc2
      iterate 2 (refine Text.purek rfl rfl (fun K hK => ⟨_, fun w' => by go_simp <;> rfl, ?_⟩); go_simp; refine hK _ ?_; clear hK K)
      refine Text.done ?_
      go_wp2_with fail
      refine (equal_any A2 A5 n5 c2 n5 c5 _ _ w4 HP2.out HS.out).mono ?_
      rintro e w5 ⟨rfl, rfl⟩
      by_cases heq : gR m (n1 + j) = prd m (gR F j) n5
      · have hdt : decide (gR m (n1 + j) = prd m (gR F j) n5) = true := by simpa using heq
        have HC : Hid (f0 = cfl m F n1 n5 (j + 1)) := Lib.hid (by rw [HF0.out]; simp only [cfl]; rw [if_pos heq])
        rw [hdt]
        clear heq hdt HP2 HS
        go_wp2_with fail
        go_roundw
        case rel => exact ⟨j + 1, by omega, by go_num, by rw [HC.out], HB4.out⟩
        case measure => simp [intOf]; omega
      · have hdt : decide (gR m (n1 + j) = prd m (gR F j) n5) = false := by simpa using heq
        have hsp := fdf_spec _ _ (by rw [HP2.out.1, HS.out.1]) heq
        have hC : cfl m F n1 n5 (j + 1) = if f0 < 0 ∨ (fdf (gR m (n1 + j)) (prd m (gR F j) n5) : Int) < f0 then (fdf (gR m (n1 + j)) (prd m (gR F j) n5) : Int) else f0 := by
          simp only [cfl]; rw [if_neg heq, ← HF0.out]
        rw [hdt]
        obtain ⟨p, hp⟩ : ∃ p, p = fdf (gR m (n1 + j)) (prd m (gR F j) n5) := ⟨_, rfl⟩
        rw [← hp] at hsp hC
        have hpl : p < n5 := by have := hsp.1; rw [HP2.out.1] at this; exact this
        have HSP := Lib.hid hsp
        have HC := Lib.hid hC
        have HPP := Lib.hid hp
        clear heq hdt hsp hC hp
        go_wp2_with fail
        obtain ⟨wo, rfl⟩ : ∃ wo : World, wo = w4 := ⟨_, rfl⟩
        go_loopw [10] (fun x wr => ∃ y : Nat, y ≤ p ∧ x = .int .i64 (y : Int) ∧ Hid (Below wo.heap.size wo wr)) (fun x _ => p - (intOf x).toNat)
        case atStart => exact ⟨0, by omega, rfl, Lib.hid (Below.refl _ _)⟩
        case round =>
          obtain ⟨y, hy, rfl, hb6⟩ := hrel
          obtain ⟨ga, oa, rfl, hca⟩ := HP2.out.at_ hb6.out (show y < n5 by omega)
          obtain ⟨gb, ob, rfl, hcb2⟩ := HS.out.at_ hb6.out (show y < n5 by omega)
          have hyn : y < n5 := by omega
          by_cases hyp : y < p
          · have hq2 : gB (gR m (n1 + j)) y = gB (prd m (gR F j) n5) y := HSP.out.2.1 y hyp
            rw [hq2] at hca
            have hqt : (bv (gB (prd m (gR F j) n5) y) == bv (gB (prd m (gR F j) n5) y)) = true := by simp
            go_wp2_with fail
            refine Text.wp_region_text (fun _ => True) [(0, 4), (1, 4), (2, 4), (4, 4), (5, 4), (6, 4), (3, 1), (7, 1), (8, 4)] (by kernel_rfl) (by kernel_rfl) (fun _ _ _ _ _ h => h) (trivial) ?_
            iterate 6 (refine Text.purek rfl rfl (fun K hK => ⟨_, fun w' => by go_simp <;> rfl, ?_⟩); go_simp; refine hK _ ?_; clear hK K)
            iterate 2 (refine Text.readk rfl rfl (fun K hK => ⟨_, by go_simp <;> rfl, ?_⟩); go_simp; refine hK _ ?_; clear hK K)
            (refine Text.purek rfl rfl (fun K hK => ⟨_, fun w' => by go_simp <;> rfl, ?_⟩); go_simp; refine hK _ ?_; clear hK K)
            refine Text.done ?_
            go_wp2_with fail
            go_roundw
            case rel => exact ⟨y + 1, by omega, by go_num, Lib.hid hb6.out.drew⟩
            case measure => simp [intOf]; omega
          · obtain rfl : y = p := by omega
            have hne : (gB (gR m (n1 + j)) y == gB (prd m (gR F j) n5) y) = false := by
              rw [beq_eq_false_iff_ne]; exact HSP.out.2.2
            have HB7 : Hid (Below w.heap.size w wr.drew) := Lib.hid (below_then HB4.out hb6.out).drew
            by_cases h1 : f0 < 0
            · have q3 : decide (f0 < 0) = true := by simpa using h1
              have HR : Hid ((y : Int) = cfl m F n1 n5 (j + 1)) := Lib.hid (by rw [HC.out, if_pos (.inl h1)])
              go_wp2_with fail
              refine Text.wp_region_text (fun _ => True) [(0, 4), (1, 4), (2, 4), (4, 4), (5, 4), (6, 4), (3, 1), (7, 1), (8, 4)] (by kernel_rfl) (by kernel_rfl) (fun _ _ _ _ _ h => h) (trivial) ?_
              iterate 6 (refine Text.purek rfl rfl (fun K hK => ⟨_, fun w' => by go_simp <;> rfl, ?_⟩); go_simp; refine hK _ ?_; clear hK K)
              iterate 2 (refine Text.readk rfl rfl (fun K hK => ⟨_, by go_simp <;> rfl, ?_⟩); go_simp; refine hK _ ?_; clear hK K)
              (refine Text.purek rfl rfl (fun K hK => ⟨_, fun w' => by go_simp <;> rfl, ?_⟩); go_simp; refine hK _ ?_; clear hK K)
              refine Text.done ?_
              go_wp2_with fail
              go_roundw
              case rel => exact ⟨j + 1, by omega, by go_num, by rw [HR.out], HB7.out⟩
              case measure => simp [intOf]; omega
            · have q3 : decide (f0 < 0) = false := by simpa using h1
              by_cases h2 : (y : Int) < f0
              · have q4 : decide ((y : Int) < f0) = true := by simpa using h2
                have HR : Hid ((y : Int) = cfl m F n1 n5 (j + 1)) := Lib.hid (by rw [HC.out, if_pos (.inr h2)])
                go_wp2_with fail
                refine Text.wp_region_text (fun _ => True) [(0, 4), (1, 4), (2, 4), (4, 4), (5, 4), (6, 4), (3, 1), (7, 1), (8, 4)] (by kernel_rfl) (by kernel_rfl) (fun _ _ _ _ _ h => h) (trivial) ?_
                iterate 6 (refine Text.purek rfl rfl (fun K hK => ⟨_, fun w' => by go_simp <;> rfl, ?_⟩); go_simp; refine hK _ ?_; clear hK K)
                iterate 2 (refine Text.readk rfl rfl (fun K hK => ⟨_, by go_simp <;> rfl, ?_⟩); go_simp; refine hK _ ?_; clear hK K)
                (refine Text.purek rfl rfl (fun K hK => ⟨_, fun w' => by go_simp <;> rfl, ?_⟩); go_simp; refine hK _ ?_; clear hK K)
                refine Text.done ?_
                go_wp2_with fail
                go_roundw
                case rel => exact ⟨j + 1, by omega, by go_num, by rw [HR.out], HB7.out⟩
                case measure => simp [intOf]; omega
              · have q4 : decide ((y : Int) < f0) = false := by simpa using h2
                have HR : Hid (f0 = cfl m F n1 n5 (j + 1)) := Lib.hid (by rw [HC.out, if_neg (by omega)])
                go_wp2_with fail
                refine Text.wp_region_text (fun _ => True) [(0, 4), (1, 4), (2, 4), (4, 4), (5, 4), (6, 4), (3, 1), (7, 1), (8, 4)] (by kernel_rfl) (by kernel_rfl) (fun _ _ _ _ _ h => h) (trivial) ?_
                iterate 6 (refine Text.purek rfl rfl (fun K hK => ⟨_, fun w' => by go_simp <;> rfl, ?_⟩); go_simp; refine hK _ ?_; clear hK K)
                iterate 2 (refine Text.readk rfl rfl (fun K hK => ⟨_, by go_simp <;> rfl, ?_⟩); go_simp; refine hK _ ?_; clear hK K)
                (refine Text.purek rfl rfl (fun K hK => ⟨_, fun w' => by go_simp <;> rfl, ?_⟩); go_simp; refine hK _ ?_; clear hK K)
                refine Text.done ?_
                go_wp2_with fail
                go_roundw
                case rel => exact ⟨j + 1, by omega, by go_num, by rw [HR.out], HB7.out⟩
                case measure => simp [intOf]; omega
    · obtain rfl : j = k := by omega
      have HB := Lib.hid hb
      clear hb
      go_wp2_with fail
      go_ret
      exact ⟨rfl, HB.out⟩
end Go.Proofs.Ytoeeklkebcgmaaa
