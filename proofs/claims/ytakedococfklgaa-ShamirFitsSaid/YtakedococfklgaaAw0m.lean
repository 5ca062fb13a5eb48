/- Contracts of kinkeeplaw10.share, kinkeepref10.Same, shamir.Count. -/
import Derived.Test.YtakedococfklgaaB2
namespace Go.Proofs.Ytakedococfklgaa
open Go.RowKit Gf

/-- A share of one byte. -/
def ShRet (x : Int) (y : UInt8) (w : World) (e : Ending) (w' : World) : Prop := ∃ g, e = .returned (.agg #[.int .i64 x, .slice (some ⟨g, 0, none⟩) 1 1]) ∧ w.heap.size ≤ g ∧ Blk w' g 5 (row [y]) ∧ Below w.heap.size w w'
set_option maxRecDepth 100000 in
set_option maxHeartbeats 400000 in
theorem share_any (x : Int) (y : UInt8) (w : World) : Calls Try.prog 39 #[.int .i64 x, B y] w (ShRet x y w) := by
  go_enter Try.func39, Try.ntmps39
  go_wp2_with fail
  refine bodyPost_ret (v := .agg #[.int .i64 x, .slice (some ⟨w.heap.size + 1, 0, none⟩) 1 1]) (by simp [results, Try.results39, go_sem]) rfl ?_
  refine ⟨w.heap.size + 1, rfl, by omega, ?_, ?_⟩
  · have := Blk.new (w.alloc (.cells #[.int .i64 x, .slice (some ⟨w.heap.size + 1, 0, none⟩) 1 1] 33)) 5 (row [y])
    rw [World.size_alloc] at this
    exact this
  · exact ((Below.refl _ _).alloc (Nat.le_refl _) _).alloc (by simp) _

def sameS (a b : List (Int × List UInt8)) : Bool := decide (a = b)
theorem sameS_true {a b : List (Int × List UInt8)} (hl : a.length = b.length) (h : ∀ j, j < a.length → gS a j = gS b j) : sameS a b = true := by
  refine decide_eq_true (List.ext_getElem hl fun i h1 h2 => ?_)
  have := h i h1
  rwa [gS_eq h1, gS_eq h2] at this
theorem sameS_false {a b : List (Int × List UInt8)} {j : Nat} (h : gS a j ≠ gS b j) : sameS a b = false := decide_eq_false fun e => h (by rw [e])

set_option maxRecDepth 100000 in
set_option maxHeartbeats 1000000 in
theorem same_any (A A' : Option Addr) (n c n' c' : Nat) (a b : List (Int × List UInt8)) (w : World) (h : SS w A n c a) (h' : SS w A' n' c' b) :
    Calls Try.prog 17 #[.slice A n c, .slice A' n' c'] w fun e w' => e = .returned (.bool (sameS a b)) ∧ Below w.heap.size w w' := by
  have HLa := Lib.hid h.1
  have HLb := Lib.hid h'.1
  have HA := Lib.hid h
  have HB := Lib.hid h'
  have hn := h.len_le
  clear h h'
  by_cases hnn : n = n'
  · subst hnn
    have hq : ((n : Int) != (n : Int)) = false := by simp
    go_enter Try.func17, Try.ntmps17
    go_wp2_with fail
    go_loopw [13] (fun i wr => ∃ k : Nat, k ≤ n ∧ i = .int .i64 (k : Int) ∧ Hid (∀ j, j < k → gS a j = gS b j) ∧ Hid (Below w.heap.size w wr)) (fun i _ => n - (intOf i).toNat)
    case atStart => exact ⟨0, by omega, rfl, Lib.hid (fun j hj => absurd hj (by omega)), Lib.hid (Below.refl _ _)⟩
    case round =>
      obtain ⟨k, hk, rfl, hE, hb⟩ := hrel
      by_cases hlt : k < n
      · obtain ⟨g1, o1, A1, n1, c1, rfl, hx1, hc1, hr1⟩ := HA.out.at_ hb.out hlt
        obtain ⟨g2, o2, A2, n2, c2, rfl, hx2, hc2, hr2⟩ := HB.out.at_ hb.out hlt
        have cv1 := conv_str hr1.drew
        have cv2 := conv_str hr2.drew
        clear hr1 hr2
        obtain ⟨x1, ex1⟩ : ∃ x, x = (gS a k).1 := ⟨_, rfl⟩
        obtain ⟨x2, ex2⟩ : ∃ x, x = (gS b k).1 := ⟨_, rfl⟩
        rw [← ex1] at hx1
        rw [← ex2] at hx2
        have HX1 := Lib.hid ex1
        have HX2 := Lib.hid ex2
        clear ex1 ex2
        by_cases hx : x1 = x2
        · have hxx : (x1 != x2) = false := by simpa using hx
          have HXX := Lib.hid hx
          clear hx
          by_cases he : (gS a k).2 = (gS b k).2
          · have hbb : ((strB (gS a k).2).toList == (strB (gS b k).2).toList) = true := by rw [strB_eq, decide_eq_true he]
            have HE' : Hid (∀ j, j < k + 1 → gS a j = gS b j) := Lib.hid (fun j hj => by
              by_cases e : j = k
              · rw [e]; exact Prod.ext (by rw [← HX1.out, ← HX2.out]; exact HXX.out) he
              · exact hE.out j (by omega))
            have HB' : Hid (Below w.heap.size w wr.drew) := Lib.hid hb.out.drew
            clear he hE hb
            go_wp2_with fail
            refine Text.wp_region_text (fun _ => True) [(0, 4), (1, 4), (2, 4), (3, 4), (5, 4), (6, 4), (7, 4), (8, 4), (4, 1), (9, 1), (10, 4), (11, 4), (12, 4), (13, 4), (14, 4), (15, 4), (18, 4), (19, 4), (20, 4), (21, 4), (16, 1), (17, 1), (22, 1), (23, 1), (24, 4), (25, 4)] (by kernel_rfl) (by kernel_rfl) (fun _ _ _ _ _ h => h) (trivial) ?_
            iterate 8 (refine Text.purek rfl rfl (fun K hK => ⟨_, fun w' => by go_simp <;> rfl, ?_⟩); go_simp; refine hK _ ?_; clear hK K)
            iterate 2 (refine Text.readk rfl rfl (fun K hK => ⟨_, by go_simp <;> rfl, ?_⟩); go_simp; refine hK _ ?_; clear hK K)
            iterate 10 (refine Text.purek rfl rfl (fun K hK => ⟨_, fun w' => by go_simp <;> rfl, ?_⟩); go_simp; refine hK _ ?_; clear hK K)
            iterate 4 (refine Text.readk rfl rfl (fun K hK => ⟨_, by go_simp <;> rfl, ?_⟩); go_simp; refine hK _ ?_; clear hK K)
            iterate 2 (refine Text.purek rfl rfl (fun K hK => ⟨_, fun w' => by go_simp <;> rfl, ?_⟩); go_simp; refine hK _ ?_; clear hK K)
            refine Text.done ?_
            go_wp2_with fail
            go_roundw
            case rel => exact ⟨k + 1, by omega, by go_num, HE', HB'⟩
            case measure => simp [intOf]; omega
          · have hbb : ((strB (gS a k).2).toList == (strB (gS b k).2).toList) = false := by rw [strB_eq, decide_eq_false he]
            have HS : Hid (sameS a b = false) := Lib.hid (sameS_false (j := k) (fun e => he (by rw [e])))
            have HB' : Hid (Below w.heap.size w wr.drew) := Lib.hid hb.out.drew
            clear he hE hb
            go_wp2_with fail
            refine Text.wp_region_text (fun _ => True) [(0, 4), (1, 4), (2, 4), (3, 4), (5, 4), (6, 4), (7, 4), (8, 4), (4, 1), (9, 1), (10, 4), (11, 4), (12, 4), (13, 4), (14, 4), (15, 4), (18, 4), (19, 4), (20, 4), (21, 4), (16, 1), (17, 1), (22, 1), (23, 1), (24, 4), (25, 4)] (by kernel_rfl) (by kernel_rfl) (fun _ _ _ _ _ h => h) (trivial) ?_
            iterate 8 (refine Text.purek rfl rfl (fun K hK => ⟨_, fun w' => by go_simp <;> rfl, ?_⟩); go_simp; refine hK _ ?_; clear hK K)
            iterate 2 (refine Text.readk rfl rfl (fun K hK => ⟨_, by go_simp <;> rfl, ?_⟩); go_simp; refine hK _ ?_; clear hK K)
            iterate 10 (refine Text.purek rfl rfl (fun K hK => ⟨_, fun w' => by go_simp <;> rfl, ?_⟩); go_simp; refine hK _ ?_; clear hK K)
            iterate 4 (refine Text.readk rfl rfl (fun K hK => ⟨_, by go_simp <;> rfl, ?_⟩); go_simp; refine hK _ ?_; clear hK K)
            iterate 2 (refine Text.purek rfl rfl (fun K hK => ⟨_, fun w' => by go_simp <;> rfl, ?_⟩); go_simp; refine hK _ ?_; clear hK K)
            refine Text.done ?_
            go_wp2_with fail
            go_ret
            exact ⟨ret_bool HS.out.symm, HB'.out⟩
        · have hxx : (x1 != x2) = true := by simpa using hx
          have HS : Hid (sameS a b = false) := Lib.hid (sameS_false (j := k) (fun e => hx (by rw [HX1.out, HX2.out, e])))
          have HB' : Hid (Below w.heap.size w wr.drew) := Lib.hid hb.out.drew
          have HXX := Lib.hid hx
          clear hx hE hb
          go_wp2_with fail
          refine Text.wp_region_text (fun _ => True) [(0, 4), (1, 4), (2, 4), (3, 4), (5, 4), (6, 4), (7, 4), (8, 4), (4, 1), (9, 1), (10, 4), (11, 4), (12, 4), (13, 4), (14, 4), (15, 4), (16, 4), (17, 4), (18, 4), (19, 4), (20, 4), (21, 4), (22, 4), (23, 4), (24, 4), (25, 4)] (by kernel_rfl) (by kernel_rfl) (fun _ _ _ _ _ h => h) (trivial) ?_
          iterate 8 (refine Text.purek rfl rfl (fun K hK => ⟨_, fun w' => by go_simp <;> rfl, ?_⟩); go_simp; refine hK _ ?_; clear hK K)
          iterate 2 (refine Text.readk rfl rfl (fun K hK => ⟨_, by go_simp <;> rfl, ?_⟩); go_simp; refine hK _ ?_; clear hK K)
          iterate 2 (refine Text.purek rfl rfl (fun K hK => ⟨_, fun w' => by go_simp <;> rfl, ?_⟩); go_simp; refine hK _ ?_; clear hK K)
          iterate 13 (refine Text.skipk (.inr (.inr rfl)) rfl rfl (fun K hK => ?_); go_simp; refine hK _ ?_; clear hK K)
          (refine Text.purek rfl rfl (fun K hK => ⟨_, fun w' => by go_simp <;> rfl, ?_⟩); go_simp; refine hK _ ?_; clear hK K)
          refine Text.done ?_
          go_wp2_with fail
          go_ret
          exact ⟨ret_bool HS.out.symm, HB'.out⟩
      · obtain rfl : k = n := by omega
        have HS : Hid (sameS a b = true) := Lib.hid (sameS_true (by rw [HLa.out, HLb.out]) (fun j hj => hE.out j (by rw [← HLa.out]; exact hj)))
        go_wp2_with fail
        go_ret
        exact ⟨ret_bool HS.out.symm, hb.out⟩
  · have hq : ((n : Int) != (n' : Int)) = true := by simp; omega
    have HS : Hid (sameS a b = false) := Lib.hid (decide_eq_false fun e => hnn (by rw [← HLa.out, ← HLb.out, e]))
    clear hnn
    go_enter Try.func17, Try.ntmps17
    go_wp2_with fail
    go_ret
    exact ⟨ret_bool HS.out.symm, Below.refl _ _⟩

/-- Powers of 256, at most 2 ^ 40. -/
def ctK : Nat → Int
  | 0 => 1
  | k + 1 => if ctK k < 1099511627776 then ctK k * 256 else ctK k
theorem ctK_lo : ∀ k, 1 ≤ ctK k ∧ ctK k ≤ 1099511627776
  | 0 => by decide
  | k + 1 => by
    have h := ctK_lo k
    have hp : ∃ j, j ≤ 5 ∧ ctK k = 256 ^ j := by
      clear h
      induction k with
      | zero => exact ⟨0, by omega, rfl⟩
      | succ k ih =>
        obtain ⟨j, hj, e⟩ := ih
        unfold ctK
        rw [e]
        split
        · rename_i hlt
          have : j ≠ 5 := fun e5 => by rw [e5] at hlt; exact absurd hlt (by decide)
          exact ⟨j + 1, by omega, by rw [Int.pow_succ]⟩
        · exact ⟨j, hj, rfl⟩
    obtain ⟨j, hj, e⟩ := hp
    unfold ctK
    split
    · rename_i hlt
      rw [e] at hlt ⊢
      have : j = 0 ∨ j = 1 ∨ j = 2 ∨ j = 3 ∨ j = 4 ∨ j = 5 := by omega
      rcases this with rfl | rfl | rfl | rfl | rfl | rfl <;> simp at hlt ⊢
    · exact h
theorem ctK_stop (k : Nat) (h : ¬ ctK k < 1099511627776) : ∀ d, ctK (k + d) = ctK k
  | 0 => rfl
  | d + 1 => by rw [← Nat.add_assoc, ctK, ctK_stop k h d, if_neg h]
def ctF (s t : Int) (kn : Bool) : Nat := (t - s - (if kn then 1 else 0)).toNat
def ctE (s t : Int) : Int := if 0 ≤ s ∧ s ≤ 64 ∧ vT t = true then 0 else 1
def ctV (s t : Int) (kn : Bool) : Int := if ctE s t = 0 then ctK (ctF s t kn) else 0

set_option maxRecDepth 100000 in
set_option maxHeartbeats 1000000 in
theorem count_any (s t : Int) (kn : Bool) (w : World) : Calls Try.prog 25 #[.int .i64 s, .int .i64 t, .bool kn] w fun e w' => e = .returned (.tuple #[.int .i64 (ctV s t kn), .int .i64 (ctE s t)]) ∧ w = w' := by
  by_cases h1 : s < 0
  · have q : decide (s < 0) = true := by simpa using h1
    have HE : Hid (ctE s t = 1) := Lib.hid (by unfold ctE; rw [if_neg (by omega)])
    have HV : Hid (ctV s t kn = 0) := Lib.hid (by unfold ctV; rw [HE.out]; rfl)
    go_enter Try.func25, Try.ntmps25
    go_wp2_with fail
    go_ret2
    exact ⟨by rw [HE.out, HV.out]; rfl, rfl⟩
  have q1 : decide (s < 0) = false := by simpa using h1
  by_cases h2 : 64 < s
  · have q : decide (64 < s) = true := by simpa using h2
    have HE : Hid (ctE s t = 1) := Lib.hid (by unfold ctE; rw [if_neg (by omega)])
    have HV : Hid (ctV s t kn = 0) := Lib.hid (by unfold ctV; rw [HE.out]; rfl)
    go_enter Try.func25, Try.ntmps25
    go_wp2_with fail
    go_ret2
    exact ⟨by rw [HE.out, HV.out]; rfl, rfl⟩
  have q2 : decide (64 < s) = false := by simpa using h2
  cases hv : vT t with
  | false =>
    have HE : Hid (ctE s t = 1) := Lib.hid (by unfold ctE; rw [hv]; simp)
    have HV : Hid (ctV s t kn = 0) := Lib.hid (by unfold ctV; rw [HE.out]; rfl)
    go_enter Try.func25, Try.ntmps25
    go_wp2_with fail
    refine (validT_any _ _).mono ?_
    rintro e w' ⟨rfl, rfl⟩
    rw [hv]
    go_wp2_with fail
    go_ret2
    exact ⟨by rw [HE.out, HV.out]; rfl, rfl⟩
  | true =>
    obtain ⟨t1, t2⟩ := vT_iff.1 hv
    have HE : Hid (ctE s t = 0) := Lib.hid (by unfold ctE; rw [hv, if_pos (by simp; omega)])
    have HV : Hid (ctV s t kn = ctK (ctF s t kn)) := Lib.hid (by unfold ctV; rw [HE.out]; rfl)
    obtain ⟨f, hf⟩ : ∃ f : Int, f = t - s - (if kn then 1 else 0) := ⟨_, rfl⟩
    have HF : Hid (ctF s t kn = f.toNat) := Lib.hid (by rw [ctF, hf])
    have hf1 : f ≤ 16 := by rw [hf]; split <;> omega
    have hf2 : -100 ≤ f := by rw [hf]; split <;> omega
    have HFE := Lib.hid hf
    clear hf
    cases kn
    case' false =>
      have ef : t - s = f := by have := HFE.out; simp at this; omega
      go_enter Try.func25, Try.ntmps25
      go_wp2_with fail
      refine (validT_any _ _).mono ?_
      rintro e w' ⟨rfl, rfl⟩
      rw [hv]
      go_wp2_with fail
      try simp only [ef]
      clear ef
    case' true =>
      have ef : t - s - 1 = f := by have := HFE.out; simp at this; omega
      go_enter Try.func25, Try.ntmps25
      go_wp2_with fail
      refine (validT_any _ _).mono ?_
      rintro e w' ⟨rfl, rfl⟩
      rw [hv]
      go_wp2_with fail
      try simp only [ef]
      clear ef
    all_goals
      go_loop [9, 10] (fun c i => ∃ (k : Nat) (z : Int), c = .int .i64 z ∧ i = .int .i64 (k : Int) ∧ k ≤ 16 ∧ (k : Int) ≤ max f 0 ∧ 1 ≤ z ∧ z ≤ 1099511627776 ∧ Hid (z = ctK k)) (fun _ i => 17 - (intOf i).toNat)
      case atStart => exact ⟨0, 1, rfl, rfl, by omega, by omega, by decide, by decide, Lib.hid rfl⟩
      case round =>
        obtain ⟨k, z, rfl, rfl, hk, hkf, hz1, hz2, hz⟩ := hrel
        by_cases hlt : (k : Int) < f
        · have q3 : decide ((k : Int) < f) = true := by simpa using hlt
          by_cases hzz : z < 1099511627776
          · have q4 : decide (z < 1099511627776) = true := by simpa using hzz
            have HZ : Hid (z * 256 = ctK (k + 1)) := Lib.hid (by rw [ctK, ← hz.out, if_pos hzz])
            have hb := ctK_lo (k + 1)
            rw [← HZ.out] at hb
            obtain ⟨hb1, hb2⟩ := hb
            go_wp2_with fail
            go_round
            case rel => exact ⟨k + 1, z * 256, rfl, by go_num, by omega, by omega, hb1, hb2, HZ⟩
            case measure => simp [intOf]; omega
          · have q4 : decide (z < 1099511627776) = false := by simpa using hzz
            have HZ : Hid (ctK f.toNat = z) := Lib.hid (by
              have := ctK_stop k (by rw [← hz.out]; exact hzz) (f.toNat - k)
              rw [show k + (f.toNat - k) = f.toNat by omega] at this
              rw [this, hz.out])
            have hz3 : z = 1099511627776 := by omega
            have hnl : ¬ z < 1099511627776 := hzz
            go_wp2_with fail
            go_ret2
            exact ⟨by rw [HE.out, HV.out, HF.out, HZ.out, hz3]; rfl, rfl⟩
        · have q3 : decide ((k : Int) < f) = false := by simpa using hlt
          have HZ : Hid (ctK f.toNat = z) := Lib.hid (by rw [show f.toNat = k by omega, hz.out])
          by_cases hzz : z < 1099511627776
          · go_wp2_with fail
            go_ret2
            exact ⟨by rw [HE.out, HV.out, HF.out, HZ.out]; rfl, rfl⟩
          · go_wp2_with fail
            go_ret2
            exact ⟨by rw [HE.out, HV.out, HF.out, HZ.out]; first | rfl | (rw [show z = 1099511627776 by omega]; rfl), rfl⟩
end Go.Proofs.Ytakedococfklgaa
