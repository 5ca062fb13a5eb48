/- The law ChallengeProves: its walk. -/
import Derived.Test.YtgjgofjabdjclaaDoorA29
import Derived.Test.YtgjgofjabdjclaaDoorLPvnm
namespace Go.Proofs.YtgjgofjabdjclaaDoor
open Go Go.RowKit Gf Sha

set_option maxHeartbeats 1000000 in
theorem texts_any (A1 A2 : Option Addr) (n c1 c2 : Nat) (m : List (List UInt8)) (w : World) (h1 : TS w A1 n c1 m) (h2 : TS w A2 n c2 m) :
    Calls Tryd.prog 39 #[.slice A1 n c1, .slice A2 n c2] w fun e w' => e = .returned (.bool true) ∧ Below w.heap.size w w' := by
  have hn : n * 16 ≤ 140737488355328 := by have := h1.2.2.1; unfold lim at this; omega
  have H1 := Lib.hid h1
  have H2 := Lib.hid h2
  clear h1 h2
  go_enter Tryd.func39, Tryd.ntmps39
  go_wp2_with fail
  go_loopw [13] (fun iv wr => ∃ k : Nat, k ≤ n ∧ iv = .int .i64 (k : Int) ∧ Hid (Below w.heap.size w wr)) (fun iv _ => n - (intOf iv).toNat)
  case atStart => exact ⟨0, by omega, rfl, Lib.hid (Below.refl _ _)⟩
  case round =>
    obtain ⟨k, hk, rfl, hb⟩ := hrel
    obtain ⟨wx, hwx⟩ : ∃ x, x = wr := ⟨_, rfl⟩
    rw [← hwx] at hb ⊢
    clear hwx
    by_cases hlt : k < n
    · obtain ⟨g1, o1, rfl, q1⟩ := H1.out.at_ hb.out hlt
      obtain ⟨g2, o2, rfl, q2⟩ := H2.out.at_ hb.out hlt
      have es : ((strB (gR m k)).toList != (strB (gR m k)).toList) = false := by simp
      go_wp2_with fail
      refine Text.wp_region_text (fun _ => True) [(0, 4), (1, 4), (2, 4), (4, 4), (5, 4), (6, 4), (3, 1), (7, 1), (8, 4)] (by kernel_rfl) (by kernel_rfl) (fun _ _ _ _ _ h => h) (trivial) ?_
      iterate 6 (refine Text.purek rfl rfl (fun K hK => ⟨_, fun w' => by go_simp <;> rfl, ?_⟩); go_simp; refine hK _ ?_; clear hK K)
      iterate 2 (refine Text.readk rfl rfl (fun K hK => ⟨_, by go_simp <;> rfl, ?_⟩); go_simp; refine hK _ ?_; clear hK K)
      (refine Text.purek rfl rfl (fun K hK => ⟨_, fun w' => by go_simp <;> rfl, ?_⟩); go_simp; refine hK _ ?_; clear hK K)
      refine Text.done ?_
      go_wp2_with fail
      go_roundw
      case rel => exact ⟨k + 1, by omega, by go_num, Lib.hid hb.out.drew⟩
      case measure => simp [intOf]; omega
    · obtain rfl : k = n := by omega
      go_wp2_with fail
      go_ret
      exact ⟨rfl, hb.out⟩

set_option maxHeartbeats 1000000 in
theorem prove_not (A : Option Addr) (n cp : Nat) (size c : Int) (nl : List UInt8) (w : World) (hn : dataB n = false ∨ size < 1) :
    Calls Tryd.prog 37 #[.slice A n cp, .int .i64 size, .string (strB nl), .int .i64 c] w fun e w' => e = .returned (.tuple #[.slice none 0 0, .int .i64 1]) ∧ Below w.heap.size w w' := by
  cases hd : dataB n with
  | false =>
    go_enter Tryd.func37, Tryd.ntmps37
    go_wp2_with (go_at_call 43; refine (isData_any A n cp w).mono ?_; rintro e w1 ⟨rfl, hw⟩; rw [← hw]; clear hw w1; rw [hd])
    go_ret2
    exact ⟨rfl, Below.refl _ _⟩
  | true =>
    have h2 : size < 1 := by
      rcases hn with h | h
      · rw [hd] at h; cases h
      · exact h
    have d2 : decide (size < 1) = true := decide_eq_true h2
    clear hn h2
    go_enter Tryd.func37, Tryd.ntmps37
    go_wp2_with (go_at_call 43; refine (isData_any A n cp w).mono ?_; rintro e w1 ⟨rfl, hw⟩; rw [← hw]; clear hw w1; rw [hd])
    go_ret2
    exact ⟨rfl, Below.refl _ _⟩
set_option maxHeartbeats 1000000 in
theorem rprove_not (A : Option Addr) (n cp : Nat) (size c : Int) (nl : List UInt8) (w : World) (hn : dataB n = false ∨ size < 1) :
    Calls Tryd.prog 38 #[.slice A n cp, .int .i64 size, .string (strB nl), .int .i64 c] w fun e w' => e = .returned (.tuple #[.slice none 0 0, .int .i64 1]) ∧ Below w.heap.size w w' := by
  cases hd : dataB n with
  | false =>
    go_enter Tryd.func38, Tryd.ntmps38
    go_wp2_with (go_at_call 59; refine (rdata_any A n cp w).mono ?_; rintro e w1 ⟨rfl, hw⟩; rw [← hw]; clear hw w1; rw [hd])
    go_ret2
    exact ⟨rfl, Below.refl _ _⟩
  | true =>
    have h2 : size < 1 := by
      rcases hn with h | h
      · rw [hd] at h; cases h
      · exact h
    have d2 : decide (size < 1) = true := decide_eq_true h2
    clear hn h2
    go_enter Tryd.func38, Tryd.ntmps38
    go_wp2_with (go_at_call 59; refine (rdata_any A n cp w).mono ?_; rintro e w1 ⟨rfl, hw⟩; rw [← hw]; clear hw w1; rw [hd])
    go_ret2
    exact ⟨rfl, Below.refl _ _⟩
set_option maxHeartbeats 1000000 in
theorem prove_nos (A : Option Addr) (n cp size : Nat) (c : Int) (nl : List UInt8) (w : World) (h1 : 1 ≤ n) (hn : n ≤ 1000) (hD : dataB n = true) (hs : 1 ≤ size) (hs2 : size < 9223372036854775808) (hv : spotB nl.length (nb n size : Int) c = false) :
    Calls Tryd.prog 37 #[.slice A n cp, .int .i64 (size : Int), .string (strB nl), .int .i64 c] w fun e w' => e = .returned (.tuple #[.slice none 0 0, .int .i64 1]) ∧ Below w.heap.size w w' := by
  have HR : Hid ((n : Int) - 1 = ((n - 1 : Nat) : Int)) := Lib.hid (by omega)
  have HQ1 : Hid ((n - 1) / size + 1 = nb n size) := Lib.hid rfl
  obtain ⟨q0, hqd0⟩ : ∃ q, q = (n - 1) / size := ⟨_, rfl⟩
  have HQ0 := Lib.hid hqd0.symm
  have hq0 : q0 ≤ 1000 := by rw [hqd0]; have := Nat.div_le_self (n - 1) size; omega
  obtain ⟨q, hqd⟩ : ∃ q, q = nb n size := ⟨_, rfl⟩
  rw [← hqd] at hv HQ1
  have eq1 : (q0 : Int) + 1 = (q : Int) := by rw [hqd, nb, ← hqd0]; omega
  have HV := Lib.hid hv
  have HDD := Lib.hid hD
  clear hqd0 hqd hv hD
  go_enter Tryd.func37, Tryd.ntmps37
  go_wp2_with (first
    | (go_at_call 43; refine (isData_any A n cp w).mono ?_; rintro e w1 ⟨rfl, hw⟩; rw [← hw]; clear hw w1; rw [HDD.out])
    | (go_at_call 61; refine (blocksOf_any n size _ h1 (by omega) hs hs2).mono ?_; rintro e w1 ⟨rfl, hw⟩; rw [hw]; clear hw w1; rw [HQ1.out])
    | (go_at_call 21; refine (spots_no nl q c _ HV.out).mono ?_; rintro e w2 ⟨rfl, rfl⟩))
  go_ret2
  exact ⟨rfl, Below.refl _ _⟩
set_option maxHeartbeats 1000000 in
theorem rprove_nos (A : Option Addr) (n cp size : Nat) (c : Int) (nl : List UInt8) (w : World) (h1 : 1 ≤ n) (hn : n ≤ 1000) (hD : dataB n = true) (hs : 1 ≤ size) (hs2 : size < 9223372036854775808) (hv : spotB nl.length (nb n size : Int) c = false) :
    Calls Tryd.prog 38 #[.slice A n cp, .int .i64 (size : Int), .string (strB nl), .int .i64 c] w fun e w' => e = .returned (.tuple #[.slice none 0 0, .int .i64 1]) ∧ Below w.heap.size w w' := by
  have HR : Hid ((n : Int) - 1 = ((n - 1 : Nat) : Int)) := Lib.hid (by omega)
  have HQ1 : Hid ((n - 1) / size + 1 = nb n size) := Lib.hid rfl
  obtain ⟨q0, hqd0⟩ : ∃ q, q = (n - 1) / size := ⟨_, rfl⟩
  have HQ0 := Lib.hid hqd0.symm
  have hq0 : q0 ≤ 1000 := by rw [hqd0]; have := Nat.div_le_self (n - 1) size; omega
  obtain ⟨q, hqd⟩ : ∃ q, q = nb n size := ⟨_, rfl⟩
  rw [← hqd] at hv HQ1
  have eq1 : (q0 : Int) + 1 = (q : Int) := by rw [hqd, nb, ← hqd0]; omega
  have HV := Lib.hid hv
  have HDD := Lib.hid hD
  clear hqd0 hqd hv hD
  go_enter Tryd.func38, Tryd.ntmps38
  go_wp2_with (first
    | (go_at_call 59; refine (rdata_any A n cp w).mono ?_; rintro e w1 ⟨rfl, hw⟩; rw [← hw]; clear hw w1; rw [HDD.out])
    | ((with_reducible show wpList _ _ _ (⟨some 31, _, _, _, _, _⟩ :: _) _ _); refine wpList_quoN _ rfl (.tmp 29) (.tmp 30) _ _ rfl (n - 1) size _ _ rfl rfl HR.out rfl (by omega) (by omega) ?_; rw [HQ0.out])
    | (go_at_call 22; refine (rspots_no nl q c _ HV.out).mono ?_; rintro e w2 ⟨rfl, rfl⟩))
  go_ret2
  exact ⟨rfl, Below.refl _ _⟩

/-- What both leave: the same list, the same error. -/
def PrvR (L : List Pf) (er : Int) (w : World) (e : Ending) (w' : World) : Prop := ∃ A' c', e = .returned (.tuple #[.slice A' L.length c', .int .i64 er]) ∧ LS rPf 3 56 w' A' L.length c' L ∧ Below w.heap.size w w'
/-- The two cases of Prove. -/
theorem prove_both (n : Nat) (size c : Int) (x nl : List UInt8) (hn : n ≤ 300) (hl : x.length = n) (ws : (Lit.int .i64 size).wf = true) (hd : ¬ (0 < size ∧ size ≤ (n : Int).tdiv 20)) :
    ∃ (L : List Pf) (er : Int), L.length ≤ 64 ∧ (∀ (A : Option Addr) (cp : Nat) (w : World), BS w A n cp x → Tabs w → Calls Tryd.prog 37 #[.slice A n cp, .int .i64 size, .string (strB nl), .int .i64 c] w (PrvR L er w)) ∧
      (∀ (A : Option Addr) (cp : Nat) (w : World), BS w A n cp x → Tabs w → Calls Tryd.prog 38 #[.slice A n cp, .int .i64 size, .string (strB nl), .int .i64 c] w (PrvR L er w)) ∧
      ((er = 1 ∧ L = []) ∨ (er = 0 ∧ ∃ (sz k : Nat), size = (sz : Int) ∧ c = (k : Int) ∧ 1 ≤ n ∧ 1 ≤ sz ∧ sz < 9223372036854775808 ∧ nb n sz ≤ 250 ∧ spotB nl.length (nb n sz : Int) (k : Int) = true ∧ L = prfL x sz (nb n sz) (spotsL nl (nb n sz) k))) := by
  by_cases h0 : dataB n = false ∨ size < 1
  · exact ⟨[], 1, by simp, fun A cp w _ _ => (prove_not A n cp size c nl w h0).mono (fun e w' ⟨he, hb⟩ => ⟨none, 0, he, LS.nil, hb⟩), fun A cp w _ _ => (rprove_not A n cp size c nl w h0).mono (fun e w' ⟨he, hb⟩ => ⟨none, 0, he, LS.nil, hb⟩), .inl ⟨rfl, rfl⟩⟩
  · have hD : dataB n = true := by
      cases h : dataB n with
      | true => rfl
      | false => exact absurd (.inl h) h0
    have h1 : 1 ≤ n := by simp only [dataB, Bool.and_eq_true, decide_eq_true_eq] at hD; exact hD.1
    obtain ⟨sz, rfl⟩ := Int.eq_ofNat_of_zero_le (show 0 ≤ size by have : ¬ size < 1 := fun h => h0 (.inr h); omega)
    have hs : 1 ≤ sz := by have : ¬ (sz : Int) < 1 := fun h => h0 (.inr h); omega
    have r2 := (wf_range ws).2
    have hd2 : n / 20 < sz := by
      rw [Int.tdiv_eq_ediv_of_nonneg (by omega)] at hd
      omega
    have hq : nb n sz ≤ 250 := by
      have : (n - 1) / sz < 20 := (Nat.div_lt_iff_lt_mul (by omega)).2 (by omega)
      unfold nb; omega
    by_cases hv : spotB nl.length (nb n sz : Int) c = true
    · obtain ⟨_, _, _, v4, v5, _⟩ := spotB_parts hv
      obtain ⟨k, rfl⟩ := Int.eq_ofNat_of_zero_le v4
      have hlen : (prfL x sz (nb n sz) (spotsL nl (nb n sz) k)).length = k := by rw [prfL_length, spotsL_length]
      refine ⟨_, 0, by rw [hlen]; omega, fun A cp w hb hT => (prove_any A n cp sz k x nl w hb hT h1 (by omega) hD hs (by omega) hq hv).mono (fun e w' ⟨A', c', he, hl, hb⟩ => ⟨A', c', ?_, ?_, hb⟩), fun A cp w hb hT => (rprove_any A n cp sz k x nl w hb hT h1 (by omega) hD hs (by omega) hq hv).mono (fun e w' ⟨A', c', he, hl, hb⟩ => ⟨A', c', ?_, ?_, hb⟩), .inr ⟨rfl, sz, k, rfl, rfl, h1, hs, by omega, hq, hv, rfl⟩⟩
      · rw [hlen]; exact he
      · rw [hlen]; exact hl
      · rw [hlen]; exact he
      · rw [hlen]; exact hl
    · simp only [Bool.not_eq_true] at hv
      exact ⟨[], 1, by simp, fun A cp w _ _ => (prove_nos A n cp sz c nl w h1 (by omega) hD hs (by omega) hv).mono (fun e w' ⟨he, hb⟩ => ⟨none, 0, he, LS.nil, hb⟩), fun A cp w _ _ => (rprove_nos A n cp sz c nl w h1 (by omega) hD hs (by omega) hv).mono (fun e w' ⟨he, hb⟩ => ⟨none, 0, he, LS.nil, hb⟩), .inl ⟨rfl, rfl⟩⟩
end Go.Proofs.YtgjgofjabdjclaaDoor
