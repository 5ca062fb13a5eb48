/- Contracts of shamir.agree, check, Combine, Extend, Check. -/
import Derived.Test.YtakedococfklgaaSh2
import Derived.Test.YtakedococfklgaaSt
import Derived.Test.YtakedococfklgaaText3
namespace Go.Proofs.Ytakedococfklgaa
open Go.RowKit Gf

theorem shB_spec {l : List (Int × List UInt8)} (h : shB l = true) : l.length ≤ 64 ∧ Eql l (gS l 0).2.length ∧ (∀ k, k < l.length → (gS l k).2.length ≤ 1024) ∧ (∀ k, k < l.length → 1 ≤ (gS l k).1 ∧ (gS l k).1 ≤ 255) ∧ ∀ i j, j < i → i < l.length → (gS l j).1 ≠ (gS l i).1 := by
  unfold shB at h
  rw [Bool.and_eq_true, List.all_eq_true] at h
  obtain ⟨h1, h2⟩ := h
  obtain ⟨a1, a2, a3⟩ := xsB_spec h2
  have hl : (xsL l).length = l.length := by simp [xsL]
  have hg : ∀ k, k < l.length → gI (xsL l) k = (gS l k).1 := fun k hk => by rw [gI_eq (by rw [hl]; exact hk), gS_eq hk]; simp [xsL]
  rw [hl] at a1 a2 a3
  refine ⟨a1, fun k hk => ?_, fun k hk => ?_, fun k hk => ?_, fun i j hj hi => ?_⟩
  · have := h1 k (List.mem_range.2 hk); simp [dOk] at this; exact this.1
  · have := h1 k (List.mem_range.2 hk); simp [dOk] at this; exact this.2
  · rw [← hg k hk]; exact a2 k hk
  · rw [← hg i hi, ← hg j (by omega)]; exact a3 i j hj hi

/-- Do the first t shares foretell the others? -/
def agK (l : List (Int × List UInt8)) (t i : Nat) : Bool := decide (vlA (l.take t) (gX l i) = (gS l i).2)
def agB (l : List (Int × List UInt8)) (t : Nat) : Bool := (List.range l.length).all fun i => decide (i < t) || agK l t i
theorem agB_false {l : List (Int × List UInt8)} {t i : Nat} (hi : i < l.length) (ht : t ≤ i) (h : agK l t i = false) : agB l t = false := by
  unfold agB; rw [List.all_eq_false]; exact ⟨i, List.mem_range.2 hi, by rw [h]; simp; omega⟩
theorem agB_true {l : List (Int × List UInt8)} {t : Nat} (h : ∀ i, t ≤ i → i < l.length → agK l t i = true) : agB l t = true := by
  unfold agB; rw [List.all_eq_true]; intro i hi
  by_cases e : i < t
  · simp [e]
  · rw [h i (by omega) (List.mem_range.1 hi)]; simp
theorem gS_take {l : List (Int × List UInt8)} {m k : Nat} (h : k < m) : gS (l.take m) k = gS l k := by simp [gS, List.getD, h]

set_option maxRecDepth 100000 in
set_option maxHeartbeats 1000000 in
theorem agree_any (A : Option Addr) (n c L t : Nat) (l : List (Int × List UInt8)) (w : World) (h : SS w A n c l) (h0 : 0 < t) (hL : Eql l L) (hX : ∀ k, k < n → 1 ≤ (gS l k).1 ∧ (gS l k).1 ≤ 255) (ht : t ≤ 16) :
    Calls Try.prog 56 #[.slice A n c, .int .i64 (t : Int)] w (ChkB (agB l t) w) := by
  have hn := h.len_le
  have hnc := h.2.1
  have HL := Lib.hid h.1
  have H := Lib.hid h
  have HX := Lib.hid hX
  have HQ := Lib.hid hL
  clear h hL hX
  by_cases htn : n ≤ t
  · have HR : Hid (agB l t = true) := Lib.hid (agB_true (fun i h1 h2 => by rw [HL.out] at h2; omega))
    have q : decide ((t : Int) < (n : Int)) = false := by simp; omega
    have q' : decide (t < n) = false := by simp; omega
    go_enter Try.func56, Try.ntmps56
    go_wp2
    go_loop [5] (fun i => i = .int .i64 (t : Int)) (fun _ => 0)
    case atStart => rfl
    case round =>
      obtain rfl := hrel
      go_wp2
      go_ret
      exact ⟨ret_bool HR.out.symm, Below.refl _ _⟩
  · go_enter Try.func56, Try.ntmps56
    go_wp2
    go_loopw [5] (fun i wr => ∃ k : Nat, t ≤ k ∧ k ≤ n ∧ i = .int .i64 (k : Int) ∧ Hid (∀ j, t ≤ j → j < k → agK l t j = true) ∧ Hid (Below w.heap.size w wr)) (fun i _ => n - (intOf i).toNat)
    case atStart => exact ⟨t, by omega, by omega, rfl, Lib.hid (fun j h1 h2 => absurd h2 (by omega)), Lib.hid (Below.refl _ _)⟩
    case round =>
      obtain ⟨k, hk1, hk2, rfl, hall, hb⟩ := hrel
      by_cases hlt : k < n
      · obtain ⟨g, o, A1, n1, c1, rfl, hc1, hc2, hr1⟩ := H.out.at_ hb.out hlt
        rw [gX_eq (l := l) (k := k) (by have := HX.out k hlt; omega) (by have := HX.out k hlt; omega)] at hc1
        have HR1 := Lib.hid hr1
        have HS : Hid (SS wr (some ⟨g, o, none⟩) t c (l.take t)) := Lib.hid ((H.out.kept hb.out).take (by omega))
        have hlen : Hid ((l.take t).length = t) := Lib.hid (by rw [List.length_take, HL.out]; omega)
        have htc : t ≤ c := by omega
        have htc' : (t : Int) ≤ (c : Int) := by omega
        have htn' : t ≤ n := by omega
        clear hr1
        go_wp2_with fail
        refine Text.wp_region_text (fun w' => w'.cell? ⟨g, o + k * 2 + 1, none⟩ = some (.slice A1 n1 c1)) [(0, 4), (1, 4), (2, 4), (3, 4), (4, 4), (5, 4), (6, 4), (9, 4), (10, 4), (11, 4), (12, 4), (13, 0), (7, 1), (8, 2), (14, 2), (15, 4)] (by kernel_rfl) (by kernel_rfl) (fun _ _ _ _ _ h => h) (hc2) ?_
        iterate 11 (refine Text.purek rfl rfl (fun K hK => ⟨_, fun w' => by go_simp <;> rfl, ?_⟩); go_simp; refine hK _ ?_; clear hK K)
        (refine Text.heldk rfl rfl (fun K hK => ⟨_, fun w' hw' => by go_simp <;> rfl, ?_⟩); go_simp; refine hK _ ?_; clear hK K)
        (refine Text.readk rfl rfl (fun K hK => ⟨_, by go_simp <;> rfl, ?_⟩); go_simp; refine hK _ ?_; clear hK K)
        refine Text.eff rfl rfl (fun K hK => ?_)
        go_simp
        refine (valueAt_any _ t c L (l.take t) (gX l k) wr.drew HS.out.drew h0 (fun j hj => by rw [hlen.out] at hj; rw [gS_take hj]; exact HQ.out j (by rw [HL.out]; omega)) (fun j hj => by rw [gS_take hj]; have := HX.out j (by omega); omega)).mono ?_
        rintro e w3 ⟨v3, rfl, A3, n3, c3, rfl, h31, h32, h33⟩
        have h33' : Below wr.heap.size wr w3 := below_ofDrew h33
        refine hK _ _ (cell_kept h33' hc2) ?_
        have HB3 := Lib.hid (below_then hb.out h33')
        have H31 := Lib.hid h31
        have HR3 := Lib.hid (HR1.out.kept h33')
        have hc3 := cell_kept h33' hc2
        clear hK K h31 h32 h33 h33' hb hc1 hc2 HS
        refine Text.eff rfl rfl (fun K hK => ?_)
        go_simp
        refine (equal_any A3 A1 n3 c3 n1 c1 _ _ w3 H31.out HR3.out).mono ?_
        rintro e w4 ⟨rfl, rfl⟩
        refine hK _ _ hc3 ?_
        clear hK K H31 HR3
        have HAG : Hid (decide (vlA (l.take t) (gX l k) = (gS l k).2) = agK l t k) := Lib.hid rfl
        rw [HAG.out]
        cases hag : agK l t k with
        | true =>
          have HA : Hid (∀ j, t ≤ j → j < k + 1 → agK l t j = true) := Lib.hid (fun j h1 h2 => by
            by_cases e : j = k
            · rw [e]; exact hag
            · exact hall.out j h1 (by omega))
          clear hag hall
          (refine Text.purek rfl rfl (fun K hK => ⟨_, fun w' => by go_simp <;> rfl, ?_⟩); go_simp; refine hK _ ?_; clear hK K)
          refine Text.done ?_
          clear hc3
          go_wp2_with fail
          go_roundw
          case rel => exact ⟨k + 1, by omega, by omega, by go_num, HA, HB3⟩
          case measure => simp [intOf]; omega
        | false =>
          have HR : Hid (agB l t = false) := Lib.hid (agB_false (by rw [HL.out]; exact hlt) hk1 hag)
          clear hag hall
          (refine Text.purek rfl rfl (fun K hK => ⟨_, fun w' => by go_simp <;> rfl, ?_⟩); go_simp; refine hK _ ?_; clear hK K)
          refine Text.done ?_
          clear hc3
          go_wp2_with fail
          go_ret
          exact ⟨ret_bool HR.out.symm, HB3.out⟩
      · have HR : Hid (agB l t = true) := Lib.hid (agB_true (fun i h1 h2 => hall.out i h1 (by rw [HL.out] at h2; omega)))
        go_wp2
        go_ret
        exact ⟨ret_bool HR.out.symm, hb.out⟩

/-- The error of Combine. -/
def ckE (l : List (Int × List UInt8)) (t : Int) : Int := if shB l && vT t then (if (l.length : Int) < t then 10 else if agB l t.toNat then 0 else 13) else 1
def ChkI (r : Int) (w : World) (e : Ending) (w' : World) : Prop := e = .returned (.int .i64 r) ∧ Below w.heap.size w w'

set_option maxRecDepth 100000 in
set_option maxHeartbeats 1000000 in
theorem check_any (A : Option Addr) (n c : Nat) (t : Int) (l : List (Int × List UInt8)) (w : World) (h : SS w A n c l) :
    Calls Try.prog 53 #[.slice A n c, .int .i64 t] w (ChkI (ckE l t) w) := by
  have hn := h.len_le
  have HL := Lib.hid h.1
  have H := Lib.hid h
  clear h
  cases hs : shB l with
  | false =>
    have HR : Hid (ckE l t = 1) := Lib.hid (by unfold ckE; rw [hs]; rfl)
    go_enter Try.func53, Try.ntmps53
    go_wp2_with fail
    refine (validShares_any _ _ _ _ _ H.out).mono ?_
    rintro e w1 ⟨rfl, hb1⟩
    have HB1 := Lib.hid hb1
    clear hb1
    rw [hs]
    go_wp2_with fail
    go_ret
    exact ⟨ret_int HR.out.symm, HB1.out⟩
  | true =>
    obtain ⟨s1, s2, s3, s4, s5⟩ := shB_spec hs
    have S2 := Lib.hid s2
    have S4 := Lib.hid s4
    clear s2 s3 s4 s5
    cases hv : vT t with
    | false =>
      have HR : Hid (ckE l t = 1) := Lib.hid (by unfold ckE; rw [hs, hv]; rfl)
      go_enter Try.func53, Try.ntmps53
      go_wp2_with fail
      refine (validShares_any _ _ _ _ _ H.out).mono ?_
      rintro e w1 ⟨rfl, hb1⟩
      have HB1 := Lib.hid hb1
      clear hb1
      rw [hs]
      go_wp2_with fail
      refine (validT_any _ _).mono ?_
      rintro e w' ⟨rfl, rfl⟩
      rw [hv]
      go_wp2_with fail
      go_ret
      exact ⟨ret_int HR.out.symm, HB1.out⟩
    | true =>
      obtain ⟨t1, t2⟩ := vT_iff.1 hv
      obtain ⟨t, rfl⟩ : ∃ k : Nat, t = (k : Int) := ⟨t.toNat, by omega⟩
      by_cases hnt : n < t
      · have HR : Hid (ckE l t = 10) := Lib.hid (by unfold ckE; rw [hs, hv, HL.out]; simp; omega)
        have q : decide ((n : Int) < (t : Int)) = true := by simp; omega
        have q' : decide (n < t) = true := by simp; omega
        go_enter Try.func53, Try.ntmps53
        go_wp2_with fail
        refine (validShares_any _ _ _ _ _ H.out).mono ?_
        rintro e w1 ⟨rfl, hb1⟩
        have HB1 := Lib.hid hb1
        clear hb1
        rw [hs]
        go_wp2_with fail
        refine (validT_any _ _).mono ?_
        rintro e w' ⟨rfl, rfl⟩
        rw [hv]
        go_wp2_with fail
        go_ret
        exact ⟨ret_int HR.out.symm, HB1.out⟩
      · have HR : Hid (ckE l t = if agB l t then 0 else 13) := Lib.hid (by unfold ckE; rw [hs, hv, HL.out]; simp; omega)
        have q : decide ((n : Int) < (t : Int)) = false := by simp; omega
        have q' : decide (n < t) = false := by simp; omega
        go_enter Try.func53, Try.ntmps53
        go_wp2_with fail
        refine (validShares_any _ _ _ _ _ H.out).mono ?_
        rintro e w1 ⟨rfl, hb1⟩
        have HB1 := Lib.hid hb1
        have H1 := Lib.hid (H.out.kept hb1)
        clear hb1
        rw [hs]
        go_wp2_with fail
        refine (validT_any _ _).mono ?_
        rintro e w' ⟨rfl, rfl⟩
        rw [hv]
        go_wp2_with fail
        refine (agree_any _ n c _ t l _ H1.out (by omega) S2.out (fun k hk => S4.out k (by rw [HL.out]; exact hk)) (by omega)).mono ?_
        rintro e w2 ⟨rfl, hb2⟩
        have HB2 := Lib.hid (below_then HB1.out hb2)
        clear hb2
        cases hag : agB l t with
        | true =>
          have HR' : Hid (ckE l t = 0) := Lib.hid (by rw [HR.out, hag]; rfl)
          clear HR
          go_wp2_with fail
          go_ret
          exact ⟨ret_int HR'.out.symm, HB2.out⟩
        | false =>
          have HR' : Hid (ckE l t = 13) := Lib.hid (by rw [HR.out, hag]; rfl)
          clear HR
          go_wp2_with fail
          go_ret
          exact ⟨ret_int HR'.out.symm, HB2.out⟩
end Go.Proofs.Ytakedococfklgaa
