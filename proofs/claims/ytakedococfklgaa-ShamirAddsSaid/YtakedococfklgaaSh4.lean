/- Contracts of shamir.Combine, Extend, Check. -/
import Derived.Test.YtakedococfklgaaSh3
namespace Go.Proofs.Ytakedococfklgaa
open Go.RowKit Gf

theorem ckE_ok {l : List (Int × List UInt8)} {t : Int} (h : ckE l t = 0) : shB l = true ∧ 1 ≤ t ∧ t ≤ 16 ∧ t ≤ l.length ∧ agB l t.toNat = true := by
  unfold ckE at h
  split at h
  · rename_i h1
    rw [Bool.and_eq_true] at h1
    obtain ⟨h2, h3⟩ := h1
    have := vT_iff.1 h3
    split at h
    · exact absurd h (by decide)
    · split at h
      · rename_i h4 h5
        exact ⟨h2, this.1, this.2, by omega, h5⟩
      · exact absurd h (by decide)
  · exact absurd h (by decide)
/-- The bytes that Combine returns. -/
def cbL (l : List (Int × List UInt8)) (t : Int) (x : UInt8) : List UInt8 := if ckE l t = 0 then vlA (l.take t.toNat) x else []
def CmbRet (l : List UInt8) (r : Int) (w : World) (e : Ending) (w' : World) : Prop := ∃ v, e = .returned (.tuple #[v, .int .i64 r]) ∧ GvB l w v w'

set_option maxRecDepth 100000 in
set_option maxHeartbeats 1000000 in
theorem combine_any (A : Option Addr) (n c : Nat) (t : Int) (l : List (Int × List UInt8)) (w : World) (h : SS w A n c l) :
    Calls Try.prog 26 #[.slice A n c, .int .i64 t] w (CmbRet (cbL l t 0) (ckE l t) w) := by
  have hn := h.len_le
  have hnc := h.2.1
  have HL := Lib.hid h.1
  have H := Lib.hid h
  clear h
  by_cases hck : ckE l t = 0
  · obtain ⟨c1, c2, c3, c4, c5⟩ := ckE_ok hck
    obtain ⟨s1, s2, s3, s4, s5⟩ := shB_spec c1
    obtain ⟨t, rfl⟩ : ∃ k : Nat, t = (k : Int) := ⟨t.toNat, by omega⟩
    have htn : t ≤ n := by rw [HL.out] at c4; omega
    have S2 := Lib.hid s2
    have S4 := Lib.hid s4
    have HR : Hid (cbL l t 0 = vlA (l.take t) 0) := Lib.hid (by unfold cbL; rw [if_pos hck]; rfl)
    have HC := Lib.hid hck
    have hlen : Hid ((l.take t).length = t) := Lib.hid (by rw [List.length_take, HL.out]; omega)
    have htc : t ≤ c := by omega
    clear hck c1 c4 c5 s2 s3 s4 s5
    go_enter Try.func26, Try.ntmps26
    go_wp2_with fail
    refine (check_any _ _ _ _ _ _ H.out).mono ?_
    rintro e w1 ⟨rfl, hb1⟩
    have HB1 := Lib.hid hb1
    have H1 := Lib.hid ((H.out.kept hb1).take htn)
    clear hb1
    rw [HC.out]
    go_wp2_with fail
    refine (valueAt_any A t c _ (l.take t) 0 w1 H1.out (by omega) (fun j hj => by rw [hlen.out] at hj; rw [gS_take hj]; exact S2.out j (by rw [HL.out]; omega)) (fun j hj => by rw [gS_take hj]; have := S4.out j (by rw [HL.out]; omega); omega)).mono ?_
    rintro e w2 ⟨v2, rfl, A2, n2, c2', rfl, h21, h22, h23⟩
    have HG : Hid (GvB (cbL l t 0) w (.slice A2 n2 c2') w2) := Lib.hid (by rw [HR.out]; exact ⟨_, _, _, rfl, h21, (fun a e => Nat.le_trans HB1.out.size (h22 a e)), below_then HB1.out h23⟩)
    clear h21 h22 h23
    go_wp2_with fail
    go_ret2
    exact ⟨_, by rw [HC.out]; rfl, HG.out⟩
  · have HR : Hid (cbL l t 0 = []) := Lib.hid (by unfold cbL; rw [if_neg hck])
    obtain ⟨r, hr⟩ : ∃ r, r = ckE l t := ⟨_, rfl⟩
    have q : (r != 0) = true := by rw [hr]; simpa using hck
    have HRR := Lib.hid hr
    clear hck hr
    go_enter Try.func26, Try.ntmps26
    go_wp2_with fail
    refine (check_any _ _ _ _ _ _ H.out).mono ?_
    rintro e w1 ⟨rfl, hb1⟩
    have HG : Hid (GvB (cbL l t 0) w (.slice none 0 0) w1) := Lib.hid (by rw [HR.out]; exact ⟨none, 0, 0, rfl, BS.nil, (fun _ h => by cases h), hb1⟩)
    clear hb1
    rw [← HRR.out]
    go_wp2_with fail
    go_ret2
    exact ⟨_, by rw [← HRR.out]; rfl, HG.out⟩

/-- What Extend returns. -/
def exE (l : List (Int × List UInt8)) (t x : Int) : Int := if vX x then ckE l t else 1
def exX (l : List (Int × List UInt8)) (t x : Int) : Int := if exE l t x = 0 then x else 0
def exL (l : List (Int × List UInt8)) (t x : Int) : List UInt8 := if exE l t x = 0 then vlA (l.take t.toNat) (UInt8.ofNat x.toNat) else []
def ExRet (x : Int) (l : List UInt8) (r : Int) (w : World) (e : Ending) (w' : World) : Prop := ∃ A n c, e = .returned (.tuple #[.agg #[.int .i64 x, .slice A n c], .int .i64 r]) ∧ BS w' A n c l ∧ AtB A (w.heap.size ≤ ·) ∧ Below w.heap.size w w'

set_option maxRecDepth 100000 in
set_option maxHeartbeats 1000000 in
theorem extend_any (A : Option Addr) (n c : Nat) (t x : Int) (l : List (Int × List UInt8)) (w : World) (h : SS w A n c l) :
    Calls Try.prog 27 #[.slice A n c, .int .i64 t, .int .i64 x] w (ExRet (exX l t x) (exL l t x) (exE l t x) w) := by
  have hn := h.len_le
  have hnc := h.2.1
  have HL := Lib.hid h.1
  have H := Lib.hid h
  clear h
  cases hv : vX x with
  | false =>
    have HE : Hid (exE l t x = 1) := Lib.hid (by unfold exE; rw [hv]; rfl)
    have HX : Hid (exX l t x = 0) := Lib.hid (by unfold exX; rw [HE.out]; rfl)
    have HLL : Hid (exL l t x = []) := Lib.hid (by unfold exL; rw [HE.out]; rfl)
    go_enter Try.func27, Try.ntmps27
    go_wp2_with fail
    refine (validX_any _ _).mono ?_
    rintro e w' ⟨rfl, rfl⟩
    rw [hv]
    go_wp2_with fail
    refine bodyPost_ret (v := .tuple #[.agg #[.int .i64 0, .slice none 0 0], .int .i64 1]) (by simp [results, Try.results27, go_sem]) rfl ?_
    rw [HE.out, HX.out, HLL.out]
    exact ⟨none, 0, 0, rfl, BS.nil, (fun _ h => by cases h), (Below.refl _ _).alloc (Nat.le_refl _) _⟩
  | true =>
    obtain ⟨x1, x2⟩ := vX_iff.1 hv
    have HE : Hid (exE l t x = ckE l t) := Lib.hid (by unfold exE; rw [hv]; rfl)
    have HAA := Lib.hid (H.out.kept ((Below.refl _ w).alloc (Nat.le_refl _) (.cells #[.int .i64 0, .slice none 0 0] 33)))
    have HBA : Hid (Below w.heap.size w (w.alloc (.cells #[.int .i64 0, .slice none 0 0] 33))) := Lib.hid ((Below.refl _ w).alloc (Nat.le_refl _) _)
    have HBK := Lib.hid (Blk.new w 33 #[.int .i64 0, .slice none 0 0])
    by_cases hck : ckE l t = 0
    · obtain ⟨c1, c2, c3, c4, c5⟩ := ckE_ok hck
      obtain ⟨s1, s2, s3, s4, s5⟩ := shB_spec c1
      obtain ⟨t, rfl⟩ : ∃ k : Nat, t = (k : Int) := ⟨t.toNat, by omega⟩
      have htn : t ≤ n := by rw [HL.out] at c4; omega
      have S2 := Lib.hid s2
      have S4 := Lib.hid s4
      have HX : Hid (exX l t x = x) := Lib.hid (by unfold exX; rw [HE.out, if_pos hck])
      have HLL : Hid (exL l t x = vlA (l.take t) (UInt8.ofNat x.toNat)) := Lib.hid (by unfold exL; rw [HE.out, if_pos hck]; rfl)
      have HC := Lib.hid hck
      have hlen : Hid ((l.take t).length = t) := Lib.hid (by rw [List.length_take, HL.out]; omega)
      have htc : t ≤ c := by omega
      have HBV : Hid (bv (UInt8.ofNat x.toNat) = x) := Lib.hid (bv_ofNat x (by omega) (by omega))
      clear hck c1 c4 c5 s2 s3 s4 s5
      go_enter Try.func27, Try.ntmps27
      go_wp2_with fail
      refine (validX_any _ _).mono ?_
      rintro e w' ⟨rfl, rfl⟩
      rw [hv]
      go_wp2_with fail
      refine (check_any _ _ _ _ _ _ HAA.out).mono ?_
      rintro e w1 ⟨rfl, hb1⟩
      have HB1 := Lib.hid (below_then HBA.out hb1)
      have H1 := Lib.hid ((HAA.out.kept hb1).take htn)
      have HK1 := Lib.hid (HBK.out.kept hb1)
      clear hb1
      rw [HC.out]
      go_wp2_with fail
      have hval := valueAt_any A t c _ (l.take t) (UInt8.ofNat x.toNat) w1 H1.out (by omega) (fun j hj => by rw [hlen.out] at hj; rw [gS_take hj]; exact S2.out j (by rw [HL.out]; omega)) (fun j hj => by rw [gS_take hj]; have := S4.out j (by rw [HL.out]; omega); omega)
      rw [HBV.out] at hval
      refine hval.mono ?_
      clear hval
      rintro e w2 ⟨v2, rfl, A2, n2, c2', rfl, h21, h22, h23⟩
      have HK2 := HK1.out.kept h23
      have d1 : w2.cell? ⟨w.heap.size, 0, none⟩ = some (.int .i64 0) := by rw [HK2.cell]; rfl
      have d2 : w2.cell? ⟨w.heap.size, 1, none⟩ = some (.slice none 0 0) := by rw [HK2.cell]; rfl
      have d3 := HK2.frozen 0
      have d4 := HK2.frozen 1
      have H21 := Lib.hid h21
      have H22 := Lib.hid h22
      have HB2 := Lib.hid (below_then HB1.out h23)
      have HKK := Lib.hid HK2
      clear h21 h22 h23 HK2
      go_wp2_with fail
      have K1 := (HKK.out.set_ 0 (.int .i64 x)).set_ 1 (.slice A2 n2 c2')
      have d5 : ((w2.setCell ⟨w.heap.size, 0, none⟩ (.int .i64 x)).setCell ⟨w.heap.size, 1, none⟩ (.slice A2 n2 c2')).cell? ⟨w.heap.size, 0, none⟩ = some (.int .i64 x) := by rw [K1.cell]; rfl
      have d6 : ((w2.setCell ⟨w.heap.size, 0, none⟩ (.int .i64 x)).setCell ⟨w.heap.size, 1, none⟩ (.slice A2 n2 c2')).cell? ⟨w.heap.size, 1, none⟩ = some (.slice A2 n2 c2') := by rw [K1.cell]; rfl
      have hfar : ∀ g o, A2 = some ⟨g, o, none⟩ → g ≠ w.heap.size := fun g o e => by
        have h1 := H22.out ⟨g, o, none⟩ e
        have h2 := HK1.out.lt
        intro h3
        have h4 : w1.heap.size ≤ g := h1
        omega
      refine bodyPost_ret (v := .tuple #[.agg #[.int .i64 x, .slice A2 n2 c2'], .int .i64 0]) (by simp [results, Try.results27, go_sem, d5, d6]) rfl ?_
      rw [HE.out, HX.out, HLL.out, HC.out]
      exact ⟨A2, n2, c2', rfl, (H21.out.far hfar _).far hfar _, (fun a e => Nat.le_trans HB1.out.size (H22.out a e)), (HB2.out.setCell (Nat.le_refl _) _).setCell (Nat.le_refl _) _⟩
    · obtain ⟨r, hr⟩ : ∃ r, r = ckE l t := ⟨_, rfl⟩
      have q : (r != 0) = true := by rw [hr]; simpa using hck
      have HX : Hid (exX l t x = 0) := Lib.hid (by unfold exX; rw [HE.out, if_neg hck])
      have HLL : Hid (exL l t x = []) := Lib.hid (by unfold exL; rw [HE.out, if_neg hck])
      have HRR := Lib.hid hr
      clear hck hr
      go_enter Try.func27, Try.ntmps27
      go_wp2_with fail
      refine (validX_any _ _).mono ?_
      rintro e w' ⟨rfl, rfl⟩
      rw [hv]
      go_wp2_with fail
      refine (check_any _ _ _ _ _ _ HAA.out).mono ?_
      rintro e w1 ⟨rfl, hb1⟩
      have HB1 := Lib.hid (below_then HBA.out hb1)
      have HK2 := HBK.out.kept hb1
      have d1 : w1.cell? ⟨w.heap.size, 0, none⟩ = some (.int .i64 0) := by rw [HK2.cell]; rfl
      have d2 : w1.cell? ⟨w.heap.size, 1, none⟩ = some (.slice none 0 0) := by rw [HK2.cell]; rfl
      have d3 := HK2.frozen 0
      have d4 := HK2.frozen 1
      have HKK := Lib.hid HK2
      clear hb1 HK2
      rw [← HRR.out]
      go_wp2_with fail
      have K1 := (HKK.out.set_ 0 (.int .i64 0)).set_ 1 (.slice none 0 0)
      have d5 : ((w1.setCell ⟨w.heap.size, 0, none⟩ (.int .i64 0)).setCell ⟨w.heap.size, 1, none⟩ (.slice none 0 0)).cell? ⟨w.heap.size, 0, none⟩ = some (.int .i64 0) := by rw [K1.cell]; rfl
      have d6 : ((w1.setCell ⟨w.heap.size, 0, none⟩ (.int .i64 0)).setCell ⟨w.heap.size, 1, none⟩ (.slice none 0 0)).cell? ⟨w.heap.size, 1, none⟩ = some (.slice none 0 0) := by rw [K1.cell]; rfl
      refine bodyPost_ret (v := .tuple #[.agg #[.int .i64 0, .slice none 0 0], .int .i64 r]) (by simp [results, Try.results27, go_sem, d5, d6]) rfl ?_
      rw [HE.out, HX.out, HLL.out, ← HRR.out]
      exact ⟨none, 0, 0, rfl, BS.nil, (fun _ h => by cases h), (HB1.out.setCell (Nat.le_refl _) _).setCell (Nat.le_refl _) _⟩

/-- What Check returns. -/
def chE (l : List (Int × List UInt8)) (t : Int) : Int := if shB l && vT t then 0 else 1
def chB (l : List (Int × List UInt8)) (t : Int) : Bool := shB l && vT t && agB l t.toNat
set_option maxRecDepth 100000 in
set_option maxHeartbeats 1000000 in
theorem check2_any (A : Option Addr) (n c : Nat) (t : Int) (l : List (Int × List UInt8)) (w : World) (h : SS w A n c l) :
    Calls Try.prog 28 #[.slice A n c, .int .i64 t] w fun e w' => e = .returned (.tuple #[.bool (chB l t), .int .i64 (chE l t)]) ∧ Below w.heap.size w w' := by
  have hn := h.len_le
  have HL := Lib.hid h.1
  have H := Lib.hid h
  clear h
  cases hs : shB l with
  | false =>
    have HE : Hid (chE l t = 1) := Lib.hid (by unfold chE; rw [hs]; rfl)
    have HB : Hid (chB l t = false) := Lib.hid (by unfold chB; rw [hs]; rfl)
    go_enter Try.func28, Try.ntmps28
    go_wp2_with fail
    refine (validShares_any _ _ _ _ _ H.out).mono ?_
    rintro e w1 ⟨rfl, hb1⟩
    have HB1 := Lib.hid hb1
    clear hb1
    rw [hs]
    go_wp2_with fail
    go_ret2
    exact ⟨by rw [HE.out, HB.out]; rfl, HB1.out⟩
  | true =>
    obtain ⟨s1, s2, s3, s4, s5⟩ := shB_spec hs
    have S2 := Lib.hid s2
    have S4 := Lib.hid s4
    clear s2 s3 s4 s5
    cases hv : vT t with
    | false =>
      have HE : Hid (chE l t = 1) := Lib.hid (by unfold chE; rw [hs, hv]; rfl)
      have HB : Hid (chB l t = false) := Lib.hid (by unfold chB; rw [hs, hv]; rfl)
      go_enter Try.func28, Try.ntmps28
      go_wp2_with fail
      refine (validShares_any _ _ _ _ _ H.out).mono ?_
      rintro e w1 ⟨rfl, hb1⟩
      have HB1 := Lib.hid hb1
      clear hb1
      rw [hs]
      go_wp2_with fail
      refine (validT_any _ _).mono ?_
      rintro e w' ⟨rfl, rfl⟩
      rw [hv]
      go_wp2_with fail
      go_ret2
      exact ⟨by rw [HE.out, HB.out]; rfl, HB1.out⟩
    | true =>
      obtain ⟨t1, t2⟩ := vT_iff.1 hv
      obtain ⟨t, rfl⟩ : ∃ k : Nat, t = (k : Int) := ⟨t.toNat, by omega⟩
      have HE : Hid (chE l t = 0) := Lib.hid (by unfold chE; rw [hs, hv]; rfl)
      have HB : Hid (chB l t = agB l t) := Lib.hid (by unfold chB; rw [hs, hv]; rfl)
      go_enter Try.func28, Try.ntmps28
      go_wp2_with fail
      refine (validShares_any _ _ _ _ _ H.out).mono ?_
      rintro e w1 ⟨rfl, hb1⟩
      have HB1 := Lib.hid hb1
      have H1 := Lib.hid (H.out.kept hb1)
      clear hb1
      rw [hs]
      go_wp2_with fail
      refine (validT_any _ _).mono ?_
      rintro e w' ⟨rfl, rfl⟩
      rw [hv]
      go_wp2_with fail
      refine (agree_any _ n c _ t l _ H1.out (by omega) S2.out (fun k hk => S4.out k (by rw [HL.out]; exact hk)) (by omega)).mono ?_
      rintro e w2 ⟨rfl, hb2⟩
      have HB2 := Lib.hid (below_then HB1.out hb2)
      clear hb2
      go_wp2_with fail
      go_ret2
      exact ⟨by rw [HE.out, HB.out]; rfl, HB2.out⟩
end Go.Proofs.Ytakedococfklgaa
