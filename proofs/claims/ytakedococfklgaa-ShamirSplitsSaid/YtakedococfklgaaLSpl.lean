/- ShamirSplits: for every input the law returns true, and its arguments read behind the call as they read before. No condition. The walk. -/
import Derived.Test.YtakedococfklgaaAw2
import Derived.Test.YtakedococfklgaaRe2
namespace Go.Proofs.Ytakedococfklgaa
open Go.RowKit Gf

/-! ### the plain law -/
theorem gB_mad {dst src : List UInt8} {c : UInt8} {i : Nat} (h : dst.length = src.length) (hi : i < src.length) : gB (muladd dst src c) i = mul c (gB src i) ^^^ gB dst i := by
  have h1 : i < (muladd dst src c).length := by rw [muladd_length _ _ _ h]; exact hi
  rw [gB_eq h1, gB_eq hi, gB_eq (by omega)]
  simp [muladd]
theorem hor_length {m : List (List UInt8)} (x : UInt8) {L : Nat} (hm : ∀ j, j < m.length → (gR m j).length = L) : ∀ j, j ≤ m.length → (hor m x L j).length = L
  | 0, _ => zeros_length L
  | j + 1, h => by
    have h1 := hor_length x hm j (by omega)
    rw [hor, muladd_length _ _ _ (by rw [hm _ (by omega), h1]), h1]
theorem hor_at {m : List (List UInt8)} (x : UInt8) {L : Nat} (hm : ∀ j, j < m.length → (gR m j).length = L) {b : Nat} (hb : b < L) : ∀ j, j ≤ m.length → gB (hor m x L j) b = Py.ev ((m.drop (m.length - j)).map (fun r => gB r b)) x
  | 0, _ => by
    rw [Nat.sub_zero, List.drop_length]
    show gB (zeros L) b = 0
    rw [gB_eq (by rw [zeros_length]; exact hb)]
    simp [zeros]
  | j + 1, h => by
    have h1 := hor_length x hm j (by omega)
    have h2 : m.length - (j + 1) < m.length := by omega
    rw [hor, gB_mad (by rw [hm _ (by omega), h1]) (by rw [h1]; exact hb), hor_at x hm hb j (by omega), List.drop_eq_getElem_cons h2, List.map_cons, Py.ev_cons, show m.length - (j + 1) + 1 = m.length - j by omega, show m.length - 1 - j = m.length - (j + 1) by omega, gR_eq h2, mul_comm]
theorem spl_share {s : List UInt8} {co : List (List UInt8)} (hr : ∀ j, j < co.length → (gR co j).length = s.length) (X : UInt8) : evl (splM s co) X = spK s co X s.length := by
  have hm : ∀ j, j < (splM s co).length → (gR (splM s co) j).length = s.length := fun j hj => by
    cases j with
    | zero => rfl
    | succ j => exact hr j (by simpa [splM] using hj)
  have hl : (evl (splM s co) X).length = s.length := hor_length X hm _ (Nat.le_refl _)
  apply List.ext_getElem (by rw [hl, spK_length])
  intro i h1 h2
  have hi : i < s.length := by rw [← hl]; exact h1
  rw [← gB_eq h1, ← gB_eq h2, spK, gB_tab _ hi, rv_ev]
  show gB (hor (splM s co) X s.length (splM s co).length) i = _
  rw [hor_at X hm hi _ (Nat.le_refl _), Nat.sub_self]
  rfl
/-- The specified shares. -/
def wnK (s : List UInt8) (co : List (List UInt8)) (z : List Int) : List (Int × List UInt8) := z.map fun x => (x, spK s co (UInt8.ofNat x.toNat) s.length)
theorem wnK_take (s : List UInt8) (co : List (List UInt8)) (z : List Int) (k : Nat) (h : k < z.length) : wnK s co (z.take (k + 1)) = wnK s co (z.take k) ++ [(gI z k, spK s co (UInt8.ofNat (gI z k).toNat) s.length)] := by
  rw [List.take_succ_eq_append_getElem h, gI_eq h, wnK, List.map_append]; rfl
theorem ltB_rows {m : List (List UInt8)} {n : Nat} (h : ltB m n = true) : m.length < 16 ∧ ∀ j, j < m.length → (gR m j).length = n := by
  unfold ltB at h
  rw [Bool.and_eq_true, List.all_eq_true] at h
  refine ⟨by simpa using h.2, fun j hj => ?_⟩
  have h1 := h.1 j (List.mem_range.2 hj)
  have h2 : ((gR m j).length : Int) = (n : Int) := by simpa using h1
  omega
theorem wn_spl {s : List UInt8} {co : List (List UInt8)} (hr : ∀ j, j < co.length → (gR co j).length = s.length) (z : List Int) : splS s co z = wnK s co z := by
  unfold splS wnK
  exact List.map_congr_left fun x _ => by rw [spl_share hr]
theorem spl_no {s : List UInt8} {co : List (List UInt8)} {z : List Int} (h : (ltB co s.length && xsB z) = false) : splE s co z = 1 ∧ splL s co z = [] := by
  have h1 : splE s co z = 1 := by unfold splE; rw [h]; rfl
  exact ⟨h1, by unfold splL; rw [h1]; rfl⟩
theorem spl_big {s : List UInt8} {co : List (List UInt8)} {z : List Int} (h : (ltB co s.length && xsB z) = true) (hb : 1024 < s.length) : splE s co z = 2 ∧ splL s co z = [] := by
  have h1 : splE s co z = 2 := by unfold splE; rw [h, if_pos rfl, if_pos hb]
  exact ⟨h1, by unfold splL; rw [h1]; rfl⟩
theorem spl_ok {s : List UInt8} {co : List (List UInt8)} {z : List Int} (h : (ltB co s.length && xsB z) = true) (hb : ¬ 1024 < s.length) : splE s co z = 0 ∧ splL s co z = splS s co z := by
  have h1 : splE s co z = 0 := by unfold splE; rw [h, if_pos rfl, if_neg hb]
  exact ⟨h1, by unfold splL; rw [h1]; rfl⟩

set_option maxRecDepth 100000 in
set_option maxHeartbeats 4000000 in
theorem spl_walk (As : Option Addr) (n cs : Nat) (s : List UInt8) (Ac : Option Addr) (nc cc : Nat) (co : List (List UInt8)) (Az : Option Addr) (nz cz : Nat) (z : List Int) (w : World) (hs : BS w As n cs s) (hc : MS w Ac nc cc co) (hz : IS w Az nz cz z) :
    Calls Try.prog 3 #[.slice As n cs, .slice Ac nc cc, .slice Az nz cz] w fun e w' => e = .returned (.bool true) ∧ Below w.heap.size w w' := by
  have HLS := Lib.hid hs.1
  have HLC := Lib.hid hc.1
  have HLZ := Lib.hid hz.1
  have hn := hs.len_le
  have hnc := hc.len_le
  have hnz := hz.len_le
  have HS := Lib.hid hs
  have HC := Lib.hid hc
  have HZ := Lib.hid hz
  clear hs hc hz
  by_cases hA : 20 < n ∧ n ≤ 1024
  · have q1 : decide (20 < (n : Int)) = true := by simp; omega
    have q2 : decide ((n : Int) ≤ 1024) = true := by simp; omega
    clear hA
    go_enter Try.func3, Try.ntmps3
    go_wp2_with fail
    refine (awake_any _).mono ?_
    rintro e w1 ⟨rfl, hb1⟩
    have HB1 := Lib.hid hb1
    clear hb1
    go_wp2_with fail
    go_ret
    exact ⟨rfl, HB1.out⟩
  by_cases hN : 20 < n
  · have HN : Hid (1024 < n) := Lib.hid (by omega)
    have q1 : decide (20 < (n : Int)) = true := by simp; omega
    have q2 : decide ((n : Int) ≤ 1024) = false := by simp; omega
    have q9 : decide (1024 < (n : Int)) = true := by have := HN.out; simp; omega
    clear hA hN
    by_cases hC : 20 < nc
    · have q3 : decide (20 < (nc : Int)) = true := by simp; omega
      clear hC
      go_enter Try.func3, Try.ntmps3
      go_wp2_with fail
      refine (awake_any _).mono ?_
      rintro e w1 ⟨rfl, hb1⟩
      have HB1 := Lib.hid hb1
      clear hb1
      go_wp2_with fail
      go_ret
      exact ⟨rfl, HB1.out⟩
    have q3 : decide (20 < (nc : Int)) = false := by simp; omega
    clear hC
    by_cases hZ : 70 < nz
    · have q4 : decide (70 < (nz : Int)) = true := by simp; omega
      clear hZ
      go_enter Try.func3, Try.ntmps3
      go_wp2_with fail
      refine (awake_any _).mono ?_
      rintro e w1 ⟨rfl, hb1⟩
      have HB1 := Lib.hid hb1
      clear hb1
      go_wp2_with fail
      go_ret
      exact ⟨rfl, HB1.out⟩
    have q4 : decide (70 < (nz : Int)) = false := by simp; omega
    clear hZ
    cases hlt : ltB co (n : Int) with
    | false =>
      have HLT := Lib.hid hlt
      have HF : Hid (splE s co z = 1 ∧ splL s co z = []) := Lib.hid (spl_no (by rw [HLS.out, hlt]; rfl))
      clear hlt
      go_enter Try.func3, Try.ntmps3
      go_wp2_with fail
      refine (awake_any _).mono ?_
      rintro e w1 ⟨rfl, hb1⟩
      have HB1 := Lib.hid hb1
      clear hb1
      go_wp2_with fail
      refine (split_any As Ac Az n cs nc cc nz cz s co z w1 (HS.out.kept HB1.out) (HC.out.kept HB1.out) (HZ.out.kept HB1.out)).mono ?_
      rintro e w2 ⟨v2, rfl, ho2, hx2⟩
      rw [HF.out.1]
      rw [HF.out.2] at ho2
      have hbb := below_then HB1.out hx2
      have HB2 := Lib.hid hbb
      have HC2 := Lib.hid (HC.out.kept hbb)
      have HZ2 := Lib.hid (HZ.out.kept hbb)
      have HS2 := Lib.hid (HS.out.kept hbb)
      clear hx2 hbb
      obtain ⟨A2, c2, rfl, hs2⟩ := ho2.ss (by show 0 * 32 ≤ lim; decide)
      clear ho2 hs2
      rw [show ([] : List (Int × List UInt8)).length = 0 from rfl]
      go_wp2_with fail
      refine (rlists_any Ac nc cc co (n : Int) w2 HC2.out).mono ?_
      rintro e w' ⟨rfl, rfl⟩
      rw [HLT.out]
      go_wp2_with fail
      go_ret
      exact ⟨rfl, HB2.out⟩
    | true =>
      have HLT := Lib.hid hlt
      by_cases h64 : 64 < nz
      · have q5 : decide (64 < (nz : Int)) = true := by simp; omega
        have HF : Hid (splE s co z = 1 ∧ splL s co z = []) := Lib.hid (spl_no (by rw [xsB_long (by rw [HLZ.out]; exact h64), Bool.and_false]))
        clear hlt h64
        go_enter Try.func3, Try.ntmps3
        go_wp2_with fail
        refine (awake_any _).mono ?_
        rintro e w1 ⟨rfl, hb1⟩
        have HB1 := Lib.hid hb1
        clear hb1
        go_wp2_with fail
        refine (split_any As Ac Az n cs nc cc nz cz s co z w1 (HS.out.kept HB1.out) (HC.out.kept HB1.out) (HZ.out.kept HB1.out)).mono ?_
        rintro e w2 ⟨v2, rfl, ho2, hx2⟩
        rw [HF.out.1]
        rw [HF.out.2] at ho2
        have hbb := below_then HB1.out hx2
        have HB2 := Lib.hid hbb
        have HC2 := Lib.hid (HC.out.kept hbb)
        have HZ2 := Lib.hid (HZ.out.kept hbb)
        have HS2 := Lib.hid (HS.out.kept hbb)
        clear hx2 hbb
        obtain ⟨A2, c2, rfl, hs2⟩ := ho2.ss (by show 0 * 32 ≤ lim; decide)
        clear ho2 hs2
        rw [show ([] : List (Int × List UInt8)).length = 0 from rfl]
        go_wp2_with fail
        refine (rlists_any Ac nc cc co (n : Int) w2 HC2.out).mono ?_
        rintro e w' ⟨rfl, rfl⟩
        rw [HLT.out]
        go_wp2_with fail
        go_ret
        exact ⟨rfl, HB2.out⟩
      have q5 : decide (64 < (nz : Int)) = false := by simp; omega
      have HNZ : Hid (nz ≤ 64) := Lib.hid (by omega)
      clear h64
      cases hds : dsB z with
      | false =>
        have HDS := Lib.hid hds
        have HF : Hid (splE s co z = 1 ∧ splL s co z = []) := Lib.hid (spl_no (by rw [xsB_eq, hds, Bool.and_false, Bool.and_false]))
        clear hlt hds
        go_enter Try.func3, Try.ntmps3
        go_wp2_with fail
        refine (awake_any _).mono ?_
        rintro e w1 ⟨rfl, hb1⟩
        have HB1 := Lib.hid hb1
        clear hb1
        go_wp2_with fail
        refine (split_any As Ac Az n cs nc cc nz cz s co z w1 (HS.out.kept HB1.out) (HC.out.kept HB1.out) (HZ.out.kept HB1.out)).mono ?_
        rintro e w2 ⟨v2, rfl, ho2, hx2⟩
        rw [HF.out.1]
        rw [HF.out.2] at ho2
        have hbb := below_then HB1.out hx2
        have HB2 := Lib.hid hbb
        have HC2 := Lib.hid (HC.out.kept hbb)
        have HZ2 := Lib.hid (HZ.out.kept hbb)
        have HS2 := Lib.hid (HS.out.kept hbb)
        clear hx2 hbb
        obtain ⟨A2, c2, rfl, hs2⟩ := ho2.ss (by show 0 * 32 ≤ lim; decide)
        clear ho2 hs2
        rw [show ([] : List (Int × List UInt8)).length = 0 from rfl]
        go_wp2_with fail
        refine (rlists_any Ac nc cc co (n : Int) w2 HC2.out).mono ?_
        rintro e w' ⟨rfl, rfl⟩
        rw [HLT.out]
        go_wp2_with fail
        refine (rdist_any Az nz cz z w2 HZ2.out).mono ?_
        rintro e w' ⟨rfl, rfl⟩
        rw [HDS.out]
        go_wp2_with fail
        go_ret
        exact ⟨rfl, HB2.out⟩
      | true =>
        have HDS := Lib.hid hds
        have HXS : Hid (xsB z = true) := Lib.hid (by rw [xsB_eq, hds, HLZ.out, Bool.and_true]; exact decide_eq_true HNZ.out)
        have HTT : Hid ((ltB co s.length && xsB z) = true) := Lib.hid (by rw [HLS.out, hlt, HXS.out]; rfl)
        clear hlt hds
        have HF : Hid (splE s co z = 2 ∧ splL s co z = []) := Lib.hid (spl_big HTT.out (by rw [HLS.out]; exact HN.out))
        go_enter Try.func3, Try.ntmps3
        go_wp2_with fail
        refine (awake_any _).mono ?_
        rintro e w1 ⟨rfl, hb1⟩
        have HB1 := Lib.hid hb1
        clear hb1
        go_wp2_with fail
        refine (split_any As Ac Az n cs nc cc nz cz s co z w1 (HS.out.kept HB1.out) (HC.out.kept HB1.out) (HZ.out.kept HB1.out)).mono ?_
        rintro e w2 ⟨v2, rfl, ho2, hx2⟩
        rw [HF.out.1]
        rw [HF.out.2] at ho2
        have hbb := below_then HB1.out hx2
        have HB2 := Lib.hid hbb
        have HC2 := Lib.hid (HC.out.kept hbb)
        have HZ2 := Lib.hid (HZ.out.kept hbb)
        have HS2 := Lib.hid (HS.out.kept hbb)
        clear hx2 hbb
        obtain ⟨A2, c2, rfl, hs2⟩ := ho2.ss (by show 0 * 32 ≤ lim; decide)
        clear ho2 hs2
        rw [show ([] : List (Int × List UInt8)).length = 0 from rfl]
        go_wp2_with fail
        refine (rlists_any Ac nc cc co (n : Int) w2 HC2.out).mono ?_
        rintro e w' ⟨rfl, rfl⟩
        rw [HLT.out]
        go_wp2_with fail
        refine (rdist_any Az nz cz z w2 HZ2.out).mono ?_
        rintro e w' ⟨rfl, rfl⟩
        rw [HDS.out]
        go_wp2_with fail
        go_ret
        exact ⟨rfl, HB2.out⟩
  · have HN : Hid (¬ 1024 < n) := Lib.hid (by omega)
    have q1 : decide (20 < (n : Int)) = false := by simp; omega
    have q9 : decide (1024 < (n : Int)) = false := by have := HN.out; simp; omega
    clear hA hN
    by_cases hC : 20 < nc
    · have q3 : decide (20 < (nc : Int)) = true := by simp; omega
      clear hC
      go_enter Try.func3, Try.ntmps3
      go_wp2_with fail
      refine (awake_any _).mono ?_
      rintro e w1 ⟨rfl, hb1⟩
      have HB1 := Lib.hid hb1
      clear hb1
      go_wp2_with fail
      go_ret
      exact ⟨rfl, HB1.out⟩
    have q3 : decide (20 < (nc : Int)) = false := by simp; omega
    clear hC
    by_cases hZ : 70 < nz
    · have q4 : decide (70 < (nz : Int)) = true := by simp; omega
      clear hZ
      go_enter Try.func3, Try.ntmps3
      go_wp2_with fail
      refine (awake_any _).mono ?_
      rintro e w1 ⟨rfl, hb1⟩
      have HB1 := Lib.hid hb1
      clear hb1
      go_wp2_with fail
      go_ret
      exact ⟨rfl, HB1.out⟩
    have q4 : decide (70 < (nz : Int)) = false := by simp; omega
    clear hZ
    cases hlt : ltB co (n : Int) with
    | false =>
      have HLT := Lib.hid hlt
      have HF : Hid (splE s co z = 1 ∧ splL s co z = []) := Lib.hid (spl_no (by rw [HLS.out, hlt]; rfl))
      clear hlt
      go_enter Try.func3, Try.ntmps3
      go_wp2_with fail
      refine (awake_any _).mono ?_
      rintro e w1 ⟨rfl, hb1⟩
      have HB1 := Lib.hid hb1
      clear hb1
      go_wp2_with fail
      refine (split_any As Ac Az n cs nc cc nz cz s co z w1 (HS.out.kept HB1.out) (HC.out.kept HB1.out) (HZ.out.kept HB1.out)).mono ?_
      rintro e w2 ⟨v2, rfl, ho2, hx2⟩
      rw [HF.out.1]
      rw [HF.out.2] at ho2
      have hbb := below_then HB1.out hx2
      have HB2 := Lib.hid hbb
      have HC2 := Lib.hid (HC.out.kept hbb)
      have HZ2 := Lib.hid (HZ.out.kept hbb)
      have HS2 := Lib.hid (HS.out.kept hbb)
      clear hx2 hbb
      obtain ⟨A2, c2, rfl, hs2⟩ := ho2.ss (by show 0 * 32 ≤ lim; decide)
      clear ho2 hs2
      rw [show ([] : List (Int × List UInt8)).length = 0 from rfl]
      go_wp2_with fail
      refine (rlists_any Ac nc cc co (n : Int) w2 HC2.out).mono ?_
      rintro e w' ⟨rfl, rfl⟩
      rw [HLT.out]
      go_wp2_with fail
      go_ret
      exact ⟨rfl, HB2.out⟩
    | true =>
      have HLT := Lib.hid hlt
      by_cases h64 : 64 < nz
      · have q5 : decide (64 < (nz : Int)) = true := by simp; omega
        have HF : Hid (splE s co z = 1 ∧ splL s co z = []) := Lib.hid (spl_no (by rw [xsB_long (by rw [HLZ.out]; exact h64), Bool.and_false]))
        clear hlt h64
        go_enter Try.func3, Try.ntmps3
        go_wp2_with fail
        refine (awake_any _).mono ?_
        rintro e w1 ⟨rfl, hb1⟩
        have HB1 := Lib.hid hb1
        clear hb1
        go_wp2_with fail
        refine (split_any As Ac Az n cs nc cc nz cz s co z w1 (HS.out.kept HB1.out) (HC.out.kept HB1.out) (HZ.out.kept HB1.out)).mono ?_
        rintro e w2 ⟨v2, rfl, ho2, hx2⟩
        rw [HF.out.1]
        rw [HF.out.2] at ho2
        have hbb := below_then HB1.out hx2
        have HB2 := Lib.hid hbb
        have HC2 := Lib.hid (HC.out.kept hbb)
        have HZ2 := Lib.hid (HZ.out.kept hbb)
        have HS2 := Lib.hid (HS.out.kept hbb)
        clear hx2 hbb
        obtain ⟨A2, c2, rfl, hs2⟩ := ho2.ss (by show 0 * 32 ≤ lim; decide)
        clear ho2 hs2
        rw [show ([] : List (Int × List UInt8)).length = 0 from rfl]
        go_wp2_with fail
        refine (rlists_any Ac nc cc co (n : Int) w2 HC2.out).mono ?_
        rintro e w' ⟨rfl, rfl⟩
        rw [HLT.out]
        go_wp2_with fail
        go_ret
        exact ⟨rfl, HB2.out⟩
      have q5 : decide (64 < (nz : Int)) = false := by simp; omega
      have HNZ : Hid (nz ≤ 64) := Lib.hid (by omega)
      clear h64
      cases hds : dsB z with
      | false =>
        have HDS := Lib.hid hds
        have HF : Hid (splE s co z = 1 ∧ splL s co z = []) := Lib.hid (spl_no (by rw [xsB_eq, hds, Bool.and_false, Bool.and_false]))
        clear hlt hds
        go_enter Try.func3, Try.ntmps3
        go_wp2_with fail
        refine (awake_any _).mono ?_
        rintro e w1 ⟨rfl, hb1⟩
        have HB1 := Lib.hid hb1
        clear hb1
        go_wp2_with fail
        refine (split_any As Ac Az n cs nc cc nz cz s co z w1 (HS.out.kept HB1.out) (HC.out.kept HB1.out) (HZ.out.kept HB1.out)).mono ?_
        rintro e w2 ⟨v2, rfl, ho2, hx2⟩
        rw [HF.out.1]
        rw [HF.out.2] at ho2
        have hbb := below_then HB1.out hx2
        have HB2 := Lib.hid hbb
        have HC2 := Lib.hid (HC.out.kept hbb)
        have HZ2 := Lib.hid (HZ.out.kept hbb)
        have HS2 := Lib.hid (HS.out.kept hbb)
        clear hx2 hbb
        obtain ⟨A2, c2, rfl, hs2⟩ := ho2.ss (by show 0 * 32 ≤ lim; decide)
        clear ho2 hs2
        rw [show ([] : List (Int × List UInt8)).length = 0 from rfl]
        go_wp2_with fail
        refine (rlists_any Ac nc cc co (n : Int) w2 HC2.out).mono ?_
        rintro e w' ⟨rfl, rfl⟩
        rw [HLT.out]
        go_wp2_with fail
        refine (rdist_any Az nz cz z w2 HZ2.out).mono ?_
        rintro e w' ⟨rfl, rfl⟩
        rw [HDS.out]
        go_wp2_with fail
        go_ret
        exact ⟨rfl, HB2.out⟩
      | true =>
        have HDS := Lib.hid hds
        have HXS : Hid (xsB z = true) := Lib.hid (by rw [xsB_eq, hds, HLZ.out, Bool.and_true]; exact decide_eq_true HNZ.out)
        have HTT : Hid ((ltB co s.length && xsB z) = true) := Lib.hid (by rw [HLS.out, hlt, HXS.out]; rfl)
        clear hlt hds
        obtain ⟨hco, hrows⟩ := ltB_rows HLT.out
        have HCO : Hid (nc < 16) := Lib.hid (by rw [HLC.out] at hco; exact hco)
        have HRW : Hid (∀ j, j < nc → (gR co j).length = n) := Lib.hid (fun j hj => hrows j (by rw [HLC.out]; exact hj))
        have HF : Hid (splE s co z = 0 ∧ splL s co z = wnK s co z) := Lib.hid (by have h1 := spl_ok HTT.out (by rw [HLS.out]; exact HN.out); rw [wn_spl (fun j hj => by rw [hrows j hj, HLS.out])] at h1; exact h1)
        have HWL : Hid ((wnK s co z).length = nz) := Lib.hid (by rw [wnK, List.length_map, HLZ.out])
        have HXR : Hid (∀ i, i < nz → 1 ≤ gI z i ∧ gI z i ≤ 255) := Lib.hid (fun i hi => (xsB_spec HXS.out).2.1 i (by rw [HLZ.out]; exact hi))
        clear hco hrows
        go_enter Try.func3, Try.ntmps3
        go_wp2_with fail
        refine (awake_any _).mono ?_
        rintro e w1 ⟨rfl, hb1⟩
        have HB1 := Lib.hid hb1
        clear hb1
        go_wp2_with fail
        refine (split_any As Ac Az n cs nc cc nz cz s co z w1 (HS.out.kept HB1.out) (HC.out.kept HB1.out) (HZ.out.kept HB1.out)).mono ?_
        rintro e w2 ⟨v2, rfl, ho2, hx2⟩
        rw [HF.out.1]
        rw [HF.out.2] at ho2
        have hbb := below_then HB1.out hx2
        have HB2 := Lib.hid hbb
        have HC2 := Lib.hid (HC.out.kept hbb)
        have HZ2 := Lib.hid (HZ.out.kept hbb)
        have HS2 := Lib.hid (HS.out.kept hbb)
        clear hx2 hbb
        rw [HWL.out] at ho2
        obtain ⟨A2, c2, rfl, hs2⟩ := ho2.ss (by have := HNZ.out; unfold lim; omega)
        have HS5 := Lib.hid hs2
        clear ho2 hs2
        go_wp2_with fail
        refine (rlists_any Ac nc cc co (n : Int) w2 HC2.out).mono ?_
        rintro e w' ⟨rfl, rfl⟩
        rw [HLT.out]
        go_wp2_with fail
        refine (rdist_any Az nz cz z w2 HZ2.out).mono ?_
        rintro e w' ⟨rfl, rfl⟩
        rw [HDS.out]
        go_wp2_with fail
        go_loopw [9, 73] (fun v i wr => ∃ k : Nat, k ≤ nz ∧ i = .int .i64 (k : Int) ∧ Hid (OwnS wr w2.heap.size v k (wnK s co (z.take k))) ∧ Hid (Below w2.heap.size w2 wr)) (fun _ i _ => nz - (intOf i).toNat)
        case atStart => exact ⟨0, by omega, rfl, Lib.hid (OwnS.nil _ _), Lib.hid (Below.refl _ _)⟩
        case round =>
          obtain ⟨k, hk, rfl, ho, hb⟩ := hrel
          by_cases hlt : k < nz
          · obtain ⟨gz, oz, rfl, hcz⟩ := HZ2.out.at_ hb.out hlt
            obtain ⟨x, hx⟩ : ∃ x, x = gI z k := ⟨_, rfl⟩
            rw [← hx] at hcz
            have HX := Lib.hid hx
            have HX1 : Hid (0 ≤ x) := Lib.hid (by have := HXR.out k hlt; omega)
            have HX2 : Hid (x ≤ 255) := Lib.hid (by have := HXR.out k hlt; omega)
            clear hx
            go_wp2_with fail
            refine (rshare_any As Ac n cs nc cc s co x wr (HS2.out.kept hb.out) (HC2.out.kept hb.out) HRW.out (by have := HCO.out; omega) (by have := HN.out; omega) HX1.out HX2.out).mono ?_
            rintro e w6 ⟨A6, c6, rfl, h61, h63, h62⟩
            obtain ⟨D, hD⟩ : ∃ D, D = spK s co (UInt8.ofNat x.toNat) n := ⟨_, rfl⟩
            rw [spK_length] at h61 h62 ⊢
            rw [← hD] at h61
            have HDD := Lib.hid hD
            have hb7 : Below w6.heap.size w6 (w6.alloc (.cells #[.int .i64 x, .slice A6 n c6] 33)) := kb1 _ _
            have hb67 := below_then h63 hb7
            obtain ⟨hm7, q, hq, hown7, hps7⟩ := ho.out.kept hb67
            have HOB := Lib.hid (ho.out.base)
            have HW7 := Lib.hid hown7
            have HPS7 := Lib.hid hps7
            have H61 := Lib.hid (h61.kept hb7)
            have H62 := Lib.hid h62
            have HB7 := Lib.hid (below_then hb.out hb67)
            have HM7 := Lib.hid hm7
            have HQ7 := Lib.hid hq
            have HK32 : Hid ((k + 1) * 32 ≤ 140737488355328) := Lib.hid (by have := HNZ.out; omega)
            clear h61 h62 h63 hb7 hb67 hown7 hps7 hm7 hq ho hb hD
            go_wp2_with (first
              | (at_builtin; refine wpList_appS _ rfl (.tmp 77) (.tmp 82) rfl w2.heap.size u9 k (shC q) rfl HW7.out w6.heap.size 1 33 (.int .i64 x) (.slice A6 n c6) rfl (Blk.new w6 _ _) rfl rfl HK32.out HB7.out.size ?_; intro v8 w8 hp8))
            have hfar : 0 < n → AtB A6 (fun b => u9.ownBlock ≠ some b) := fun h0 a e e' => by
              have h1 := H62.out h0 a e
              have h2 := (HOB.out a.block e').2
              omega
            have HO8 : Hid (OwnS w8 w2.heap.size v8 (k + 1) (wnK s co (z.take (k + 1)))) := Lib.hid (by
              rw [wnK_take s co z k (by rw [HLZ.out]; exact hlt), HLS.out, ← HX.out, ← HDD.out]
              exact OwnS.push HM7.out HQ7.out HPS7.out H61.out hfar hp8)
            have HB8 : Hid (Below w2.heap.size w2 w8) := Lib.hid (HB7.out.grown hp8.2.1 HB7.out.size (fun b hb' => (HOB.out b hb').1))
            clear hp8 hfar
            go_roundw
            case rel => exact ⟨k + 1, by omega, by go_num, HO8, HB8⟩
            case measure => simp [intOf]; omega
          · obtain rfl : k = nz := by omega
            have ho9 := ho.out
            rw [List.take_of_length_le (by rw [HLZ.out]; exact Nat.le_refl _)] at ho9
            obtain ⟨A9, c9, e9, hs9⟩ := ho9.ss (by have := HNZ.out; unfold lim; omega)
            subst e9
            have HS9 := Lib.hid hs9
            have HS6 := Lib.hid (HS5.out.kept hb.out)
            have HB9 := Lib.hid (below_then HB2.out hb.out)
            clear ho9 hs9
            go_wp2_with fail
            refine (same_any A2 A9 k c2 k c9 (wnK s co z) (wnK s co z) wr HS6.out HS9.out).mono ?_
            rintro e w7 ⟨rfl, hb7⟩
            rw [show sameS (wnK s co z) (wnK s co z) = true from decide_eq_true rfl]
            have HB10 := Lib.hid (below_then HB9.out hb7)
            clear hb7
            go_wp2_with fail
            go_ret
            exact ⟨rfl, HB10.out⟩
end Go.Proofs.Ytakedococfklgaa
