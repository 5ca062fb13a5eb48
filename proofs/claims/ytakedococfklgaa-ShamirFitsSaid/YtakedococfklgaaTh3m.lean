/- Contract of the reference kinkeepref10.Agreed. -/
import Derived.Test.YtakedococfklgaaTh1m
import Derived.Test.YtakedococfklgaaTh2m
import Derived.Test.YtakedococfklgaaRe8m
namespace Go.Proofs.Ytakedococfklgaa
open Go.RowKit Gf

def agE (l : List (Int × List UInt8)) (t : Int) : Int := if shB l && vT t then (if (l.length : Int) < t then 10 else if blB (shgK l (lnK l)) t then 0 else 13) else 1
def agM (l : List (Int × List UInt8)) (t : Int) : List (List UInt8) := if agE l t = 0 then shgK l (lnK l) else []
def AgRet (l : List (Int × List UInt8)) (t : Int) (w : World) (e : Ending) (w' : World) : Prop :=
  ∃ A c, e = .returned (.tuple #[.slice A (agM l t).length c, .int .i64 (agE l t)]) ∧ MS w' A (agM l t).length c (agM l t) ∧ Below w.heap.size w w'
theorem agM_no {l : List (Int × List UInt8)} {t : Int} (h : agE l t ≠ 0) : agM l t = [] := by unfold agM; rw [if_neg h]

set_option maxRecDepth 100000 in
set_option maxHeartbeats 2000000 in
theorem ragreed_any (A : Option Addr) (n c : Nat) (t : Int) (l : List (Int × List UInt8)) (w : World) (h : SS w A n c l) :
    Calls Try.prog 29 #[.slice A n c, .int .i64 t] w (AgRet l t w) := by
  have hn := h.len_le
  have H := Lib.hid h
  have HL := Lib.hid h.1
  clear h
  have no : ∀ E : Int, agE l t = E → E ≠ 0 → ∀ w', Below w.heap.size w w' → AgRet l t w (.returned (.tuple #[.slice none 0 0, .int .i64 E])) w' := fun E h1 h2 w' hb => by
    have h3 := agM_no (l := l) (t := t) (by rw [h1]; exact h2)
    unfold AgRet
    rw [h3, h1]
    exact ⟨none, 0, rfl, MS.nil, hb⟩
  have NO := Lib.hid no
  clear no
  cases hs : shB l with
  | false =>
    have HE : Hid (agE l t = 1) := Lib.hid (by unfold agE; rw [hs]; rfl)
    have HSH := Lib.hid hs
    clear hs
    go_enter Try.func29, Try.ntmps29
    go_wp2_with fail
    refine (rshares_any A n c l w H.out).mono ?_
    rintro e w1 ⟨rfl, hb1⟩
    rw [HSH.out]
    have HB1 := Lib.hid hb1
    clear hb1
    go_wp2_with fail
    go_ret2
    exact NO.out _ HE.out (by decide) _ HB1.out
  | true =>
    have HSH := Lib.hid hs
    cases hv : vT t with
    | false =>
      have HE : Hid (agE l t = 1) := Lib.hid (by unfold agE; rw [hs, hv]; rfl)
      have HV := Lib.hid hv
      clear hs hv
      go_enter Try.func29, Try.ntmps29
      go_wp2_with fail
      refine (rshares_any A n c l w H.out).mono ?_
      rintro e w1 ⟨rfl, hb1⟩
      rw [HSH.out]
      have HB1 := Lib.hid hb1
      clear hb1
      go_wp2_with fail
      refine (rthr_any t w1).mono ?_
      rintro e w' ⟨rfl, rfl⟩
      rw [HV.out]
      go_wp2_with fail
      go_ret2
      exact NO.out _ HE.out (by decide) _ HB1.out
    | true =>
      have HV := Lib.hid hv
      obtain ⟨sp1, sp2, sp3, sp4, sp5⟩ := shB_spec hs
      by_cases hnt : (n : Int) < t
      · have q1 : decide ((n : Int) < t) = true := by simpa using hnt
        have HE : Hid (agE l t = 10) := Lib.hid (by unfold agE; rw [hs, hv, HL.out, Bool.and_self, if_pos rfl, if_pos hnt])
        clear hs hv sp1 sp2 sp3 sp4 sp5 hnt
        go_enter Try.func29, Try.ntmps29
        go_wp2_with fail
        refine (rshares_any A n c l w H.out).mono ?_
        rintro e w1 ⟨rfl, hb1⟩
        rw [HSH.out]
        have HB1 := Lib.hid hb1
        clear hb1
        go_wp2_with fail
        refine (rthr_any t w1).mono ?_
        rintro e w' ⟨rfl, rfl⟩
        rw [HV.out]
        go_wp2_with fail
        go_ret2
        exact NO.out _ HE.out (by decide) _ HB1.out
      · have q1 : decide ((n : Int) < t) = false := by simpa using hnt
        have HE : Hid (agE l t = if blB (shgK l (lnK l)) t then 0 else 13) := Lib.hid (by unfold agE; rw [hs, hv, HL.out, Bool.and_self, if_pos rfl, if_neg hnt])
        have hn0 : 0 < n := by have := (vT_iff.1 hv).1; omega
        obtain ⟨L, hL⟩ : ∃ L, L = lnK l := ⟨_, rfl⟩
        have hL0 : L = (gS l 0).2.length := by rw [hL, lnK, if_neg (by rw [HL.out]; omega)]
        have HLK := Lib.hid hL
        have HEQ : Hid (Eql l L) := Lib.hid (by rw [hL0]; exact sp2)
        have HL1 : Hid (L ≤ 100000) := Lib.hid (by have := sp3 0 (by rw [HL.out]; exact hn0); omega)
        have H64 : Hid (n ≤ 64) := Lib.hid (by rw [HL.out] at sp1; exact sp1)
        have HX : Hid (∀ k, k < n → 1 ≤ (gS l k).1 ∧ (gS l k).1 ≤ 255) := Lib.hid (fun k hk => sp4 k (by rw [HL.out]; exact hk))
        have HD : Hid (Py.Dst (coX l)) := Lib.hid (fun i j hij hj e => by
          rw [coX, tab_length] at hj
          rw [coX, gB_tab _ (by omega), gB_tab _ hj] at e
          have h1 := sp4 i (by omega)
          have h2 := sp4 j hj
          exact sp5 j i hij hj (by rw [gX_eq (l := l) (k := i) (by omega) (by omega), gX_eq (l := l) (k := j) (by omega) (by omega), e]))
        have HT3 : Hid (L * 24 ≤ lim) := Lib.hid (by have := HL1.out; unfold lim; omega)
        rw [← hL] at HE
        clear hs hv sp1 sp2 sp3 sp4 sp5 hnt hL hL0
        go_enter Try.func29, Try.ntmps29
        go_wp2_with fail
        refine (rshares_any A n c l w H.out).mono ?_
        rintro e w1 ⟨rfl, hb1⟩
        rw [HSH.out]
        have HB1 := Lib.hid hb1
        have H1 := Lib.hid (H.out.kept hb1)
        clear hb1
        go_wp2_with fail
        refine (rthr_any t w1).mono ?_
        rintro e w' ⟨rfl, rfl⟩
        rw [HV.out]
        go_wp2_with fail
        refine (rlen_any A n c l w1 H1.out).mono ?_
        rintro e w' ⟨rfl, rfl⟩
        rw [← HLK.out]
        go_wp2_with fail
        refine (rthrough_any A n c L l w1 H1.out H64.out HEQ.out HL1.out HX.out HD.out).mono ?_
        rintro e w2 ⟨v2, rfl, ho2, hx2⟩
        rw [shgK_length] at ho2
        obtain ⟨A2, c2, rfl, hm2⟩ := ho2.ms HT3.out
        have H2 := Lib.hid hm2
        have HB2 := Lib.hid (below_then HB1.out hx2)
        clear ho2 hm2 hx2
        go_wp2_with fail
        refine (rbelow_any A2 L c2 (shgK l L) t w2 H2.out).mono ?_
        rintro e w3 ⟨rfl, hx3⟩
        have HB3 := Lib.hid (below_then HB2.out hx3)
        have H3 := Lib.hid (H2.out.kept hx3)
        clear hx3
        cases hbl : blB (shgK l L) t with
        | false =>
          have HE' : Hid (agE l t = 13) := Lib.hid (by rw [HE.out, hbl]; rfl)
          clear hbl
          go_wp2_with fail
          go_ret2
          exact NO.out _ HE'.out (by decide) _ HB3.out
        | true =>
          have HE' : Hid (agE l t = 0) := Lib.hid (by rw [HE.out, hbl]; rfl)
          have HF : Hid (AgRet l t w (.returned (.tuple #[.slice A2 L c2, .int .i64 0])) w3) := Lib.hid (by
            have h3 : agM l t = shgK l L := by unfold agM; rw [if_pos HE'.out, HLK.out]
            unfold AgRet
            rw [h3, HE'.out, shgK_length]
            exact ⟨A2, c2, rfl, H3.out, HB3.out⟩)
          clear hbl
          go_wp2_with fail
          go_ret2
          exact HF.out
end Go.Proofs.Ytakedococfklgaa
