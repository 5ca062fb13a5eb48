/- Contract of the reference kinkeepref10.Wrong: all subsets of the shares, tried in turn. -/
import Derived.Test.YtakedococfklgaaLo0m
import Derived.Test.YtakedococfklgaaGdm
import Derived.Test.YtakedococfklgaaCb1m
namespace Go.Proofs.Ytakedococfklgaa
open Go.RowKit Gf

/-! ### chosen shares -/
theorem pk_eql {l : List (Int × List UInt8)} {L : Nat} (P : Nat → Bool) (h : Eql l L) : Eql (pkK l P l.length) L := fun i hi => by
  obtain ⟨f, h1, _⟩ := pk_map l P l.length
  rw [(h1 i hi).2]; exact h _ (h1 i hi).1
theorem pk_sh {l : List (Int × List UInt8)} (P : Nat → Bool) (h : shB l = true) : shB (pkK l P l.length) = true := by
  obtain ⟨sp1, sp2, sp3, sp4, sp5⟩ := shB_spec h
  obtain ⟨f, h1, h2⟩ := pk_map l P l.length
  refine sh_of (L := lnK l) (by have := pkK_le l P l.length; omega) (pk_eql P (eql_ln h)) (by unfold lnK; split; omega; exact sp3 0 (by omega)) (fun i hi => by rw [(h1 i hi).2]; exact sp4 _ (h1 i hi).1) (fun i j hj hi => ?_)
  rw [(h1 i hi).2, (h1 j (by omega)).2]
  exact sp5 (f i) (f j) (h2 i j hj hi) (h1 i hi).1
/-- The shares of a set. -/
def pkS (l : List (Int × List UInt8)) (s : Nat) : List (Int × List UInt8) := pkK l (fun i => s.testBit i) l.length
/-- What Off says of the set's sharing. -/
def rwO (l : List (Int × List UInt8)) (s : Nat) : List Int := ofO (shgK (pkS l s) (lnK l)) l (lnK l) 255
/-- Whether the set is taken. -/
def rwH (l : List (Int × List UInt8)) (t s : Nat) : Bool := decide ((pkS l s).length = t) && decide ((rwO l s).length ≤ (l.length - t) / 2)
def RwRet (l : List (Int × List UInt8)) (t : Nat) (w : World) (e : Ending) (w' : World) : Prop :=
  Below w.heap.size w w' ∧ ((∃ s v, s < 2 ^ l.length ∧ rwH l t s = true ∧ e = .returned (.tuple #[v, .int .i64 0]) ∧ w'.ownsRow w.heap.size 3 1 v (rwO l s).length ((rwO l s).map (Value.int .i64))) ∨
    ((∀ s, s < 2 ^ l.length → rwH l t s = false) ∧ e = .returned (.tuple #[.slice none 0 0, .int .i64 9])))
theorem i64_and_nat (a b : Nat) (ha : a < 256) (hb : b < 256) : bits .and .i64 (a : Int) (b : Int) = ((a &&& b : Nat) : Int) := by
  have hx : a &&& b < 2 ^ 8 := Nat.and_lt_two_pow _ (by omega)
  show IntKind.i64.wrap ((BitVec.ofInt 64 (a : Int) &&& BitVec.ofInt 64 (b : Int)).toNat : Int) = _
  rw [BitVec.toNat_and, ofInt_i64 a (by omega), ofInt_i64 b (by omega), IntKind.wrap_i64]
  omega
theorem bit_i64 (s k : Nat) (hs : s < 256) : bits .and .i64 ((s : Int) / 2 ^ k) 1 = if s.testBit k then 1 else 0 := by
  have e : (s : Int) / 2 ^ k = ((s / 2 ^ k : Nat) : Int) := by push_cast; rfl
  have hlt : s / 2 ^ k < 256 := Nat.lt_of_le_of_lt (Nat.div_le_self _ _) hs
  have := i64_and_nat (s / 2 ^ k) 1 (by omega) (by omega)
  rw [e]
  rw [show ((1 : Nat) : Int) = 1 from rfl] at this
  rw [this, Nat.and_one_is_mod, Nat.testBit_eq_decide_div_mod_eq]
  by_cases h : s / 2 ^ k % 2 = 1
  · simp [h]
  · have : s / 2 ^ k % 2 = 0 := by omega
    simp [this]

set_option maxRecDepth 100000 in
set_option maxHeartbeats 4000000 in
theorem rwrong_any (A : Option Addr) (n c t : Nat) (l : List (Int × List UInt8)) (w : World) (h : SS w A n c l) (hsh : shB l = true) (hn8 : n ≤ 8) (htn : t ≤ n) :
    Calls Try.prog 22 #[.slice A n c, .int .i64 (t : Int)] w (RwRet l t w) := by
  have hlen := h.len_le
  have H := Lib.hid h
  have HLn := Lib.hid h.1
  have HSH := Lib.hid hsh
  obtain ⟨sp1, sp2, sp3, sp4, sp5⟩ := shB_spec hsh
  have HL1 : Hid (lnK l ≤ 100000) := Lib.hid (by unfold lnK; split; omega; have := sp3 0 (by omega); omega)
  have HXR : Hid (∀ k, k < n → 1 ≤ (gS l k).1 ∧ (gS l k).1 ≤ 255) := Lib.hid (fun k hk => sp4 k (by rw [h.1]; exact hk))
  clear h hsh sp1 sp2 sp3 sp4 sp5
  obtain ⟨x, hx⟩ : ∃ x : Nat, x = (n - t) / 2 := ⟨_, rfl⟩
  obtain ⟨N, hN⟩ : ∃ N : Nat, N = 2 ^ n := ⟨_, rfl⟩
  obtain ⟨L, hL⟩ : ∃ L, L = lnK l := ⟨_, rfl⟩
  have HLK := Lib.hid hL
  have HEX : Hid (((n : Int) - (t : Int)) / 2 = (x : Int)) := Lib.hid (by rw [hx]; omega)
  have HN8 : Hid (N ≤ 256) := Lib.hid (by rw [hN]; exact Nat.pow_le_pow_right (n := 2) (by omega) hn8)
  have HX := Lib.hid hx
  have HN := Lib.hid hN
  have hN' : (N : Int) ≤ 256 := by have := HN8.out; omega
  have HEN : Hid (wrap64 (2 ^ n) = (N : Int)) := Lib.hid (by
    have e2 : ((2 : Int) ^ n) = (N : Int) := by rw [hN]; norm_cast
    rw [e2]; unfold wrap64; omega)
  have hn8' : (n : Int) ≤ 8 := by omega
  have hx8 : x ≤ 8 := by omega
  clear hx hN hL
  go_enter Try.func22, Try.ntmps22
  go_wp2_with fail
  go_loopw [7] (fun i wr => ∃ s : Nat, s ≤ N ∧ i = .int .i64 (s : Int) ∧ Hid (Below w.heap.size w wr) ∧ Hid (∀ s', s' < s → rwH l t s' = false)) (fun i _ => N - (intOf i).toNat)
  case atStart => exact ⟨0, by omega, rfl, Lib.hid (Below.refl _ _), Lib.hid (fun s' hs' => absurd hs' (by omega))⟩
  case round =>
    obtain ⟨s, hsN, rfl, hB, hH⟩ := hrel
    by_cases hlt : s < N
    · have hs256 : (s : Int) < 256 := by omega
      have HS256 : Hid (s < 256) := Lib.hid (by omega)
      have q1 : decide ((s : Int) < wrap64 (2 ^ n)) = true := by rw [HEN.out]; simp; omega
      obtain ⟨wo, rfl⟩ : ∃ wo : World, wo = wr := ⟨_, rfl⟩
      have HIo := Lib.hid (H.out.kept hB.out)
      obtain ⟨P, hP⟩ : ∃ P : Nat → Bool, P = fun i => s.testBit i := ⟨_, rfl⟩
      have HPE := Lib.hid hP
      clear hP
      go_wp2_with fail
      clear q1
      go_loopw [8, 25] (fun v i wr => ∃ (k p : Nat) (A2 : Option Addr) (c2 : Nat), k ≤ n ∧ i = .int .i64 (k : Int) ∧ v = .slice A2 p c2 ∧ Hid (p = (pkK l P k).length) ∧ Hid (OwnP wo wr (.slice A2 p c2) p (pkK l P k)) ∧ Hid (Below wo.heap.size wo wr)) (fun _ i _ => n - (intOf i).toNat)
      case atStart => exact ⟨0, 0, none, 0, by omega, rfl, rfl, Lib.hid rfl, Lib.hid (OwnP.nil _ _), Lib.hid (Below.refl _ _)⟩
      case round =>
        obtain ⟨k, p, A2, c2, hk, rfl, rfl, hp, ho, hb⟩ := hrel
        by_cases hkn : k < n
        · have HBIT := Lib.hid (bit_i64 s k HS256.out)
          cases hbit : s.testBit k with
          | false =>
            have hbb : (bits .and .i64 ((s : Int) / 2 ^ k) 1 == 1) = false := by rw [HBIT.out, hbit]; rfl
            have HE1 : Hid (pkK l P (k + 1) = pkK l P k) := Lib.hid (by rw [pkK, HPE.out]; simp only [hbit]; rfl)
            rw [← HE1.out] at hp ho
            clear hbit HBIT
            go_wp2_with fail
            go_roundw
            case rel => exact ⟨k + 1, p, A2, c2, by omega, by go_num, rfl, hp, ho, hb⟩
            case measure => simp [intOf]; omega
          | true =>
            have hbb : (bits .and .i64 ((s : Int) / 2 ^ k) 1 == 1) = true := by rw [HBIT.out, hbit]; rfl
            have HE1 : Hid (pkK l P (k + 1) = pkK l P k ++ [gS l k]) := Lib.hid (by rw [pkK, HPE.out]; simp only [hbit]; rfl)
            clear hbit HBIT
            obtain ⟨g1, o1, A1, n1, c1, rfl, z1, z2, z3⟩ := HIo.out.at_ (Below.refl _ _) hkn
            obtain ⟨y, hy⟩ : ∃ y, y = (gS l k).1 := ⟨_, rfl⟩
            rw [← hy] at z1
            have HY := Lib.hid hy
            have HZ3 := Lib.hid z3
            have z1' := cell_kept hb.out z1
            have z2' := cell_kept hb.out z2
            have hb7 : Below wr.heap.size wr (wr.alloc (.cells #[.int .i64 y, .slice A1 n1 c1] 33)) := kb1 _ _
            have HK7 := Lib.hid (Blk.new wr 33 #[.int .i64 y, .slice A1 n1 c1])
            have HB7 := Lib.hid (below_then hb.out hb7)
            obtain ⟨hm7, q, hq, hown7, hps7⟩ := ho.out.kp (S := fun _ => False) (Kp.of_below hb7) (fun _ _ => id)
            have HBA := Lib.hid ho.out.base
            have HW7 := Lib.hid hown7
            have HPS7 := Lib.hid hps7
            have HM7 := Lib.hid hm7
            have HQ7 := Lib.hid hq
            have HK32 : Hid ((p + 1) * 32 ≤ 140737488355328) := Lib.hid (by have h1 := pkK_le l P k; have h2 := hp.out; omega)
            have HPP := hp
            clear hy z1 z2 z3 hb7 hm7 hq hown7 hps7 ho hb hp
            go_wp2_with (first
              | (at_builtin; refine wpList_appS _ rfl (.tmp 33) (.tmp 38) rfl wo.heap.size (.slice A2 p c2) _ (shC q) rfl HW7.out wr.heap.size 1 33 (.int .i64 y) (.slice A1 n1 c1) rfl HK7.out rfl rfl HK32.out HB7.out.size ?_; intro v8 w8 hp8))
            have p8 := OwnP.push HM7.out HQ7.out HPS7.out HZ3.out hp8
            have HB8 : Hid (Below wo.heap.size wo w8) := Lib.hid (HB7.out.grown hp8.2.1 HB7.out.size (fun b hb' => (HBA.out b hb').1))
            obtain ⟨g8, c8, hv8⟩ : ∃ g c, v8 = .slice (some ⟨g, 0, none⟩) (p + 1) c := by
              rcases hp8.1.2 with ⟨_, h9⟩ | ⟨g, cap, cur, rfl, _⟩
              · omega
              · exact ⟨g, cap, rfl⟩
            subst hv8
            have HO8 : Hid (OwnP wo w8 (.slice (some ⟨g8, 0, none⟩) (p + 1) c8) (p + 1) (pkK l P (k + 1))) := Lib.hid (by rw [HE1.out]; rw [HY.out] at p8; exact p8)
            have HP8 : Hid (p + 1 = (pkK l P (k + 1)).length) := Lib.hid (by rw [HE1.out, List.length_append, ← HPP.out]; rfl)
            clear hp8 p8
            go_wp2_with fail
            go_roundw
            case rel => exact ⟨k + 1, p + 1, _, c8, by omega, by go_num, rfl, HP8, HO8, HB8⟩
            case measure => simp [intOf]; omega
        · obtain rfl : k = n := by omega
          have HPK : Hid (pkK l P k = pkS l s) := Lib.hid (by rw [pkS, HLn.out, HPE.out])
          have hpl := hp.out
          have ho9 := ho.out.own hb.out
          rw [HPK.out] at hpl ho9
          have hpn : p ≤ k := by have := pkK_le l P k; have := hp.out; omega
          obtain ⟨A9, c9, e9, hss⟩ := ho9.ss (by unfold lim; omega)
          injection e9 with e91 e92 e93
          subst e91 e93
          have HSS := Lib.hid hss
          have HBW := Lib.hid (below_then hB.out hb.out)
          have HPL := Lib.hid hpl
          clear hpl ho9 hss e92 hp ho hb
          by_cases hpt : p = t
          · have q2 : ((p : Int) != (t : Int)) = false := by simp [hpt]
            have HPT := Lib.hid hpt
            have HS1 : Hid (shB (pkS l s) = true) := Lib.hid (pk_sh _ HSH.out)
            obtain ⟨sp1, sp2, sp3, sp4, sp5⟩ := shB_spec HS1.out
            have HEQ : Hid (Eql (pkS l s) L) := Lib.hid (by rw [HLK.out]; exact pk_eql _ (eql_ln HSH.out))
            have HXS : Hid (∀ i, i < p → 1 ≤ (gS (pkS l s) i).1 ∧ (gS (pkS l s) i).1 ≤ 255) := Lib.hid (fun i hi => sp4 i (by rw [← HPL.out]; exact hi))
            have HDS : Hid (Py.Dst (coX (pkS l s))) := Lib.hid (coX_ds HS1.out)
            clear sp1 sp2 sp3 sp4 sp5 hpt
            go_wp2_with fail
            refine (rlen_any A k c l wr (H.out.kept HBW.out)).mono ?_
            rintro e w' ⟨rfl, rfl⟩
            rw [← HLK.out]
            go_wp2_with fail
            refine (rthrough_any A2 p c2 L (pkS l s) wr HSS.out (by omega) HEQ.out (by rw [HLK.out]; exact HL1.out) HXS.out HDS.out).mono ?_
            rintro e w5 ⟨v5, rfl, ho5, hb5⟩
            rw [shgK_length] at ho5
            obtain ⟨A5, c5, rfl, hm5⟩ := ho5.ms (by have := HL1.out; rw [HLK.out]; unfold lim; omega)
            have HM5 := Lib.hid hm5
            have HB5 := Lib.hid (below_then HBW.out hb5)
            have HRR : Hid (∀ j, j < L → (gR (shgK (pkS l s) L) j).length ≤ 255) := Lib.hid (fun j hj => by
              have hg : gR (shgK (pkS l s) L) j = Py.itP (coX (pkS l s)) (coY (pkS l s) j) := by rw [gR_eq (by rw [shgK_length]; exact hj)]; simp [shgK]
              rw [hg]
              have := Py.itP_length (coX (pkS l s)) (coY (pkS l s) j)
              rw [coX_len, ← HPL.out] at this
              omega)
            clear ho5 hm5 hb5
            go_wp2_with fail
            refine (roff_any A5 L c5 (shgK (pkS l s) L) A k c l w5 HM5.out (H.out.kept HB5.out) HRR.out (by rw [HLK.out]; exact HL1.out) (by omega)).mono ?_
            rintro e w6 ⟨v6, rfl, ho6, hb6⟩
            have HOE : Hid (ofO (shgK (pkS l s) L) l L 255 = rwO l s) := Lib.hid (by rw [HLK.out]; rfl)
            rw [HOE.out] at ho6
            obtain ⟨r, hr⟩ : ∃ r, r = (rwO l s).length := ⟨_, rfl⟩
            rw [← hr] at ho6
            obtain ⟨A6, c6, rfl⟩ : ∃ A c, v6 = .slice A r c := by
              rcases ho6.2 with ⟨rfl, rfl⟩ | ⟨g, cap, cur, rfl, _⟩
              · exact ⟨none, 0, rfl⟩
              · exact ⟨_, cap, rfl⟩
            have HO6 := Lib.hid (ownsRow_mono ho6 HB5.out.size)
            have HB6 := Lib.hid (below_then HB5.out hb6)
            have HRL := Lib.hid hr
            clear ho6 hb6 hr
            by_cases hrx : r ≤ x
            · have q3 : decide ((r : Int) ≤ ((k : Int) - (t : Int)) / 2) = true := by rw [HEX.out]; simp; exact hrx
              have HRET : Hid (RwRet l t w (.returned (.tuple #[.slice A6 r c6, .int .i64 0])) w6) := Lib.hid ⟨HB6.out, .inl ⟨s, _, by rw [HLn.out]; have := HN.out; omega, by
                unfold rwH
                rw [← HPL.out, HPT.out, ← HRL.out, decide_eq_true rfl, HLn.out, ← HX.out, decide_eq_true hrx]; rfl, rfl, by rw [← HRL.out]; exact HO6.out⟩⟩
              clear hrx
              go_wp2_with fail
              go_ret2
              exact HRET.out
            · have q3 : decide ((r : Int) ≤ ((k : Int) - (t : Int)) / 2) = false := by rw [HEX.out]; simp; omega
              have HF : Hid (∀ s', s' < s + 1 → rwH l t s' = false) := Lib.hid (fun s' hs' => by
                rcases Nat.lt_succ_iff_lt_or_eq.1 hs' with h9 | h9
                · exact hH.out s' h9
                · subst h9
                  unfold rwH
                  rw [← HRL.out, HLn.out, ← HX.out, decide_eq_false hrx, Bool.and_false])
              clear hrx
              go_wp2_with fail
              go_roundw
              case rel => exact ⟨s + 1, by omega, by go_num, HB6, HF⟩
              case measure => simp [intOf]; omega
          · have q2 : ((p : Int) != (t : Int)) = true := by simp; omega
            have HF : Hid (∀ s', s' < s + 1 → rwH l t s' = false) := Lib.hid (fun s' hs' => by
              rcases Nat.lt_succ_iff_lt_or_eq.1 hs' with h9 | h9
              · exact hH.out s' h9
              · subst h9
                unfold rwH
                rw [← HPL.out, decide_eq_false hpt]; rfl)
            clear hpt
            go_wp2_with fail
            go_roundw
            case rel => exact ⟨s + 1, by omega, by go_num, HBW, HF⟩
            case measure => simp [intOf]; omega
    · obtain rfl : s = N := by omega
      have q1 : decide ((s : Int) < wrap64 (2 ^ n)) = false := by rw [HEN.out]; simp
      have HR : Hid (RwRet l t w (.returned (.tuple #[.slice none 0 0, .int .i64 9])) wr) := Lib.hid ⟨hB.out, .inr ⟨fun s' hs' => hH.out s' (by rw [HLn.out] at hs'; have := HN.out; omega), rfl⟩⟩
      clear hB hH
      go_wp2_with fail
      go_ret2
      exact HR.out
end Go.Proofs.Ytakedococfklgaa
