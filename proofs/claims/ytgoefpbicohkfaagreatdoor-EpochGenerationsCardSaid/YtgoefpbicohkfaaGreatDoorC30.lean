/- Several texts in one: Go, Ax, Aw. -/
import Derived.Test.YtgoefpbicohkfaaGreatDoorC13
import Derived.Test.YtgoefpbicohkfaaGreatDoorC27
import Derived.Test.YtgoefpbicohkfaaGreatDoorC29
/- Generations: epoch.Generation and the reference's. -/
namespace Go.Proofs.YtgoefpbicohkfaaGreatDoor
open Go Go.RowKit Gf Sha

/-- The first number from g on, of f, that does not fulfil p. -/
def genF (p : Nat → Bool) : Nat → Nat → Option Nat
  | 0, _ => none
  | f + 1, g => if p g then genF p f (g + 1) else some g
def genV : Option Nat → Int × Int
  | some g => ((g : Int), 0)
  | none => (0, 1)
def genA (K : Ky) (l : List UInt8) (R : Option Nat) : Int × Int := if nmE K 0 l = 0 then genV R else (0, nmE K 0 l)
def genP (K : Ky) (l : List UInt8) (names : List (List UInt8)) (g : Nat) : Bool := hasB names (tagL K.nm (uv g ++ l))
/-- z is the int g; behind the greatest int it has run over. -/
def GS (z : Int) (g f : Nat) : Prop := (g : Int) + (f : Int) = 9223372036854775808 ∧ (f = 0 → z = -9223372036854775808) ∧ (f ≠ 0 → z = (g : Int))
def gM (z : Int) : Nat := if z < 0 then 0 else (9223372036854775808 - z).toNat
theorem GS.next {z : Int} {g f : Nat} (h : GS z g (f + 1)) : ∃ z', IntKind.i64.wrap (z + 1) = z' ∧ GS z' (g + 1) f ∧ gM z' < gM z := by
  obtain ⟨h1, _, h3⟩ := h
  have h4 := h3 (by omega)
  subst h4
  have hz : gM (g : Int) = (9223372036854775808 - (g : Int)).toNat := if_neg (by omega)
  cases f with
  | zero =>
    refine ⟨-9223372036854775808, ?_, ⟨by omega, fun _ => rfl, fun h => absurd rfl h⟩, ?_⟩
    · rw [show (g : Int) + 1 = 9223372036854775808 by omega]; rfl
    · rw [hz, show gM (-9223372036854775808) = 0 from if_pos (by decide)]; omega
  | succ f =>
    refine ⟨(g : Int) + 1, IntWalk.i64_in _ (by omega), ⟨by omega, fun h => absurd h (by omega), fun _ => by omega⟩, ?_⟩
    rw [hz, show gM ((g : Int) + 1) = (9223372036854775808 - ((g : Int) + 1)).toNat from if_neg (by omega)]; omega
theorem GS.lt {z : Int} {g f : Nat} (h : GS z g f) : z < 9223372036854775808 := by
  obtain ⟨h1, h2, h3⟩ := h
  by_cases hf : f = 0
  · rw [h2 hf]; decide
  · rw [h3 hf]; omega
theorem GS.start : GS 0 0 9223372036854775808 := ⟨by decide, fun h => absurd h (by decide), fun _ => rfl⟩
theorem nmE_nat (K : Ky) (g : Nat) (l : List UInt8) : nmE K (g : Int) l = nmE K 0 l := by
  unfold nmE
  by_cases h : okK K = false
  · rw [if_pos (.inl h), if_pos (.inl h)]
  · have e1 : ¬ (okK K = false ∨ (g : Int) < 0) := fun h1 => h1.elim h (fun h2 => by omega)
    have e2 : ¬ (okK K = false ∨ (0 : Int) < 0) := fun h1 => h1.elim h (fun h2 => by omega)
    rw [if_neg e1, if_neg e2]
theorem nmE_neg (K : Ky) {z : Int} (h : z < 0) (l : List UInt8) : nmE K z l = 1 := if_pos (.inr h)
theorem nmS_nat {K : Ky} {g : Nat} {l : List UInt8} (h : nmE K 0 l = 0) : nmS K (g : Int) l = tagL K.nm (uv g ++ l) := by
  unfold nmS
  rw [nmE_nat, if_pos h]; rfl
theorem tagL_reach (k l : List UInt8) : (tagL k l).length ≤ reachBytes := by
  rw [show (tagL k l).length = 32 from sha_length _]; decide
section
set_option maxRecDepth 100000
set_option maxHeartbeats 1000000
theorem gen_any (Y : Ky) (A : Option Addr) (n c : Nat) (l : List UInt8) (B : Option Addr) (m d : Nat) (names : List (List UInt8)) (R : Option Nat) (w : World) (h : BS w A n c l) (hN : LS rStr 1 16 w B m d names) (hT : Tabs w) (hR : genF (genP Y l names) 9223372036854775808 0 = R) :
    Calls Tryz.prog 5 #[Y.val, .slice A n c, .slice B m d] w fun e w' => e = .returned (.tuple #[.int .i64 (genA Y l R).1, .int .i64 (genA Y l R).2]) ∧ Below w.heap.size w w' := by
  have hn := h.len_le
  have hm := hN.len_le
  have H := Lib.hid h
  have HNM := Lib.hid hN
  have HLN := Lib.hid hN.1
  have HT := Lib.hid hT
  have HR := Lib.hid hR
  clear h hN hT hR
  go_enter Tryz.func5, Tryz.ntmps5
  go_wp2_with (first
    | ((with_reducible show wpList _ _ _ (⟨some 3, _, _, _, _, _⟩ :: _) _ _); refine wpList_box _ rfl 23 (.tmp 0) rfl Y.cells rfl ?_; intro w1 a1 a2 a3; have HK1 := Lib.hid a1; have HB1 := Lib.hid a2; clear a1 a2 a3)
    | ((with_reducible show wpList _ _ _ (⟨some 15, _, _, _, _, _⟩ :: _) _ _); refine wpList_makeGs (enc := usC) _ rfl 46 9 4 (.tmp 14) rfl mapSB (m : Int) rfl (.bool false) ?_; intro w2 y1 y2 y3; have HM2 := Lib.hid y1; have HK2 := Lib.hid (HK1.out.kept y2); have HB2 := Lib.hid (below_then HB1.out y2); clear y1 y2 y3))
  go_loopw [18] (fun iv wr => ∃ k : Nat, k ≤ m ∧ iv = .int .i64 (k : Int) ∧ Hid (MG Tryz.prog 9 usC (.bool false) wr w1.heap.size (fun y => .bool (hasB (names.take k) y))) ∧ Hid (Kp (· = w1.heap.size) w2 wr)) (fun iv _ => m - (intOf iv).toNat)
  case atStart => exact ⟨0, by omega, rfl, HM2, Lib.hid (Kp.refl _ _)⟩
  case round =>
    obtain ⟨k, hk, rfl, hmm, hkp⟩ := hrel
    obtain ⟨w4, hw4⟩ : ∃ x, x = wr := ⟨_, rfl⟩
    rw [← hw4] at hmm hkp ⊢
    clear hw4
    have HB4 : Hid (Below w.heap.size w w4) := Lib.hid (low_kp HB2.out hkp.out (fun i hi e => by have := HB1.out.size; omega))
    by_cases hlt : k < m
    · obtain ⟨x, g, o, hs, ea, q0⟩ := HNM.out.str_at HB4.out hlt
      have HX := Lib.hid hs
      have HKS := Lib.hid (keyS x (reach_key (HNM.out.str_ok hs)))
      subst ea
      clear hs
      go_wp2_with (first
        | ((with_reducible show wpList _ _ _ (⟨none, _, _, _, _, _⟩ :: _) _ _); refine wpList_updG _ (fun x y h => usC_in h) rfl (.tmp 22) (.tmp 23) (.const (.bool true)) 46 9 4 rfl strKeyed mapSB (.bool false) w1.heap.size _ rfl hmm.out x (.bool true) rfl rfl HKS.out ?_; intro w5 y1 y2 y3; have HM5 := Lib.hid y1; have HK5 := Lib.hid y2; clear y1 y2 y3))
      go_roundw
      case rel =>
        refine ⟨k + 1, by omega, by go_num, Lib.hid (HM5.out.to (fun y => ?_)), Lib.hid (hkp.out.trans HK5.out)⟩
        rw [hasB_step HX.out]
        by_cases hy : y = x
        · subst hy; simp
        · rw [if_neg hy, beq_eq_false_iff_ne.2 (fun e => hy e.symm), Bool.or_false]
      case measure => simp [intOf]; omega
    · obtain rfl : k = m := by omega
      rw [take_end HLN.out] at hmm
      have HM4 := hmm
      have HK4 := Lib.hid (hkp.out.bl HK2.out (HM2.out.ne_bl HK2.out))
      go_wp2_with fail
      go_loopw [6] (fun iv wr => ∃ (g f : Nat) (z : Int), iv = .int .i64 z ∧ Hid (GS z g f) ∧ Hid (genF (genP Y l names) f g = R) ∧ Hid (g = 0 ∨ nmE Y 0 l = 0) ∧ Hid (Below w4.heap.size w4 wr)) (fun iv _ => gM (intOf iv))
      case atStart => exact ⟨0, _, 0, rfl, Lib.hid GS.start, HR, Lib.hid (.inl rfl), Lib.hid (Below.refl _ _)⟩
      case round =>
        obtain ⟨g, f, z, rfl, hs, hg, ho, hb⟩ := hrel
        obtain ⟨wx, hwx⟩ : ∃ x, x = wr := ⟨_, rfl⟩
        rw [← hwx] at hb ⊢
        clear hwx
        have HBx : Hid (Below w.heap.size w wx) := Lib.hid (below_thenB (HB4).out (HB4).out.size hb.out)
        have HKx := Lib.hid ((HK4).out.kept hb.out)
        have HLT := Lib.hid hs.out.lt
        cases f with
        | zero =>
          have hzn : z < 0 := by have := hs.out.2.1 rfl; omega
          have HE : Hid (nmE Y z l = 1) := Lib.hid (nmE_neg Y hzn l)
          have HV : Hid (genA Y l R = (0, if nmE Y 0 l = 0 then 1 else nmE Y 0 l)) := Lib.hid (by
            unfold genA
            rw [← hg.out]
            split <;> rfl)
          have HV1 : Hid (genA Y l R = (0, 1)) := Lib.hid (by
            rw [HV.out, if_pos (ho.out.elim (fun h => by have := hs.out.1; omega) id)])
          obtain ⟨s, hs2⟩ : ∃ s, s = nmS Y z l := ⟨_, rfl⟩
          have HS := Lib.hid hs2.symm
          clear hs2 hzn
          go_wp2_with (first
            | ((with_reducible show wpList _ _ _ (⟨some 26, _, _, _, _, _⟩ :: _) _ _); refine wpList_loadv _ rfl 23 (.tmp 3) rfl 5 (by kernel_rfl) w.heap.size 0 Y.cells rfl (BL.all HKx.out) rfl ?_)
            | (go_at_call 15; refine (name_any Y _ A n c l wx (H.out.kept HBx.out) (HT.out.kept HBx.out) HLT.out).mono ?_; rw [HE.out, HS.out]; rintro e w5 ⟨rfl, b5⟩; have HX5 := Lib.hid b5; clear b5)
            | fail)
          go_ret2
          exact ⟨(by rw [HV1.out]; rfl), below_thenB HBx.out HBx.out.size HX5.out⟩
        | succ f =>
          have hzg : z = (g : Int) := hs.out.2.2 (by omega)
          subst hzg
          by_cases h0 : nmE Y 0 l = 0
          · have HE : Hid (nmE Y (g : Int) l = 0) := Lib.hid (by rw [nmE_nat]; exact h0)
            obtain ⟨s, hs2⟩ : ∃ s, s = tagL Y.nm (uv g ++ l) := ⟨_, rfl⟩
            have HS : Hid (nmS Y (g : Int) l = s) := Lib.hid (by rw [nmS_nat h0, hs2])
            have HKS := Lib.hid (keyS s (reach_key (by rw [hs2]; exact tagL_reach _ _)))
            have HP : Hid (genP Y l names g = hasB names s) := Lib.hid (by rw [genP, hs2])
            have H0 := Lib.hid h0
            clear hs2 h0
            cases hh : hasB names s with
            | false =>
              have HV : Hid (genA Y l R = ((g : Int), 0)) := Lib.hid (by
                unfold genA
                rw [if_pos H0.out, ← hg.out, genF, if_neg (by rw [HP.out, hh]; decide)]; rfl)
              go_wp2_with (first
                | ((with_reducible show wpList _ _ _ (⟨some 26, _, _, _, _, _⟩ :: _) _ _); refine wpList_loadv _ rfl 23 (.tmp 3) rfl 5 (by kernel_rfl) w.heap.size 0 Y.cells rfl (BL.all HKx.out) rfl ?_)
                | (go_at_call 15; refine (name_any Y _ A n c l wx (H.out.kept HBx.out) (HT.out.kept HBx.out) HLT.out).mono ?_; rw [HE.out, HS.out]; rintro e w5 ⟨rfl, b5⟩; have HX5 := Lib.hid b5; clear b5)
                | ((with_reducible show wpList _ _ _ (⟨some 37, _, _, _, _, _⟩ :: _) _ _); refine wpList_lookGv _ rfl (.tmp 35) (.tmp 36) 46 9 4 rfl strKeyed mapSB (.bool false) boolZero w1.heap.size _ rfl ((HM4.out.kept hb.out).kept HX5.out) s rfl HKS.out (.bool false) (by rw [hh]) ?_)
                | fail)
              go_ret2
              exact ⟨(by rw [HV.out]; rfl), below_thenB HBx.out HBx.out.size (HX5).out⟩
            | true =>
              obtain ⟨z', hw, hs', hm⟩ := hs.out.next
              have HN := Lib.hid hs'
              have HM := Lib.hid hm
              have HG : Hid (genF (genP Y l names) f (g + 1) = R) := Lib.hid (by rw [← hg.out, genF, if_pos (by rw [HP.out, hh])])
              clear hs' hm
              go_wp2_with (first
                | ((with_reducible show wpList _ _ _ (⟨some 26, _, _, _, _, _⟩ :: _) _ _); refine wpList_loadv _ rfl 23 (.tmp 3) rfl 5 (by kernel_rfl) w.heap.size 0 Y.cells rfl (BL.all HKx.out) rfl ?_)
                | (go_at_call 15; refine (name_any Y _ A n c l wx (H.out.kept HBx.out) (HT.out.kept HBx.out) HLT.out).mono ?_; rw [HE.out, HS.out]; rintro e w5 ⟨rfl, b5⟩; have HX5 := Lib.hid b5; clear b5)
                | ((with_reducible show wpList _ _ _ (⟨some 37, _, _, _, _, _⟩ :: _) _ _); refine wpList_lookGv _ rfl (.tmp 35) (.tmp 36) 46 9 4 rfl strKeyed mapSB (.bool false) boolZero w1.heap.size _ rfl ((HM4.out.kept hb.out).kept HX5.out) s rfl HKS.out (.bool true) (by rw [hh]) ?_)
                | fail)
              go_roundw
              case rel => exact ⟨g + 1, f, z', (by first | rfl | rw [hw]), HN, HG, Lib.hid (.inr H0.out), Lib.hid (below_thenB hb.out hb.out.size (HX5).out)⟩
              case measure => (first | (rw [hw]; exact HM.out) | exact HM.out)
          · obtain ⟨e0, he0⟩ : ∃ x, x = nmE Y 0 l := ⟨_, rfl⟩
            have HE : Hid (nmE Y (g : Int) l = e0) := Lib.hid ((nmE_nat _ _ _).trans he0.symm)
            have HV : Hid (genA Y l R = (0, e0)) := Lib.hid (by rw [he0]; exact if_neg h0)
            obtain ⟨s, hs2⟩ : ∃ s, s = nmS Y (g : Int) l := ⟨_, rfl⟩
            have HS := Lib.hid hs2.symm
            have f1 : (e0 != 0) = true := by rw [bne_iff_ne, he0]; exact h0
            clear hs2 h0 he0
            go_wp2_with (first
              | ((with_reducible show wpList _ _ _ (⟨some 26, _, _, _, _, _⟩ :: _) _ _); refine wpList_loadv _ rfl 23 (.tmp 3) rfl 5 (by kernel_rfl) w.heap.size 0 Y.cells rfl (BL.all HKx.out) rfl ?_)
              | (go_at_call 15; refine (name_any Y _ A n c l wx (H.out.kept HBx.out) (HT.out.kept HBx.out) HLT.out).mono ?_; rw [HE.out, HS.out]; rintro e w5 ⟨rfl, b5⟩; have HX5 := Lib.hid b5; clear b5)
              | fail)
            go_ret2
            exact ⟨(by rw [HV.out]; rfl), below_thenB HBx.out HBx.out.size HX5.out⟩
theorem rgen_any (Y : Ky) (A : Option Addr) (n c : Nat) (l : List UInt8) (B : Option Addr) (m d : Nat) (names : List (List UInt8)) (R : Option Nat) (w : World) (h : BS w A n c l) (hN : LS rStr 1 16 w B m d names) (hR : genF (genP Y l names) 9223372036854775808 0 = R) :
    Calls Tryz.prog 6 #[Y.val, .slice A n c, .slice B m d] w fun e w' => e = .returned (.tuple #[.int .i64 (genA Y l R).1, .int .i64 (genA Y l R).2]) ∧ Below w.heap.size w w' := by
  have hn := h.len_le
  have hm := hN.len_le
  have H := Lib.hid h
  have HNM := Lib.hid hN
  have HR := Lib.hid hR
  clear h hN hR
  go_enter Tryz.func6, Tryz.ntmps6
  go_wp2_with (first
    | ((with_reducible show wpList _ _ _ (⟨some 3, _, _, _, _, _⟩ :: _) _ _); refine wpList_box _ rfl 23 (.tmp 0) rfl Y.cells rfl ?_; intro w4 a1 a2 a3; have HK4 := Lib.hid a1; have HB4 := Lib.hid a2; clear a1 a2 a3))
  go_loopw [8] (fun iv wr => ∃ (g f : Nat) (z : Int), iv = .int .i64 z ∧ Hid (GS z g f) ∧ Hid (genF (genP Y l names) f g = R) ∧ Hid (g = 0 ∨ nmE Y 0 l = 0) ∧ Hid (Below w4.heap.size w4 wr)) (fun iv _ => gM (intOf iv))
  case atStart => exact ⟨0, _, 0, rfl, Lib.hid GS.start, HR, Lib.hid (.inl rfl), Lib.hid (Below.refl _ _)⟩
  case round =>
    obtain ⟨g, f, z, rfl, hs, hg, ho, hb⟩ := hrel
    obtain ⟨wx, hwx⟩ : ∃ x, x = wr := ⟨_, rfl⟩
    rw [← hwx] at hb ⊢
    clear hwx
    have HBx : Hid (Below w.heap.size w wx) := Lib.hid (below_thenB (HB4).out (HB4).out.size hb.out)
    have HKx := Lib.hid ((HK4).out.kept hb.out)
    have HLT := Lib.hid hs.out.lt
    cases f with
    | zero =>
      have hzn : z < 0 := by have := hs.out.2.1 rfl; omega
      have HE : Hid (nmE Y z l = 1) := Lib.hid (nmE_neg Y hzn l)
      have HV : Hid (genA Y l R = (0, if nmE Y 0 l = 0 then 1 else nmE Y 0 l)) := Lib.hid (by
        unfold genA
        rw [← hg.out]
        split <;> rfl)
      have HV1 : Hid (genA Y l R = (0, 1)) := Lib.hid (by
        rw [HV.out, if_pos (ho.out.elim (fun h => by have := hs.out.1; omega) id)])
      obtain ⟨s, hs2⟩ : ∃ s, s = nmS Y z l := ⟨_, rfl⟩
      have HS := Lib.hid hs2.symm
      clear hs2 hzn
      go_wp2_with (first
        | ((with_reducible show wpList _ _ _ (⟨some 12, _, _, _, _, _⟩ :: _) _ _); refine wpList_loadv _ rfl 23 (.tmp 3) rfl 5 (by kernel_rfl) w.heap.size 0 Y.cells rfl (BL.all HKx.out) rfl ?_)
        | (go_at_call 16; refine (rname_any Y _ A n c l wx (H.out.kept HBx.out) HLT.out).mono ?_; rw [HE.out, HS.out]; rintro e w5 ⟨rfl, b5⟩; have HX5 := Lib.hid b5; clear b5)
        | fail)
      go_ret2
      exact ⟨(by rw [HV1.out]; rfl), below_thenB HBx.out HBx.out.size HX5.out⟩
    | succ f =>
      have hzg : z = (g : Int) := hs.out.2.2 (by omega)
      subst hzg
      by_cases h0 : nmE Y 0 l = 0
      · have HE : Hid (nmE Y (g : Int) l = 0) := Lib.hid (by rw [nmE_nat]; exact h0)
        obtain ⟨s, hs2⟩ : ∃ s, s = tagL Y.nm (uv g ++ l) := ⟨_, rfl⟩
        have HS : Hid (nmS Y (g : Int) l = s) := Lib.hid (by rw [nmS_nat h0, hs2])
        have HKS := Lib.hid (keyS s (reach_key (by rw [hs2]; exact tagL_reach _ _)))
        have HP : Hid (genP Y l names g = hasB names s) := Lib.hid (by rw [genP, hs2])
        have H0 := Lib.hid h0
        clear hs2 h0
        cases hh : hasB names s with
        | false =>
          have HV : Hid (genA Y l R = ((g : Int), 0)) := Lib.hid (by
            unfold genA
            rw [if_pos H0.out, ← hg.out, genF, if_neg (by rw [HP.out, hh]; decide)]; rfl)
          go_wp2_with (first
            | ((with_reducible show wpList _ _ _ (⟨some 12, _, _, _, _, _⟩ :: _) _ _); refine wpList_loadv _ rfl 23 (.tmp 3) rfl 5 (by kernel_rfl) w.heap.size 0 Y.cells rfl (BL.all HKx.out) rfl ?_)
            | (go_at_call 16; refine (rname_any Y _ A n c l wx (H.out.kept HBx.out) HLT.out).mono ?_; rw [HE.out, HS.out]; rintro e w5 ⟨rfl, b5⟩; have HX5 := Lib.hid b5; clear b5)
            | (go_at_call 17; refine (has_any B m d names s w5 ((HNM.out.kept stay_str HBx.out).kept stay_str HX5.out)).mono ?_; rintro e w6 ⟨rfl, hw⟩; rw [hw, hh]; clear hw w6)
            | fail)
          go_ret2
          exact ⟨(by rw [HV.out]; rfl), below_thenB HBx.out HBx.out.size (HX5).out⟩
        | true =>
          obtain ⟨z', hw, hs', hm⟩ := hs.out.next
          have HN := Lib.hid hs'
          have HM := Lib.hid hm
          have HG : Hid (genF (genP Y l names) f (g + 1) = R) := Lib.hid (by rw [← hg.out, genF, if_pos (by rw [HP.out, hh])])
          clear hs' hm
          go_wp2_with (first
            | ((with_reducible show wpList _ _ _ (⟨some 12, _, _, _, _, _⟩ :: _) _ _); refine wpList_loadv _ rfl 23 (.tmp 3) rfl 5 (by kernel_rfl) w.heap.size 0 Y.cells rfl (BL.all HKx.out) rfl ?_)
            | (go_at_call 16; refine (rname_any Y _ A n c l wx (H.out.kept HBx.out) HLT.out).mono ?_; rw [HE.out, HS.out]; rintro e w5 ⟨rfl, b5⟩; have HX5 := Lib.hid b5; clear b5)
            | (go_at_call 17; refine (has_any B m d names s w5 ((HNM.out.kept stay_str HBx.out).kept stay_str HX5.out)).mono ?_; rintro e w6 ⟨rfl, hw⟩; rw [hw, hh]; clear hw w6)
            | fail)
          go_roundw
          case rel => exact ⟨g + 1, f, z', (by first | rfl | rw [hw]), HN, HG, Lib.hid (.inr H0.out), Lib.hid (below_thenB hb.out hb.out.size (HX5).out)⟩
          case measure => (first | (rw [hw]; exact HM.out) | exact HM.out)
      · obtain ⟨e0, he0⟩ : ∃ x, x = nmE Y 0 l := ⟨_, rfl⟩
        have HE : Hid (nmE Y (g : Int) l = e0) := Lib.hid ((nmE_nat _ _ _).trans he0.symm)
        have HV : Hid (genA Y l R = (0, e0)) := Lib.hid (by rw [he0]; exact if_neg h0)
        obtain ⟨s, hs2⟩ : ∃ s, s = nmS Y (g : Int) l := ⟨_, rfl⟩
        have HS := Lib.hid hs2.symm
        have f1 : (e0 != 0) = true := by rw [bne_iff_ne, he0]; exact h0
        clear hs2 h0 he0
        go_wp2_with (first
          | ((with_reducible show wpList _ _ _ (⟨some 12, _, _, _, _, _⟩ :: _) _ _); refine wpList_loadv _ rfl 23 (.tmp 3) rfl 5 (by kernel_rfl) w.heap.size 0 Y.cells rfl (BL.all HKx.out) rfl ?_)
          | (go_at_call 16; refine (rname_any Y _ A n c l wx (H.out.kept HBx.out) HLT.out).mono ?_; rw [HE.out, HS.out]; rintro e w5 ⟨rfl, b5⟩; have HX5 := Lib.hid b5; clear b5)
          | fail)
        go_ret2
        exact ⟨(by rw [HV.out]; rfl), below_thenB HBx.out HBx.out.size HX5.out⟩
end
end Go.Proofs.YtgoefpbicohkfaaGreatDoor
/- law47: the plain facts of the law's examples. -/
namespace Go.Proofs.YtgoefpbicohkfaaGreatDoor
open Go Gf

def exP : Pp := ⟨0, 5, 3, [0, 1, 2], [idC 83]⟩
def exB : List UInt8 := [3, 3, 0, 1, 2, 1] ++ idC 83
def exX1 : En := ⟨0, 5, 3, 0, exB, []⟩
def exX2 : En := ⟨1, 1, 4, 0, [0, 5], []⟩
def exX3 : En := ⟨2, 9, 5, 0, [0, 5], []⟩
set_option maxRecDepth 100000
theorem ex_valid : validB exP = true := by decide +kernel
theorem ex_rb : rbL exP = [0, 5] := by decide +kernel
theorem ex_body : bodyL exP = exB := by decide +kernel
theorem ex_dec1 : endR exX1.body.length (dS exX1.body).2 = 0 := by decide +kernel
theorem ex_dec2 : decP exX1 = exP := Pp.eq_of rfl rfl (by decide +kernel) (by decide +kernel) (by decide +kernel)
theorem ex_dec : decM exX1 = some exP := by
  unfold decM
  rw [if_pos (show exX1.kind = 3 from rfl), if_pos ⟨ex_dec1, by rw [ex_dec2]; exact ex_valid⟩, ex_dec2]
theorem ex_no2 : decM exX2 = none := if_neg (by decide)
theorem ex_no3 : decM exX3 = none := if_neg (by decide)
theorem ex_dd0 : dd [] = [] := rfl
theorem ex_dd1 : dd [exX1] = [exX1] := rfl
theorem ex_dd2 : dd [exX1, exX2] = [exX1, exX2] := rfl
theorem ex_dd3 : dd [exX1, exX2, exX3] = [exX1, exX2, exX3] := rfl
theorem ex_pp0 : ppL [] = [] := by simp [ppL, pps, sortP]
theorem ex_pp1 : ppL [exX1] = [exP] := by simp [ppL, pps, ex_dec, sortP]
theorem ex_pp2 : ppL [exX1, exX2] = [exP] := by simp [ppL, pps, ex_dec, ex_no2, sortP]
theorem ex_pp3 : ppL [exX1, exX2, exX3] = [exP] := by simp [ppL, pps, ex_dec, ex_no2, ex_no3, sortP]
theorem ex_same : ppEq exP exP = true := (ppEq_iff _ _).2 rfl
theorem ex_st2 : stateOf [exX1, exX2] exP [] = 1 := by decide +kernel
theorem ex_st3 : stateOf [exX1, exX2, exX3] exP [] = 2 := by decide +kernel
theorem ex_st4 : stateOf [exX1, exX2, exX3] exP [2] = 3 := by decide +kernel
theorem ex_s0 : stR (dd []) exP [] = #[.int .i64 0, .int .i64 4] := stR_no (by rw [ex_dd0, ex_pp0]; rfl)
theorem ex_s2 : stR (dd [exX1, exX2]) exP [] = #[.int .i64 1, .int .i64 0] := by rw [stR_yes (by rw [ex_dd2, ex_pp2, List.any_cons, ex_same]; rfl), ex_dd2, ex_st2]
theorem ex_s3 : stR (dd [exX1, exX2, exX3]) exP [] = #[.int .i64 2, .int .i64 0] := by rw [stR_yes (by rw [ex_dd3, ex_pp3, List.any_cons, ex_same]; rfl), ex_dd3, ex_st3]
theorem ex_s4 : stR (dd [exX1, exX2, exX3]) exP [2] = #[.int .i64 3, .int .i64 0] := by rw [stR_yes (by rw [ex_dd3, ex_pp3, List.any_cons, ex_same]; rfl), ex_dd3, ex_st4]
theorem ex_of1 : ofL [exX1] 3 = [exP] := by rw [ofL, ex_pp1]; rfl
theorem ex_of3 : ofL [exX1, exX2, exX3] 3 = [exP] := by rw [ofL, ex_pp3]; rfl
theorem ex_uniq (s : List UInt8) : uniqS [s] = [s] := by simp [uniqS, addS]
theorem ex_cond : (condL (dd [exX1, exX2, exX3]) 3 0).length = 1 := by
  have h : condN [exX1, exX2, exX3] 0 exP = true := by decide +kernel
  rw [ex_dd3, condL, strL, ex_of3, List.filter_cons_of_pos h]
  simp [stL, exP, ex_uniq]
theorem ex_drop : (dropL (dd [exX1, exX2, exX3]) 3 [2]).length = 1 := by
  rw [ex_dd3, dropL, strL, ex_of3, List.filter_cons_of_pos (by rw [ex_st4]; rfl)]
  simp [stL, exP, ex_uniq]
theorem ex_pend : (pendL (dd [exX1]) 3 1).length = 1 := by
  have h : pendN [exX1] 1 exP = false := by decide +kernel
  rw [ex_dd1, pendL, ex_of1, kpL, List.filter_cons_of_pos (by rw [h]; rfl)]
  rfl
theorem ex_r5 : replyK exP [] [4] = 5 := by decide +kernel
theorem ex_r4 : replyK exP [] [] = 4 := by decide +kernel
end Go.Proofs.YtgoefpbicohkfaaGreatDoor
/- law47: awake. -/
namespace Go.Proofs.YtgoefpbicohkfaaGreatDoor
open Go Go.RowKit Gf Sha

attribute [local go_sem] strB_app
theorem ot_rw {α : Type} {R : Rdg α} {s : Nat} {te : TypeId} {w : World} {v : Value} {L : List α} {n : Nat} (css : List (List Value)) (hn : L.length = n) (h : RW w te s v n css.flatten) (h1 : css.length = L.length) (h2 : ∀ cs ∈ css, cs.length = s) (h3 : ∀ p ∈ css.zip L, R w p.1 p.2) : OT R s te 0 w v L := by
  subst hn
  refine ⟨css, h1, h2, fun k hk hk' => ?_, h, fun _ _ => Nat.zero_le _⟩
  have hz : k < (css.zip L).length := by rw [List.length_zip]; omega
  have := h3 _ (List.getElem_mem hz)
  rw [List.getElem_zip] at this
  exact this
theorem rw_ls {α : Type} {R : Rdg α} {s b : Nat} {te : TypeId} {w : World} {A : Option Addr} {c : Nat} {L : List α} {n : Nat} (css : List (List Value)) (hn : L.length = n) (h : RW w te s (.slice A n c) n css.flatten) (h1 : css.length = L.length) (h2 : ∀ cs ∈ css, cs.length = s) (h3 : ∀ p ∈ css.zip L, R w p.1 p.2) (hl : n * b ≤ lim) : LS R s b w A n c L := by
  obtain ⟨A', c', e, h9⟩ := (ot_rw css hn h h1 h2 h3).ls (b := b) (by rw [hn]; exact hl)
  subst hn
  cases e
  exact h9
theorem bslI3 (w : World) : (Instr.buildSlice 31 3 #[(0, .int .i64 0), (1, .int .i64 1), (2, .int .i64 2)]).run Tryz.prog w = .ok (.slice (some ⟨w.heap.size, 0, none⟩) 3 3) (w.alloc (.cells [Value.int .i64 0, .int .i64 1, .int .i64 2].toArray 3)) := by kernel_rfl
theorem bldPq (A1 : Option Addr) (n1 c1 : Nat) (A2 : Option Addr) (n2 c2 : Nat) (w : World) : (Instr.build 34 #[(0, .int .i64 0), (1, .int .i64 5), (2, .int .i64 3), (3, .slice A1 n1 c1), (4, .slice A2 n2 c2)]).run Tryz.prog w = .ok (.agg (ppC exP A1 n1 c1 A2 n2 c2).toArray) w := by kernel_rfl
theorem bldEq (d s k : Int) (A : Option Addr) (n c : Nat) (b : List UInt8) (w : World) : (Instr.build 38 #[(0, .int .i64 d), (1, .int .i64 s), (2, .int .i64 k), (4, .slice A n c)]).run Tryz.prog w = .ok (.agg (enC ⟨d, s, k, 0, b, []⟩ A n c).toArray) w := by kernel_rfl
theorem bslE2 (x y : En) (A : Option Addr) (n c : Nat) (A' : Option Addr) (n' c' : Nat) (w : World) : (Instr.buildSlice 39 2 #[(0, .agg (enC x A n c).toArray), (1, .agg (enC y A' n' c').toArray)]).run Tryz.prog w = .ok (.slice (some ⟨w.heap.size, 0, none⟩) 2 2) (w.alloc (.cells (enC x A n c ++ enC y A' n' c').toArray 38)) := by kernel_rfl
theorem bslE1 (x : En) (A : Option Addr) (n c : Nat) (w : World) : (Instr.buildSlice 39 1 #[(0, .agg (enC x A n c).toArray)]).run Tryz.prog w = .ok (.slice (some ⟨w.heap.size, 0, none⟩) 1 1) (w.alloc (.cells (enC x A n c).toArray 38)) := by kernel_rfl
theorem id_at (c : UInt8) (v : Value) (hv : v = B c) (w : World) : Calls Tryz.prog 7 #[v] w fun e w' => e = .returned (.string (strB (idC c))) ∧ Below w.heap.size w w' := by
  subst hv; exact id_any c w
theorem wc83 : Value.int .u8 83 = B 83 := rfl
section
variable {P : Program} (w : World) {ops : Array Oper} {rest : List Oper} {o : Oper} {a : Act} {Q : Exit → Act → World → Prop}
/-- x[:k], guarded. -/
theorem wpList_preVg (hw : Region.wanted o (yielded ops a.tmps) = true) (s hi : Operand) (ty te : TypeId) (m : Nat) (hop : o.op = .slice ty s none (some hi) none) (hu : P.underlying ty = some (.slice te)) (hs : (sizeOf te).run P w = .ok m w)
    (g p n c k : Nat) (hv : a.eval s = .slice (some ⟨g, p, none⟩) n c) (hlo : a.eval hi = .int .i64 (k : Int)) (hk : k ≤ n) (hc : n ≤ c) (hc0 : 0 < c)
    (h : wpList P ops Q rest (a.put o.dst (.slice (some ⟨g, p, none⟩) k c)) w) : wpList P ops Q (o :: rest) a w :=
  wpList_want w hw fun K hK => by
    unfold Oper.wp execOp
    simp only [hop, Option.map_some, Option.map_none, hv, hlo]
    have h1 : k ≤ c := by omega
    have h2 : ¬ c = 0 := by omega
    simp [Instr.sliceAt, Instr.slice, run_underlying hu, Instr.sliceBounds, Instr.sliceBound, asIntOf, hs, Result.andThen, addr_add, h1, h2]
    exact hK _ _ h
end
theorem en_rd {w : World} {A : Option Addr} {n c : Nat} {d s k : Int} {b : List UInt8} (h : BS w A n c b) (hd : wfI d) (hs : wfI s) (hk : wfI k) : rEn w (enC ⟨d, s, k, 0, b, []⟩ A n c) ⟨d, s, k, 0, b, []⟩ := ⟨A, n, c, rfl, h, hd, hs, hk, by rfl, Nat.zero_le _⟩
set_option maxRecDepth 100000
set_option maxHeartbeats 8000000
theorem ls_i3 {w : World} {g : Nat} (h : BL w g 3 [.int .i64 0, .int .i64 1, .int .i64 2]) : LS rInt 1 8 w (some ⟨g, 0, none⟩) 3 3 [0, 1, 2] :=
  rw_ls [[.int .i64 0], [.int .i64 1], [.int .i64 2]] rfl (RW.of_blk h (by decide) (by decide)) rfl (by simp) (by simp [rInt, Lit.wf]; decide) (by decide)
theorem ls_i1 {w : World} {g : Nat} (z : Int) (hz : wfI z) (h : BL w g 3 [.int .i64 z]) : LS rInt 1 8 w (some ⟨g, 0, none⟩) 1 1 [z] :=
  rw_ls [[.int .i64 z]] rfl (RW.of_blk h rfl (by decide)) rfl (by simp) (by intro p hp; simp at hp; subst hp; exact ⟨rfl, hz⟩) (by decide)
theorem ls_s1 {w : World} {g : Nat} (s : List UInt8) (hs : s.length ≤ reachBytes) (h : BL w g 9 [.string (strB s)]) : LS rStr 1 16 w (some ⟨g, 0, none⟩) 1 1 [s] :=
  rw_ls [[.string (strB s)]] rfl (RW.of_blk h rfl (by decide)) rfl (by simp) (by intro p hp; simp at hp; subst hp; exact ⟨rfl, hs⟩) (by decide)
def hdOk (w : World) (es : List En) (v : Value) : Prop := ∃ A c, v = .slice A es.length c ∧ LS rEn 6 72 w A es.length c es
theorem awake_any (w : World) : Calls Tryz.prog 4 #[] w fun e w' => e = .returned (.bool true) ∧ Below w.heap.size w w' := by
  have l1 : ({ data := #[3, 3, 0, 1, 2, 1] } : ByteArray) = strB [3, 3, 0, 1, 2, 1] := rfl
  have l2 : ({ data := #[0, 5] } : ByteArray) = strB [0, 5] := rfl
  have ec := cat_ok [3, 3, 0, 1, 2, 1] (idC 83) (by simp [idC])
  go_enter Tryz.func4, Tryz.ntmps4
  rw [l1, l2]
  clear l1 l2
  go_wp2_with (first
    | ((with_reducible show wpList _ _ _ (⟨some 15, _, _, _, _, _⟩ :: _) _ _); refine wpList_bslice _ rfl 31 3 3 _ rfl #[(0, .int .i64 0), (1, .int .i64 1), (2, .int .i64 2)] (by rw [List.map_toArray]; rfl) [.int .i64 0, .int .i64 1, .int .i64 2] (bslI3 _) ?_; intro w1 a1 a2 a3; have HI1 := Lib.hid (ls_i3 a1); have HB1 := Lib.hid a2; clear a1 a2 a3)
    | (go_at_call 7; refine (id_at 83 _ wc83 _).mono ?_; rintro e w2 ⟨rfl, b1⟩; have HI2 := Lib.hid (HI1.out.kept stay_int b1); have HB2 := Lib.hid (below_then HB1.out b1); clear b1)
    | ((with_reducible show wpList _ _ _ (⟨some 17, _, _, _, _, _⟩ :: _) _ _); refine wpList_bslice _ rfl 25 9 1 _ rfl #[(0, .string (strB (idC 83)))] (by rw [List.map_toArray]; rfl) [.string (strB (idC 83))] (bslStr _ _) ?_; intro w3 a1 a2 a3; have HS3 := Lib.hid (ls_s1 (idC 83) (by simp [idC, reachBytes]) a1); have HI3 := Lib.hid (HI2.out.kept stay_int a2); have HB3 := Lib.hid (below_then HB2.out a2); clear a1 a2 a3)
    | ((with_reducible show wpList _ _ _ (⟨some 18, _, _, _, _, _⟩ :: _) _ _); refine wpList_build _ rfl 34 _ rfl #[(0, .int .i64 0), (1, .int .i64 5), (2, .int .i64 3), (3, .slice (some ⟨w.heap.size, 0, none⟩) 3 3), (4, .slice (some ⟨w2.heap.size, 0, none⟩) 1 1)] (by rw [List.map_toArray]; rfl) (.agg (ppC exP (some ⟨w.heap.size, 0, none⟩) 3 3 (some ⟨w2.heap.size, 0, none⟩) 1 1).toArray) (bldPq _ _ _ _ _ _ _) ?_)
    | ((with_reducible show wpList _ _ _ (⟨some 1, _, _, _, _, _⟩ :: _) _ _); refine wpList_alloc _ rfl 34 rfl ppZ ppZero ?_; intro w4 a1 a2 a3; have HV4 := Lib.hid a1; have HX4 := Lib.hid a2; clear a1 a2 a3)
    | ((with_reducible show wpList _ _ _ (⟨none, _, _, _, _, _⟩ :: _) _ _); refine wpList_storev _ rfl 34 (.tmp 1) (.tmp 18) rfl 5 (by kernel_rfl) w3.heap.size 0 _ ppZ (ppC exP (some ⟨w.heap.size, 0, none⟩) 3 3 (some ⟨w2.heap.size, 0, none⟩) 1 1) rfl rfl HV4.out rfl (one_val _ rfl) (by decide) ?_; intro w5 a1 a2 a3; have b4 := low_kp HX4.out a2 (fun i hi e => by omega); have HV5 : Hid (BL w5 w3.heap.size 34 (ppC exP (some ⟨w.heap.size, 0, none⟩) 3 3 (some ⟨w2.heap.size, 0, none⟩) 1 1)) := Lib.hid a1; have HP5 : Hid (rPp w5 (ppC exP (some ⟨w.heap.size, 0, none⟩) 3 3 (some ⟨w2.heap.size, 0, none⟩) 1 1) exP) := Lib.hid ⟨_, _, _, _, _, _, rfl, HI3.out.kept stay_int b4, HS3.out.kept stay_str b4, by rfl, by rfl, by rfl⟩; have HB5 := Lib.hid (below_then HB3.out b4); clear a1 a2 a3 b4)
    | ((with_reducible show wpList _ _ _ (⟨some 20, _, _, _, _, _⟩ :: _) _ _); refine wpList_loadv _ rfl 34 (.tmp 1) rfl 5 (by kernel_rfl) w3.heap.size 0 _ rfl (BL.all HV5.out) rfl ?_)
    | (go_at_call 8; refine (encp_ok _ exP w5 HP5.out ex_valid).mono ?_; rintro e w6 ⟨A6, n6, c6, rfl, x1, x2⟩; have HE6 := Lib.hid x1; have HX6 := Lib.hid x2; have HV6 := Lib.hid (HV5.out.kept x2); clear x1 x2)
    | ((with_reducible show wpList _ _ _ (⟨some 25, _, _, _, _, _⟩ :: _) _ _); refine wpList_loadv _ rfl 34 (.tmp 1) rfl 5 (by kernel_rfl) w3.heap.size 0 _ rfl (BL.all HV6.out) rfl ?_)
    | (go_at_call 9; refine (encr_ok _ exP w6 (stay_pp _ _ _ _ HP5.out HX6.out) ex_valid).mono ?_; rintro e w7 ⟨A7, n7, c7, rfl, x1, x2⟩; have HE7 := Lib.hid (HE6.out.kept x2); have HR7 := Lib.hid x1; have HX7 := Lib.hid (below_then HX6.out x2); clear x1 x2))
  clear HI1 HI2 HI3 HS3 HB1 HB2 HB3 HV4 HX4
  refine Text.wp_region_text (fun w' => (convert 24 9 (.slice A6 n6 c6)).run Tryz.prog w' = .ok (.string (strB (bodyL exP))) w' ∧ (convert 24 9 (.slice A7 n7 c7)).run Tryz.prog w' = .ok (.string (strB (rbL exP))) w') [(0, 4), (1, 4), (2, 4), (3, 4), (4, 4), (5, 4), (6, 4), (7, 4), (8, 0), (9, 2), (10, 4), (11, 0), (12, 4), (13, 4), (14, 4), (15, 0), (16, 0), (17, 4)] (by kernel_rfl) (by kernel_rfl) (fun _ _ _ _ _ h => h) (⟨conv_str (HE7.out.kept (Below.refl _ _).drew), conv_str (HR7.out.kept (Below.refl _ _).drew)⟩) ?_
  iterate 8 (refine Text.purek rfl rfl (fun K hK => ⟨_, fun w' => by go_simp <;> rfl, ?_⟩); go_simp; refine hK _ ?_; clear hK K)
  (refine Text.heldk rfl rfl (fun K hK => ⟨_, fun w' hw' => by go_simp <;> rfl, ?_⟩); go_simp; refine hK _ ?_; clear hK K)
  refine Text.effw rfl rfl (fun K hK => ?_)
  go_simp
  refine (id_at 83 _ wc83 _).mono ?_
  rintro e w8 ⟨rfl, b0⟩
  have b1 : Below w7.heap.size w7 w8 := below_then (Below.refl _ _).drew b0
  have HX8 : Hid (Below w5.heap.size w5 w8) := Lib.hid (below_then HX7.out b1)
  have HE8 := Lib.hid (HE7.out.kept (w' := w8) b1)
  have HR8 := Lib.hid (HR7.out.kept (w' := w8) b1)
  refine hK _ _ ⟨conv_str HE8.out, conv_str HR8.out⟩ ?_
  clear hK K b1 b0
  (refine Text.purek rfl rfl (fun K hK => ⟨_, fun w' => by go_simp <;> rfl, ?_⟩); go_simp; refine hK _ ?_; clear hK K)
  refine Text.heldk rfl rfl (fun K hK => ?_)
  refine ⟨.bool false, fun w' hw' => by first | (go_simp; done) | (go_simp; rw [ex_body]; rfl), ?_⟩
  go_simp
  refine hK _ ?_
  clear hK K
  iterate 3 (refine Text.purek rfl rfl (fun K hK => ⟨_, fun w' => by go_simp <;> rfl, ?_⟩); go_simp; refine hK _ ?_; clear hK K)
  (refine Text.heldk rfl rfl (fun K hK => ⟨_, fun w' hw' => by go_simp <;> rfl, ?_⟩); go_simp; refine hK _ ?_; clear hK K)
  refine Text.heldk rfl rfl (fun K hK => ?_)
  refine ⟨.bool false, fun w' hw' => by first | (go_simp; done) | (go_simp; rw [ex_rb]), ?_⟩
  go_simp
  refine hK _ ?_
  clear hK K
  (refine Text.purek rfl rfl (fun K hK => ⟨_, fun w' => by go_simp <;> rfl, ?_⟩); go_simp; refine hK _ ?_; clear hK K)
  refine Text.done ?_
  have HX1 : Hid (rEn w8 (enC exX1 A6 n6 c6) exX1) := Lib.hid (en_rd (by rw [← ex_body]; exact HE8.out) (by rfl) (by rfl) (by rfl))
  have HX2 : Hid (rEn w8 (enC exX2 A7 n7 c7) exX2) := Lib.hid (en_rd (by rw [← ex_rb]; exact HR8.out) (by rfl) (by rfl) (by rfl))
  have HX3 : Hid (rEn w8 (enC exX3 A7 n7 c7) exX3) := Lib.hid (en_rd (by rw [← ex_rb]; exact HR8.out) (by rfl) (by rfl) (by rfl))
  go_wp2_with (first
    | ((with_reducible show wpList _ _ _ (⟨some 48, _, _, _, _, _⟩ :: _) _ _); refine wpList_build _ rfl 38 _ rfl #[(0, .int .i64 0), (1, .int .i64 5), (2, .int .i64 3), (4, .slice A6 n6 c6)] (by rw [List.map_toArray]; rfl) (.agg (enC exX1 A6 n6 c6).toArray) (bldEq 0 5 3 _ _ _ exB _) ?_)
    | ((with_reducible show wpList _ _ _ (⟨some 50, _, _, _, _, _⟩ :: _) _ _); refine wpList_build _ rfl 38 _ rfl #[(0, .int .i64 1), (1, .int .i64 1), (2, .int .i64 4), (4, .slice A7 n7 c7)] (by rw [List.map_toArray]; rfl) (.agg (enC exX2 A7 n7 c7).toArray) (bldEq 1 1 4 _ _ _ [0, 5] _) ?_)
    | ((with_reducible show wpList _ _ _ (⟨some 51, _, _, _, _, _⟩ :: _) _ _); refine wpList_bslice _ rfl 39 38 2 _ rfl #[(0, .agg (enC exX1 A6 n6 c6).toArray), (1, .agg (enC exX2 A7 n7 c7).toArray)] (by rw [List.map_toArray]; rfl) (enC exX1 A6 n6 c6 ++ enC exX2 A7 n7 c7) (bslE2 _ _ _ _ _ _ _ _ _) ?_; intro w9 a1 a2 a3; have HRW9 : Hid (RW w9 38 6 (.slice (some ⟨w8.heap.size, 0, none⟩) 2 2) 2 (enC exX1 A6 n6 c6 ++ enC exX2 A7 n7 c7)) := Lib.hid (RW.of_blk a1 rfl (by decide)); have HX9 := Lib.hid (below_thenB HX8.out HX8.out.size a2); have HL9 : Hid (LS rEn 6 72 w9 (some ⟨w8.heap.size, 0, none⟩) 2 2 [exX1, exX2]) := Lib.hid (rw_ls [enC exX1 A6 n6 c6, enC exX2 A7 n7 c7] rfl HRW9.out rfl (by intro cs hcs; simp at hcs; rcases hcs with rfl | rfl <;> rfl) (by intro p hp; simp at hp; rcases hp with rfl | rfl; exact stay_en _ _ _ _ HX1.out a2; exact stay_en _ _ _ _ HX2.out a2) (by decide)); have HY9 := Lib.hid a2; clear a1 a2 a3)
    | ((with_reducible show wpList _ _ _ (⟨some 54, _, _, _, _, _⟩ :: _) _ _); refine wpList_loadv _ rfl 34 (.tmp 1) rfl 5 (by kernel_rfl) w3.heap.size 0 _ rfl (BL.all (HV5.out.kept HX9.out)) rfl ?_)
    | (go_at_call 10; (with_reducible show Calls _ _ _ w9 _); refine (State_any _ 2 2 [exX1, exX2] _ exP none 0 0 [] w9 HL9.out (by decide) (stay_pp _ _ _ _ HP5.out HX9.out) LS.nil).mono ?_; rw [ex_s2]; rintro e w10 ⟨rfl, bl⟩; have HX10 := Lib.hid (below_thenB HX9.out HX9.out.size bl); have HRW10 := Lib.hid (HRW9.out.kept bl); have HY10 := Lib.hid (below_then HY9.out bl); clear bl)
    | ((with_reducible show wpList _ _ _ (⟨some 60, _, _, _, _, _⟩ :: _) _ _); refine wpList_build _ rfl 38 _ rfl #[(0, .int .i64 2), (1, .int .i64 9), (2, .int .i64 5), (4, .slice A7 n7 c7)] (by rw [List.map_toArray]; rfl) (.agg (enC exX3 A7 n7 c7).toArray) (bldEq 2 9 5 _ _ _ [0, 5] _) ?_)
    | ((with_reducible show wpList _ _ _ (⟨some 61, _, _, _, _, _⟩ :: _) _ _); refine wpList_bslice _ rfl 39 38 1 _ rfl #[(0, .agg (enC exX3 A7 n7 c7).toArray)] (by rw [List.map_toArray]; rfl) (enC exX3 A7 n7 c7) (bslE1 _ _ _ _ _) ?_; intro w11 a1 a2 a3; have HG11 := Lib.hid a1; have HRW11 := Lib.hid (HRW10.out.kept a2); have HX11 := Lib.hid (below_thenB HX10.out HX10.out.size a2); have HY11 := Lib.hid (below_then HY10.out a2); clear a1 a2 a3)
    | ((with_reducible show wpList _ _ _ (⟨some 62, _, _, _, _, _⟩ :: _) _ _); obtain ⟨iS, i1, i2, i3, i4⟩ := info_some infoEn; refine wpList_appRW _ rfl (.tmp 58) (.tmp 61) 39 38 6 iS _ rfl Tryz.underlying39 i1 i2 i3 rfl (.slice (some ⟨w8.heap.size, 0, none⟩) 2 2) 2 _ rfl HRW11.out w10.heap.size (enC exX3 A7 n7 c7) rfl HG11.out rfl (one_en _ _ _ _) (by rw [i4]; decide) (by decide) ?_; intro v' w12 ap; obtain ⟨g12, o12, c12, e12, hc12, _⟩ := ap.row.at_ (by decide); subst e12; have HC12 := Lib.hid hc12; have HX12 : Hid (Below w5.heap.size w5 w12) := Lib.hid (low_kp HX11.out ap.kp (fun i hi e => by have e' : w8.heap.size = i := Option.some.inj e; have := HX8.out.size; omega)); have HY12 : Hid (Below w8.heap.size w8 w12) := Lib.hid (low_kp HY11.out ap.kp (fun i hi e => by have e' : w8.heap.size = i := Option.some.inj e; omega)); have HL12 : Hid (LS rEn 6 72 w12 (some ⟨g12, o12, none⟩) 3 c12 [exX1, exX2, exX3]) := Lib.hid (rw_ls [enC exX1 A6 n6 c6, enC exX2 A7 n7 c7, enC exX3 A7 n7 c7] rfl ap.row rfl (by intro cs hcs; simp at hcs; rcases hcs with rfl | rfl | rfl <;> rfl) (by intro p hp; simp at hp; rcases hp with rfl | rfl | rfl; exact stay_en _ _ _ _ HX1.out HY12.out; exact stay_en _ _ _ _ HX2.out HY12.out; exact stay_en _ _ _ _ HX3.out HY12.out) (by decide)); clear ap i1 i2 i3 i4 hc12)
    | ((with_reducible show wpList _ _ _ (⟨some 65, _, _, _, _, _⟩ :: _) _ _); refine wpList_loadv _ rfl 34 (.tmp 1) rfl 5 (by kernel_rfl) w3.heap.size 0 _ rfl (BL.all (HV5.out.kept HX12.out)) rfl ?_)
    | (go_at_call 10; (with_reducible show Calls _ _ _ w12 _); refine (State_any _ 3 c12 [exX1, exX2, exX3] _ exP none 0 0 [] w12 HL12.out (by decide) (stay_pp _ _ _ _ HP5.out HX12.out) LS.nil).mono ?_; rw [ex_s3]; rintro e w13 ⟨rfl, bl⟩; have HX13 := Lib.hid (below_thenB HX12.out HX12.out.size bl); have HL13 := Lib.hid (HL12.out.kept stay_en bl); clear bl)
    | ((with_reducible show wpList _ _ _ (⟨some 71, _, _, _, _, _⟩ :: _) _ _); refine wpList_loadv _ rfl 34 (.tmp 1) rfl 5 (by kernel_rfl) w3.heap.size 0 _ rfl (BL.all (HV5.out.kept HX13.out)) rfl ?_)
    | ((with_reducible show wpList _ _ _ (⟨some 72, _, _, _, _, _⟩ :: _) _ _); refine wpList_bslice _ rfl 31 3 1 _ rfl #[(0, .int .i64 2)] (by rw [List.map_toArray]; rfl) [.int .i64 2] (bslI _ _) ?_; intro w14 a1 a2 a3; have HI14 := Lib.hid (ls_i1 2 (by rfl) a1); have HX14 := Lib.hid (below_thenB HX13.out HX13.out.size a2); have HL14 := Lib.hid (HL13.out.kept stay_en a2); clear a1 a2 a3)
    | (go_at_call 10; (with_reducible show Calls _ _ _ w14 _); refine (State_any _ 3 c12 [exX1, exX2, exX3] _ exP _ 1 1 [2] w14 HL14.out (by decide) (stay_pp _ _ _ _ HP5.out HX14.out) HI14.out).mono ?_; rw [ex_s4]; rintro e w15 ⟨rfl, bl⟩; have HX15 := Lib.hid (below_thenB HX14.out HX14.out.size bl); have HL15 := Lib.hid (HL14.out.kept stay_en bl); clear bl)
    | ((with_reducible show wpList _ _ _ (⟨some 77, _, _, _, _, _⟩ :: _) _ _); refine wpList_loadv _ rfl 34 (.tmp 1) rfl 5 (by kernel_rfl) w3.heap.size 0 _ rfl (BL.all (HV5.out.kept HX15.out)) rfl ?_)
    | (go_at_call 10; (with_reducible show Calls _ _ _ w15 _); refine (State_any none 0 0 [] _ exP none 0 0 [] w15 LS.nil (by decide) (stay_pp _ _ _ _ HP5.out HX15.out) LS.nil).mono ?_; rw [ex_s0]; rintro e w16 ⟨rfl, bl⟩; have HX16 := Lib.hid (below_thenB HX15.out HX15.out.size bl); have HL16 := Lib.hid (HL15.out.kept stay_en bl); clear bl)
    | (go_at_call 11; refine (condemned_any _ 3 c12 [exX1, exX2, exX3] 3 0 w16 HL16.out (by decide) (by rfl)).mono ?_; unfold StrN; rw [ex_cond]; rintro e w17 ⟨A17, c17, rfl, _, _, bl⟩; have HX17 := Lib.hid (below_thenB HX16.out HX16.out.size bl); have HL17 := Lib.hid (HL16.out.kept stay_en bl); clear bl)
    | ((with_reducible show wpList _ _ _ (⟨some 115, _, _, _, _, _⟩ :: _) _ _); refine wpList_bsliceg _ rfl 31 3 1 _ rfl #[(0, .int .i64 2)] (by rw [List.map_toArray]; rfl) [.int .i64 2] (bslI _ _) ?_; intro w18 a1 a2 a3; have HI18 := Lib.hid (ls_i1 2 (by rfl) a1); have HX18 := Lib.hid (below_thenB HX17.out HX17.out.size a2); have HL18 := Lib.hid (HL17.out.kept stay_en a2); clear a1 a2 a3)
    | (go_at_call 12; refine (dropped_any _ 3 c12 [exX1, exX2, exX3] 3 _ 1 1 [2] w18 HL18.out (by decide) HI18.out).mono ?_; unfold StrN; rw [ex_drop]; rintro e w19 ⟨A19, c19, rfl, _, _, bl⟩; have HX19 := Lib.hid (below_thenB HX18.out HX18.out.size bl); have HL19 := Lib.hid (HL18.out.kept stay_en bl); clear bl)
    | ((with_reducible show wpList _ _ _ (⟨some 122, _, _, _, _, _⟩ :: _) _ _); refine wpList_preVg _ rfl (.tmp 121) (.const (.int .i64 1)) 39 38 6 rfl Tryz.underlying39 (agg_size (P := Tryz.prog) _ (t := 38) (by kernel_rfl)) g12 o12 3 c12 1 rfl rfl (by decide) HC12.out (by have := HC12.out; omega) ?_)
    | (go_at_call 13; refine (pending_any _ 1 c12 [exX1] 3 1 w19 (HL19.out.pre (k := 1) (by decide)) (by decide) (by rfl)).mono ?_; rintro e w20 ⟨A20, n20, c20, rfl, x1, _, bl⟩; obtain rfl : n20 = 1 := x1.1.1.symm.trans ex_pend; have HX20 := Lib.hid (below_thenB HX19.out HX19.out.size bl); clear x1 bl)
    | ((with_reducible show wpList _ _ _ (⟨some 128, _, _, _, _, _⟩ :: _) _ _); refine wpList_loadvg _ rfl 34 (.tmp 1) rfl 5 (by kernel_rfl) w3.heap.size 0 _ rfl (BL.all (HV5.out.kept HX20.out)) rfl ?_)
    | ((with_reducible show wpList _ _ _ (⟨some 129, _, _, _, _, _⟩ :: _) _ _); refine wpList_bsliceg _ rfl 31 3 1 _ rfl #[(0, .int .i64 4)] (by rw [List.map_toArray]; rfl) [.int .i64 4] (bslI _ _) ?_; intro w21 a1 a2 a3; have HI21 := Lib.hid (ls_i1 4 (by rfl) a1); have HX21 := Lib.hid (below_thenB HX20.out HX20.out.size a2); clear a1 a2 a3)
    | (go_at_call 14; (with_reducible show Calls _ _ _ w21 _); refine (reply_kind _ exP none 0 0 [] _ 1 1 [4] w21 (stay_pp _ _ _ _ HP5.out HX21.out) LS.nil HI21.out).mono ?_; rw [ex_r5]; rintro e w22 ⟨rfl, bl⟩; have HX22 := Lib.hid (below_thenB HX21.out HX21.out.size bl); clear bl)
    | ((with_reducible show wpList _ _ _ (⟨some 134, _, _, _, _, _⟩ :: _) _ _); refine wpList_loadvg _ rfl 34 (.tmp 1) rfl 5 (by kernel_rfl) w3.heap.size 0 _ rfl (BL.all (HV5.out.kept HX22.out)) rfl ?_)
    | (go_at_call 14; (with_reducible show Calls _ _ _ w22 _); refine (reply_kind _ exP none 0 0 [] none 0 0 [] w22 (stay_pp _ _ _ _ HP5.out HX22.out) LS.nil LS.nil).mono ?_; rw [ex_r4]; rintro e w23 ⟨rfl, bl⟩; have HX23 := Lib.hid (below_thenB HX22.out HX22.out.size bl); clear bl))
  go_ret
  exact ⟨rfl, below_then HB5.out HX23.out⟩
end Go.Proofs.YtgoefpbicohkfaaGreatDoor
