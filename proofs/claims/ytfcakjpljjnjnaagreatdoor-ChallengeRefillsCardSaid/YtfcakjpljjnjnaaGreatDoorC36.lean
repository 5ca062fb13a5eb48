/- Several texts in one: LocA, Red2. -/
import Derived.Test.YtfcakjpljjnjnaaGreatDoorC35
/- Lemmas for Locate: factors of none or some, a slice behind the first elements, places. -/
namespace Go.Proofs.YtfcakjpljjnjnaaGreatDoor
open Go.RowKit Gf

theorem IS.drop {w : World} {A : Option Addr} {n c d : Nat} {z : List Nat} (h : IS w A n c (ints z)) (hd : 0 < d) (hdn : d < n) : IS w (A.map fun x => x.add d) (n - d) (c - d) (ints (z.drop d)) := by
 have hl : z.length = n := by rw [← ints_length, h.1]
 have h3 := h.2.2.1
 refine ⟨by rw [ints_length, List.length_drop, hl], by have := h.2.1; omega, by unfold lim at h3 ⊢; omega, fun k hk => ?_⟩
 obtain ⟨g, o, e, hc⟩ := h.nat (Below.refl _ _) (show d + k < n by omega)
 refine ⟨g, o + d, by rw [e]; simp [Addr.add, show d ≠ 0 by omega], ?_⟩
 have e1 : gI (ints (z.drop d)) k = (gN z (d + k) : Int) := by
  rw [gI_eq (by rw [ints_length, List.length_drop]; omega), gN_eq (by omega)]
  simp [ints]
 show w.cell? ⟨g, o + d + k, none⟩ = some (.int .i64 (gI (ints (z.drop d)) k))
 rw [e1, Nat.add_assoc]
 exact hc
theorem ownsRow_base {w : World} {b b' : Nat} {e : TypeId} {v : Value} {n : Nat} {xs : List Value} (h : w.ownsRow b' e 1 v n xs) (hb : b ≤ b') : w.ownsRow b e 1 v n xs := by
 refine ⟨h.1, ?_⟩
 rcases h.2 with h2 | ⟨g, cap, cur, h1, h2, h3⟩
 ·
  exact .inl h2
 ·
  exact .inr ⟨g, cap, cur, h1, Nat.le_trans hb h2, h3⟩
end Go.Proofs.YtfcakjpljjnjnaaGreatDoor
/- Contract of kinkeepref04.Reduce: the walk. -/
namespace Go.Proofs.YtfcakjpljjnjnaaGreatDoor
open Go.RowKit Gf

attribute [local go_sem] Gf.xor_bits Gf.and_bits Gf.or_bits Gf.ne_zero_iff Gf.eq_zero_iff Gf.eq_one_iff Gf.beq_bytes Gf.bne_bytes Gf.bv_toNat

/-- The rows that are copied, the others zero. -/
def cpM (m : List (List UInt8)) (W i : Nat) : List (List UInt8) := (List.range m.length).map fun j => if j < i then gR m j else zeros W
theorem cpM_zero (m : List (List UInt8)) (W : Nat) : cpM m W 0 = zmat m.length W := by
 apply List.ext_getElem (by simp [cpM, zmat])
 intro j h1 h2; simp [cpM, zmat]
theorem cpM_all (m : List (List UInt8)) (W : Nat) : cpM m W m.length = m := by
 apply List.ext_getElem (by simp [cpM])
 intro j h1 h2
 simp [cpM, h2, gR_eq h2]
theorem cpM_set (m : List (List UInt8)) (W i : Nat) : (cpM m W i).set i (gR m i) = cpM m W (i + 1) := by
 apply List.ext_getElem (by simp [cpM])
 intro j h1 h2
 rw [List.getElem_set]
 simp only [cpM, List.getElem_map, List.getElem_range]
 by_cases e : i = j
 ·
  subst e; simp
 ·
  rw [if_neg e]
  by_cases h3 : j < i
  ·
   rw [if_pos h3, if_pos (by omega)]
  ·
   rw [if_neg h3, if_neg (by omega)]
/-- A table of the call's own, and nothing older has changed. -/
def TabB (w0 : World) (gO cap n W : Nat) (m : List (List UInt8)) (w : World) : Prop := (∃ G, Tab w w0.heap.size gO cap n W G m) ∧ Below w0.heap.size w0 w
def RdI (w0 : World) (gO cap n W : Nat) (m : List (List UInt8)) (c : Nat) (v : Value) (w : World) : Prop :=
 TabB w0 gO cap n W (red m c).1 w ∧ ∃ xs, w.ownsRow w0.heap.size 3 1 v (red m c).2 xs
theorem TabB.drew {w0 : World} {gO cap n W : Nat} {m : List (List UInt8)} {w : World} (h : TabB w0 gO cap n W m w) : TabB w0 gO cap n W m w.drew := ⟨h.1.elim fun G hG => ⟨G, hG.drew⟩, h.2.drew⟩

theorem own_slice {w : World} {base : Nat} {e : TypeId} {v : Value} {n : Nat} {xs : List Value} (h : w.ownsRow base e 1 v n xs) : ∃ A c, v = .slice A n c := by
 rcases h.2 with ⟨rfl, rfl⟩ | ⟨g, cap, _, rfl, _⟩
 ·
  exact ⟨none, 0, rfl⟩
 ·
  exact ⟨_, cap, rfl⟩
theorem redS_pair (m : List (List UInt8)) (k : Nat) : red m (k + 1) = redS (red m k).1 (red m k).2 k := rfl
/-- A row of another element type stays behind a store into the table. -/
theorem own_far {w : World} {base : Nat} {e t : TypeId} {v : Value} {n g k : Nat} {xs : List Value} {cs : Array Value} (h : w.ownsRow base e 1 v n xs) (hg : Blk w g t cs) (hne : e ≠ t) (u : Value) : (w.setCell ⟨g, k, none⟩ u).ownsRow base e 1 v n xs :=
 Kp.own (S := (· = g)) (Kp.set (p := ⟨g, k, none⟩) (Kp.refl (· = g) w) (.inl rfl) u) h (fun b hb hbg => own_ne h hg hne (by rw [← hbg]; exact hb))

/-- A table and a row of ints, both of the call's own. -/
def TJ (w0 : World) (gO cap n W : Nat) (m : List (List UInt8)) (v : Value) (np : Nat) (w : World) : Prop :=
 ∃ G xs, Tab w w0.heap.size gO cap n W G m ∧ Below w0.heap.size w0 w ∧ w.ownsRow w0.heap.size 3 1 v np xs
theorem TJ.put {w0 w : World} {gO cap n W np : Nat} {m m' : List (List UInt8)} {v : Value} {G : Nat → Nat} {xs : List Value} (ht : Tab w w0.heap.size gO cap n W G m) (hb : Below w0.heap.size w0 w) (ho : w.ownsRow w0.heap.size 3 1 v np xs)
  {i : Nat} (hi : i < n) (k : Nat) (b : UInt8) (e : m.set i ((gR m i).set k b) = m') : TJ w0 gO cap n W m' v np (w.setCell ⟨G i, k, none⟩ (B b)).drew := by
 have h1 := ht.put hi k b
 rw [e] at h1
 exact ⟨G, xs, h1.drew, (ht.putBelow hb hi k _).drew, own_far ho (ht.rows i hi) (by decide) _⟩
set_option maxRecDepth 100000 in
set_option maxHeartbeats 2500000 in
theorem reduce_any' (A : Option Addr) (n c : Nat) (m : List (List UInt8)) (W : Nat) (w : World) (h : MS w A n c m) (hr : Rect m W) (hn : 0 < n) (hn64 : n ≤ 64) (hW0 : 0 < W) :
  Calls Tryz.prog 83 #[.slice A n c] w fun e w' => ∃ gO cap v2, e = .returned (.tuple #[.slice (some ⟨gO, 0, none⟩) n cap, v2]) ∧ TabB w gO cap n W (red m W).1 w' := by
 have HLm := Lib.hid h.1
 have HM := Lib.hid h
 have HRC := Lib.hid hr
 have hWl : W ≤ 140737488355328 := by
  obtain ⟨_, _, _, n1, _, _, _, hr1⟩ := h.at_ (Below.refl _ _) hn
  have h1 := hr1.len_le
  have h2 := hr1.1
  rw [hr 0 (by rw [h.1]; exact hn)] at h2
  omega
 clear h hr
 go_enter Tryz.func83, Tryz.ntmps83
 go_wp2_with fail
 refine (cols_any A n c m W w HM.out HRC.out hn).mono ?_
 rintro e w' ⟨rfl, rfl⟩
 go_wp2_with fail
 refine (zero_any n W w hn hn64 hWl).mono ?_
 rintro e w1 ⟨gO, cap, G, rfl, ht1, hb1⟩
 have HT1 : Hid (TabB w gO cap n W (cpM m W 0) w1) := Lib.hid ⟨⟨G, by rw [cpM_zero, HLm.out]; exact ht1⟩, hb1⟩
 clear ht1 hb1
 go_wp2_with fail
 go_loopw [5] (fun x wr => ∃ i : Nat, i ≤ n ∧ x = .int .i64 (i : Int) ∧ Hid (TabB w gO cap n W (cpM m W i) wr)) (fun x _ => n - (intOf x).toNat)
 case atStart => exact ⟨0, by omega, rfl, HT1⟩
 case round =>
  obtain ⟨i, hi, rfl, hI⟩ := hrel
  by_cases hlt : i < n
  ·
   obtain ⟨⟨G, ht⟩, hb⟩ := hI.out
   obtain ⟨g2, o2, A2, n2, c2, rfl, hc2, hr2⟩ := HM.out.at_ hb hlt
   obtain rfl : n2 = W := by rw [← hr2.1]; exact HRC.out i (by rw [HLm.out]; exact hlt)
   have x1 := ht.cell hlt
   obtain ⟨w3, hrun, hk3, hfar3, hbel3⟩ := copy_row_run (w := wr.drew) 3 (ht.drew.rows i hlt) (ht.rect i (by rw [ht.len]; exact hlt)) hr2.drew hW0
   have HR : Hid (TabB w gO cap n n2 (cpM m n2 (i + 1)) w3) := by
    refine Lib.hid ⟨⟨G, ?_⟩, hbel3 _ _ hb.drew (ht.old.2 i hlt)⟩
    have h9 := ht.drew.putRow hlt (w' := w3) (hr2.1) hk3 (fun g t cs hg hB => hfar3 g t cs hg hB)
    rw [cpM_set] at h9
    exact h9
   have HRUN := Lib.hid hrun
   clear ht hb hr2 hrun hk3 hfar3 hbel3 hI HT1
   go_wp2_with fail
   refine Text.wp_region_text (fun _ => True) [(0, 4), (1, 4), (2, 4), (4, 4), (5, 4), (6, 4), (3, 1), (7, 1), (8, 2)] (by kernel_rfl) (by kernel_rfl) (fun _ _ _ _ _ h => h) (trivial) ?_
   iterate 6 (refine Text.purek rfl rfl (fun K hK => ⟨_, fun w' => by go_simp <;> rfl, ?_⟩); go_simp; refine hK _ ?_; clear hK K)
   iterate 2 (refine Text.readk rfl rfl (fun K hK => ⟨_, by go_simp <;> rfl, ?_⟩); go_simp; refine hK _ ?_; clear hK K)
   refine Text.eff rfl rfl (fun K hK => ?_)
   refine wp_copyB (.tmp 29) (.tmp 33) _ _ rfl _ _ rfl rfl HRUN.out ?_
   go_simp
   refine hK _ _ trivial ?_
   clear hK K
   refine Text.done ?_
   go_wp2_with fail
   go_roundw
   case rel => exact ⟨i + 1, by omega, by go_num, HR⟩
   case measure => simp [intOf]; omega
  ·
   obtain rfl : i = n := by omega
   have HI0 : Hid (RdI w gO cap i W m 0 (.slice (some ⟨wr.heap.size, 0, none⟩) 0 0) (wr.alloc (.cells #[] 3))) := by
    obtain ⟨⟨G, ht⟩, hb⟩ := hI.out
    have hbA : Below wr.heap.size wr (wr.alloc (.cells #[] 3)) := (Below.refl _ _).alloc (Nat.le_refl _) _
    have e : cpM m W i = m := by have := cpM_all m W; rwa [HLm.out] at this
    rw [e] at ht
    exact Lib.hid ⟨⟨⟨G, ht.kept hbA⟩, below_then hb hbA⟩, [], ownsRow_base (World.ownsRow_lit wr #[] 0 (Nat.le_refl _) (by simp [maxLen]) rfl) hb.size⟩
   clear hI HT1
   go_wp2_with fail
   go_loopw [6, 7] (fun v x wr => ∃ c : Nat, c ≤ W ∧ x = .int .i64 (c : Int) ∧ Hid (RdI w gO cap i W m c v wr)) (fun _ x _ => W - (intOf x).toNat)
   case atStart => exact ⟨0, by omega, rfl, HI0⟩
   case round =>
    obtain ⟨cc, hcc, rfl, hI⟩ := hrel
    by_cases hcW : cc < W
    ·
     obtain ⟨⟨⟨G, ht⟩, hb⟩, xs, hown⟩ := hI.out
     have hkeep := red_keeps HRC.out cc
     have hnpl := red_np HRC.out cc
     rw [HLm.out] at hkeep hnpl
     have hnext := redS_pair m cc
     obtain ⟨M, hM⟩ : ∃ M, M = (red m cc).1 := ⟨_, rfl⟩
     obtain ⟨np, hnp⟩ : ∃ np, np = (red m cc).2 := ⟨_, rfl⟩
     rw [← hM] at ht hkeep hnext
     rw [← hnp] at hown hnpl hnext
     obtain ⟨A6, c6, rfl⟩ := own_slice hown
     have HC := Lib.hid (cols_any A i c m W wr (HM.out.kept hb) HRC.out hn)
     have HT := Lib.hid ht
     have HB := Lib.hid hb
     have HOW := Lib.hid hown
     have HNX := Lib.hid hnext
     have HMR := Lib.hid hkeep.1
     have HML := Lib.hid hkeep.2
     have hnp64 : (np : Int) ≤ 64 := by omega
     clear ht hb hown hnext hkeep hM hnp hI HI0
     go_wp2_with fail
     refine HC.out.mono ?_
     rintro e w' ⟨rfl, rfl⟩
     clear HC
     go_wp2_with fail
     go_loop [9] (fun x => ∃ p : Nat, np ≤ p ∧ p ≤ i ∧ x = .int .i64 (p : Int) ∧ Hid (∀ j, np ≤ j → j < p → gB (gR M j) cc = 0)) (fun x => i - (intOf x).toNat)
     case atStart => exact ⟨np, Nat.le_refl _, hnpl, rfl, Lib.hid (fun j h1 h2 => absurd h2 (by omega))⟩
     case round =>
      obtain ⟨p, hp1, hp2, rfl, hz⟩ := hrel
      by_cases hpn : p < i
      ·
       have x1 := HT.out.cell hpn
       obtain ⟨b, hbd⟩ : ∃ b, b = gB (gR M p) cc := ⟨_, rfl⟩
       have x2 := HT.out.at_ hpn hcW
       rw [← hbd] at x2
       cases hb0 : b == 0 with
       | true =>
        have HZ : Hid (∀ j, np ≤ j → j < p + 1 → gB (gR M j) cc = 0) := Lib.hid (fun j h1 h2 => by
         by_cases e : j = p
         ·
          rw [e, ← hbd]; simpa using hb0
         ·
          exact hz.out j h1 (by omega))
        clear hbd hz
        go_wp2_with fail
        go_round
        case rel => exact ⟨p + 1, by omega, by omega, by go_num, HZ⟩
        case measure => simp [intOf]; omega
       | false =>
        have hne : gB (gR M p) cc ≠ 0 := by rw [← hbd]; simpa using hb0
        have HPV : Hid (pvF M np cc = some p) := Lib.hid (pvF_some hp1 (by rw [HML.out]; exact hpn) hne hz.out)
        have q1 : ((p : Int) == (i : Int)) = false := by simp; omega
        clear hbd hz hne
        have hnpi : np < i := by omega
        have y1 := HT.out.cell hnpi
        have f1 := HT.out.outFrozen np
        go_wp2_with fail
        refine Text.wp_region_text (fun _ => True) [(0, 4), (1, 4), (2, 4), (3, 4), (4, 4), (5, 4), (6, 4), (8, 4), (9, 4), (10, 4), (7, 1), (11, 1), (12, 4), (13, 2), (14, 4), (15, 2)] (by kernel_rfl) (by kernel_rfl) (fun _ _ _ _ _ h => h) (trivial) ?_
        iterate 10 (refine Text.purek rfl rfl (fun K hK => ⟨_, fun w' => by go_simp <;> rfl, ?_⟩); go_simp; refine hK _ ?_; clear hK K)
        iterate 2 (refine Text.readk rfl rfl (fun K hK => ⟨_, by go_simp <;> rfl, ?_⟩); go_simp; refine hK _ ?_; clear hK K)
        (refine Text.purek rfl rfl (fun K hK => ⟨_, fun w' => by go_simp <;> rfl, ?_⟩); go_simp; refine hK _ ?_; clear hK K)
        refine Text.eff rfl rfl (fun K hK => ?_)
        go_simp
        obtain ⟨wS, hwS⟩ : ∃ wS, wS = wr.setCell ⟨gO, np, none⟩ (.slice (some ⟨G p, 0, none⟩) W W) := ⟨_, rfl⟩
        obtain ⟨u, z1, z2⟩ : ∃ u, wS.cell? ⟨gO, p, none⟩ = some u ∧ wS.frozen? ⟨gO, p, none⟩ = false := by
         obtain ⟨cur, hB0, hcap, hsz, _⟩ := HT.out.outer
         have hB1 := hB0.set_ np (.slice (some ⟨G p, 0, none⟩) W W)
         rw [← hwS] at hB1
         exact ⟨_, by rw [hB1.cell]; exact Array.getElem?_eq_getElem (by simp; omega), hB1.frozen p⟩
        rw [← hwS]
        have HWS := Lib.hid hwS
        clear hwS
        refine hK _ _ trivial ?_
        clear hK K
        (refine Text.purek rfl rfl (fun K hK => ⟨_, fun w' => by go_simp <;> rfl, ?_⟩); go_simp; refine hK _ ?_; clear hK K)
        refine Text.eff rfl rfl (fun K hK => ?_)
        go_simp
        obtain ⟨wT, hwT⟩ : ∃ wT, wT = (wS.setCell ⟨gO, p, none⟩ (.slice (some ⟨G np, 0, none⟩) W W)).drew := ⟨_, rfl⟩
        obtain ⟨G2, hG2⟩ : ∃ G2 : Nat → Nat, G2 = fun k => G (if k = p then np else if k = np then p else k) := ⟨_, rfl⟩
        obtain ⟨S, hS⟩ : ∃ S, S = swp M np p := ⟨_, rfl⟩
        have HT2 : Hid (Tab wT w.heap.size gO cap i W G2 S) := Lib.hid (by rw [hwT, HWS.out, hG2, hS]; exact (HT.out.swap hnpi hpn).drew)
        have HB2 : Hid (Below w.heap.size w wT) := Lib.hid (by
         rw [hwT, HWS.out]
         exact ((HB.out.setCell (p := ⟨gO, np, none⟩) HT.out.old.1 _).setCell (p := ⟨gO, p, none⟩) HT.out.old.1 _).drew)
        have HOW2 : Hid (wT.ownsRow w.heap.size 3 1 (.slice A6 np c6) np xs) := Lib.hid (by
         obtain ⟨cur, hB0, _⟩ := HT.out.outer
         have h1 := own_far (k := np) HOW.out hB0 (by decide) (.slice (some ⟨G p, 0, none⟩) W W)
         have h2 := own_far (k := p) h1 (hB0.set_ np _) (by decide) (.slice (some ⟨G np, 0, none⟩) W W)
         rw [hwT, HWS.out]
         exact h2)
        have HNXT : Hid (red m (cc + 1) = (clr S np cc i, np + 1)) := Lib.hid (by rw [HNX.out, redS_some HPV.out, hS, HML.out])
        have HSL : Hid (S.length = i) := Lib.hid HT2.out.len
        have HSR : Hid (Rect S W) := Lib.hid HT2.out.rect
        rw [← hwT]
        refine hK _ _ trivial ?_
        clear hK K z1 z2 HWS hwT hG2 hS x1 x2 y1 f1 HT HB HOW HNX HMR HML HPV wS
        refine Text.done ?_
        have y1 := HT2.out.cell hnpi
        have y2 := HT2.out.at_ hnpi hcW
        obtain ⟨f, hf⟩ : ∃ f, f = inv (gB (gR S np) cc) := ⟨_, rfl⟩
        have HF := Lib.hid hf
        have HCI : Hid (Calls Tryz.prog 120 #[B (gB (gR S np) cc)] wT fun e w' => e = .returned (B f) ∧ wT = w') := Lib.hid (by rw [hf]; exact rinv_any _ _)
        clear hf
        go_wp2_with fail
        refine HCI.out.mono ?_
        rintro e w' ⟨rfl, rfl⟩
        have HPL : Hid ((prow S np cc).length = (gR S np).length) := Lib.hid (prow_length _ _ _)
        have HSW : Hid ((gR S np).length = W) := Lib.hid (HSR.out np (by rw [HSL.out]; exact hnpi))
        have HPG : Hid (∀ k, k < W → gB (prow S np cc) k = mul (gB (gR S np) k) f) := Lib.hid (fun k hk => by
         rw [HF.out, mul_comm, prow]
         generalize inv (gB (gR S np) cc) = q
         have := HSW.out
         rw [gB_eq (by simp; omega), gB_eq (by omega)]; simp)
        have HJ0 : Hid (TJ w gO cap i W (S.set np (blend (prow S np cc) (gR S np) 0)) (.slice A6 np c6) np wT) := Lib.hid (by
         rw [blend_zero]
         have e : S.set np (gR S np) = S := by
          have := HSL.out
          rw [gR_eq (by omega)]; simp
         rw [e]
         exact ⟨G2, xs, HT2.out, HB2.out, HOW2.out⟩)
        clear y1 y2 HCI HT2 HB2 HOW2
        go_wp2_with fail
        go_loopw [11] (fun x wr => ∃ k : Nat, k ≤ W ∧ x = .int .i64 (k : Int) ∧ Hid (TJ w gO cap i W (S.set np (blend (prow S np cc) (gR S np) k)) (.slice A6 np c6) np wr)) (fun x _ => W - (intOf x).toNat)
        case atStart => exact ⟨0, by omega, rfl, HJ0⟩
        case round =>
         obtain ⟨k, hk, rfl, hJ⟩ := hrel
         obtain ⟨G3, xs3, ht, hb, hown⟩ := hJ.out
         have y1 := ht.cell hnpi
         by_cases hkW : k < W
         ·
          obtain ⟨xk, hxk⟩ : ∃ xk, xk = gB (gR S np) k := ⟨_, rfl⟩
          have hrow : gR (S.set np (blend (prow S np cc) (gR S np) k)) np = blend (prow S np cc) (gR S np) k := gR_set_self (by rw [HSL.out]; exact hnpi) _
          have y2 := ht.at_ hnpi hkW
          rw [hrow, blend_get HPL.out (by rw [HSW.out]; exact hkW), ← hxk] at y2
          have y3 := ht.frozen hnpi k
          have HR : Hid (TJ w gO cap i W (S.set np (blend (prow S np cc) (gR S np) (k + 1))) (.slice A6 np c6) np (wr.setCell ⟨G3 np, k, none⟩ (B (mul xk f))).drew) := Lib.hid (TJ.put ht hb hown hnpi k (mul xk f) (by
           rw [hrow, List.set_set, hxk, ← HPG.out k hkW, blend_set HPL.out (by rw [HSW.out]; exact hkW)]))
          clear ht hb hown hJ hrow hxk HJ0
          go_wp2_with fail
          refine Text.wp_region_text (fun _ => True) [(0, 4), (1, 4), (2, 4), (4, 4), (5, 4), (6, 4), (7, 4), (9, 4), (12, 4), (3, 1), (8, 1), (10, 4), (11, 1), (13, 1), (14, 4), (15, 2)] (by kernel_rfl) (by kernel_rfl) (fun _ _ _ _ _ h => h) (trivial) ?_
          iterate 9 (refine Text.purek rfl rfl (fun K hK => ⟨_, fun w' => by go_simp <;> rfl, ?_⟩); go_simp; refine hK _ ?_; clear hK K)
          iterate 2 (refine Text.readk rfl rfl (fun K hK => ⟨_, by go_simp <;> rfl, ?_⟩); go_simp; refine hK _ ?_; clear hK K)
          (refine Text.purek rfl rfl (fun K hK => ⟨_, fun w' => by go_simp <;> rfl, ?_⟩); go_simp; refine hK _ ?_; clear hK K)
          (refine Text.readk rfl rfl (fun K hK => ⟨_, by go_simp <;> rfl, ?_⟩); go_simp; refine hK _ ?_; clear hK K)
          refine Text.quietk rfl rfl (fun K hK => ?_)
          refine ⟨_, _, _, by go_simp <;> rfl, rmul_any xk f _, ?_⟩
          go_simp
          refine hK _ ?_
          clear hK K
          (refine Text.purek rfl rfl (fun K hK => ⟨_, fun w' => by go_simp <;> rfl, ?_⟩); go_simp; refine hK _ ?_; clear hK K)
          refine Text.eff rfl rfl (fun K hK => ?_)
          go_simp
          refine hK _ _ trivial ?_
          clear hK K
          refine Text.done ?_
          go_wp2_with fail
          go_roundw
          case rel => exact ⟨k + 1, by omega, by go_num, HR⟩
          case measure => simp [intOf]; omega
         ·
          obtain rfl : k = W := by omega
          have HJ1 : Hid (TJ w gO cap i k (clr S np cc 0) (.slice A6 np c6) np wr) := Lib.hid (by
           rw [← clr_zero S np cc (by rw [HSL.out]; exact hnpi)]
           have := hJ.out
           rwa [blend_all HPL.out (by rw [HSW.out]; exact Nat.le_refl _)] at this)
          clear ht hb hown hJ HJ0
          go_wp2_with fail
          go_loopw [12] (fun x wr => ∃ r : Nat, r ≤ i ∧ x = .int .i64 (r : Int) ∧ Hid (TJ w gO cap i k (clr S np cc r) (.slice A6 np c6) np wr)) (fun x _ => i - (intOf x).toNat)
          case atStart => exact ⟨0, by omega, rfl, HJ1⟩
          case round =>
           obtain ⟨r, hr, rfl, hJ⟩ := hrel
           by_cases hri : r < i
           ·
            obtain ⟨G3, xs3, ht, hb, hown⟩ := hJ.out
            have y1 := ht.cell hri
            have y2 := ht.at_ hri hcW
            by_cases hrt : r = np
            ·
             have HR : Hid (TJ w gO cap i k (clr S np cc (r + 1)) (.slice A6 np c6) np wr) := Lib.hid (by rw [← clr_skip S np cc r (.inl hrt)]; exact hJ.out)
             have q1 : ((r : Int) != (np : Int)) = false := by simp [hrt]
             obtain ⟨b2, hb2⟩ : ∃ b2, b2 = gB (gR (clr S np cc r) r) cc := ⟨_, rfl⟩
             rw [← hb2] at y2
             clear ht hb hown hJ HJ1 hrt hb2
             go_wp2_with fail
             go_loopw [14] (fun x wr' => x = .int .i64 0 ∧ Hid (TJ w gO cap i k (clr S np cc (r + 1)) (.slice A6 np c6) np wr')) (fun _ _ => 0)
             case atStart => exact ⟨rfl, HR⟩
             case round =>
              obtain ⟨rfl, hR⟩ := hrel
              go_wp2_with fail
              go_roundw
              case rel => exact ⟨r + 1, by omega, by go_num, hR⟩
              case measure => simp [intOf]; omega
            ·
             have hrS : gR (clr S np cc r) r = gR S r := by rw [clr_get _ _ _ _ _ (by rw [HSL.out]; exact hri), clrow, if_neg hrt, if_neg (fun h => absurd h.1 (by omega))]
             have HPT : Hid (gR (clr S np cc r) np = prow S np cc) := Lib.hid (by rw [clr_get _ _ _ _ _ (by rw [HSL.out]; exact hnpi), clrow, if_pos rfl])
             obtain ⟨P, hP⟩ : ∃ P, P = prow S np cc := ⟨_, rfl⟩
             obtain ⟨g, hg⟩ : ∃ g, g = gB (gR S r) cc := ⟨_, rfl⟩
             rw [hrS, ← hg] at y2
             have q1 : ((r : Int) != (np : Int)) = true := by simp; omega
             have HRW : Hid ((gR S r).length = k) := Lib.hid (HSR.out r (by rw [HSL.out]; exact hri))
             have HPW : Hid (P.length = k) := Lib.hid (by rw [hP, HPL.out, HSW.out])
             have HML6 : Hid ((muladd (gR S r) P g).length = (gR S r).length) := Lib.hid (by rw [muladd_length _ _ _ (by rw [HRW.out, HPW.out]), HPW.out, HRW.out])
             have HJ6 : Hid (TJ w gO cap i k ((clr S np cc r).set r (blend (muladd (gR S r) P g) (gR S r) 0)) (.slice A6 np c6) np wr) := Lib.hid (by
              rw [blend_zero, ← hrS]
              have hl := clr_length S np cc r
              have h2 := HSL.out
              have e : (clr S np cc r).set r (gR (clr S np cc r) r) = clr S np cc r := by rw [gR_eq (by omega)]; simp
              rw [e]
              exact hJ.out)
             have HEND : Hid ((clr S np cc r).set r (muladd (gR S r) P g) = clr S np cc (r + 1)) := Lib.hid (by rw [hP, hg]; exact clr_put HSR.out (by rw [HSL.out]; exact hnpi) (by rw [HSL.out]; exact hri) hrt)
             rw [← hP] at HPT
             have HRT := Lib.hid hrt
             have HCL : Hid ((clr S np cc r).length = i) := Lib.hid (by rw [clr_length, HSL.out])
             clear ht hb hown hJ HJ1 hrt hP hg hrS
             go_wp2_with fail
             obtain ⟨wo, rfl⟩ : ∃ wo : World, wo = wr := ⟨_, rfl⟩
             go_loopw [14] (fun x wr => ∃ y : Nat, y ≤ k ∧ x = .int .i64 (y : Int) ∧ Hid (TJ w gO cap i k ((clr S np cc r).set r (blend (muladd (gR S r) P g) (gR S r) y)) (.slice A6 np c6) np wr)) (fun x _ => k - (intOf x).toNat)
             case atStart => exact ⟨0, by omega, rfl, HJ6⟩
             case round =>
              obtain ⟨y, hy, rfl, hJ7⟩ := hrel
              obtain ⟨G4, xs4, ht, hb, hown⟩ := hJ7.out
              have z1 := ht.cell hri
              have z3 := ht.cell hnpi
              by_cases hyk : y < k
              ·
               have hrow : gR ((clr S np cc r).set r (blend (muladd (gR S r) P g) (gR S r) y)) r = blend (muladd (gR S r) P g) (gR S r) y := gR_set_self (by rw [HCL.out]; exact hri) _
               obtain ⟨xa, hxa⟩ : ∃ xa, xa = gB (gR S r) y := ⟨_, rfl⟩
               obtain ⟨xb, hxb⟩ : ∃ xb, xb = gB P y := ⟨_, rfl⟩
               have z2 := ht.at_ hri hyk
               rw [hrow, blend_get HML6.out (by rw [HRW.out]; exact hyk), ← hxa] at z2
               have z4 := ht.at_ hnpi hyk
               rw [gR_set_ne HRT.out, HPT.out, ← hxb] at z4
               have z5 := ht.frozen hri y
               have HR : Hid (TJ w gO cap i k ((clr S np cc r).set r (blend (muladd (gR S r) P g) (gR S r) (y + 1))) (.slice A6 np c6) np (wr.setCell ⟨G4 r, y, none⟩ (B (xa ^^^ mul g xb))).drew) := Lib.hid (TJ.put ht hb hown hri y (xa ^^^ mul g xb) (by
                have e : xa ^^^ mul g xb = gB (muladd (gR S r) P g) y := by rw [gB_muladd (by rw [HRW.out, HPW.out]) (by rw [HPW.out]; exact hyk), ← hxa, ← hxb, xor_comm]
                rw [hrow, List.set_set, e, blend_set HML6.out (by rw [HRW.out]; exact hyk)]))
               clear ht hb hown hJ7 hrow hxa hxb HJ6
               go_wp2_with fail
               refine Text.wp_region_text (fun _ => True) [(0, 4), (1, 4), (2, 4), (4, 4), (5, 4), (6, 4), (7, 4), (9, 4), (12, 4), (13, 4), (14, 4), (15, 4), (17, 4), (3, 1), (8, 1), (10, 4), (11, 1), (16, 1), (18, 4), (19, 1), (20, 1), (21, 4), (22, 4), (23, 2)] (by kernel_rfl) (by kernel_rfl) (fun _ _ _ _ _ h => h) (trivial) ?_
               iterate 13 (refine Text.purek rfl rfl (fun K hK => ⟨_, fun w' => by go_simp <;> rfl, ?_⟩); go_simp; refine hK _ ?_; clear hK K)
               iterate 2 (refine Text.readk rfl rfl (fun K hK => ⟨_, by go_simp <;> rfl, ?_⟩); go_simp; refine hK _ ?_; clear hK K)
               (refine Text.purek rfl rfl (fun K hK => ⟨_, fun w' => by go_simp <;> rfl, ?_⟩); go_simp; refine hK _ ?_; clear hK K)
               iterate 2 (refine Text.readk rfl rfl (fun K hK => ⟨_, by go_simp <;> rfl, ?_⟩); go_simp; refine hK _ ?_; clear hK K)
               (refine Text.purek rfl rfl (fun K hK => ⟨_, fun w' => by go_simp <;> rfl, ?_⟩); go_simp; refine hK _ ?_; clear hK K)
               (refine Text.readk rfl rfl (fun K hK => ⟨_, by go_simp <;> rfl, ?_⟩); go_simp; refine hK _ ?_; clear hK K)
               refine Text.quietk rfl rfl (fun K hK => ?_)
               refine ⟨_, _, _, by go_simp <;> rfl, rmul_any g xb _, ?_⟩
               go_simp
               refine hK _ ?_
               clear hK K
               iterate 2 (refine Text.purek rfl rfl (fun K hK => ⟨_, fun w' => by go_simp <;> rfl, ?_⟩); go_simp; refine hK _ ?_; clear hK K)
               refine Text.eff rfl rfl (fun K hK => ?_)
               go_simp
               refine hK _ _ trivial ?_
               clear hK K
               refine Text.done ?_
               go_wp2_with fail
               go_roundw
               case rel => exact ⟨y + 1, by omega, by go_num, HR⟩
               case measure => simp [intOf]; omega
              ·
               obtain rfl : y = k := by omega
               have HR : Hid (TJ w gO cap i y (clr S np cc (r + 1)) (.slice A6 np c6) np wr) := Lib.hid (by
                rw [← HEND.out]
                have := hJ7.out
                rwa [blend_all HML6.out (by rw [HRW.out]; exact Nat.le_refl _)] at this)
               clear ht hb hown hJ7 HJ6
               go_wp2_with fail
               go_roundw
               case rel => exact ⟨r + 1, by omega, by go_num, HR⟩
               case measure => simp [intOf]; omega
           ·
            obtain rfl : r = i := by omega
            obtain ⟨G3, xs3, ht, hb, hown⟩ := hJ.out
            have hbA : Below wr.heap.size wr (wr.alloc (.cells #[.int .i64 (cc : Int)] 3)) := (Below.refl _ _).alloc (Nat.le_refl _) _
            have HOA := Lib.hid (Kp.own (S := fun _ => False) (Kp.of_below hbA) hown (fun _ _ => id))
            have HTA := Lib.hid (ht.kept hbA)
            have HBA := Lib.hid (below_then hb hbA)
            clear ht hb hown hJ HJ1 hbA
            go_wp2_with (first
             | (at_builtin; refine wpList_app1 _ rfl (.tmp 161) (.tmp 163) 52 3 (.int .i64 0) 8 Tryz.underlying52 infoInt rfl rfl w.heap.size _ np xs3 rfl HOA.out wr.heap.size 1 3 (.int .i64 (cc : Int)) rfl (Blk.new wr _ _) rfl (by omega) (by omega) HBA.out.size ?_; intro v8 w8 hp8))
            have HR : Hid (RdI w gO cap r k m (cc + 1) v8 w8) := by
             have hK8 : Kp (fun b => (Value.slice A6 np c6).ownBlock = some b) (wr.alloc (.cells #[.int .i64 (cc : Int)] 3)) w8 := (Kp.refl _ _).grown hp8.2.1 (fun _ e => .inl e)
             obtain ⟨cur, hB0, h9⟩ := HTA.out.outer
             refine Lib.hid ⟨⟨⟨G3, ?_⟩, HBA.out.grown hp8.2.1 HBA.out.size (fun b hb' => own_base HOA.out b hb')⟩, _, by rw [HNXT.out]; exact hp8.1⟩
             rw [HNXT.out]
             exact ⟨HTA.out.len, HTA.out.rect, ⟨cur, hK8.blk hB0 (own_ne (e := 3) HOA.out hB0 (by decide)), h9⟩, fun a ha => hK8.blk (HTA.out.rows a ha) (own_ne (e := 3) HOA.out (HTA.out.rows a ha) (by decide)), HTA.out.inj, HTA.out.far, HTA.out.old⟩
            clear hp8
            go_roundw
            case rel => exact ⟨cc + 1, by omega, by go_num, HR⟩
            case measure => simp [intOf]; omega
      ·
       obtain rfl : p = i := by omega
       have HPV : Hid (pvF M np cc = none) := Lib.hid (pvF_none (fun j h1 h2 => hz.out j h1 (by rw [HML.out] at h2; exact h2)))
       have HR : Hid (RdI w gO cap p W m (cc + 1) (.slice A6 np c6) wr) := Lib.hid (by
        unfold RdI
        rw [HNX.out, redS_none HPV.out]
        exact ⟨⟨⟨G, HT.out⟩, HB.out⟩, xs, HOW.out⟩)
       have q1 : ((p : Int) == (p : Int)) = true := by simp
       clear hz HNX
       go_wp2_with fail
       go_roundw
       case rel => exact ⟨cc + 1, by omega, by go_num, HR⟩
       case measure => simp [intOf]; omega
    ·
     obtain rfl : cc = W := by omega
     have HC := Lib.hid (cols_any A i c m cc wr (HM.out.kept hI.out.1.2) HRC.out hn)
     have HR := Lib.hid hI.out.1
     clear hI HI0
     go_wp2_with fail
     refine HC.out.mono ?_
     rintro e w' ⟨rfl, rfl⟩
     go_wp2_with fail
     go_ret2
     exact ⟨gO, cap, _, rfl, HR.out⟩
end Go.Proofs.YtfcakjpljjnjnaaGreatDoor
