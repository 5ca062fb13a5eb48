/- Several texts in one: Mt5, Mt6. -/
import Derived.Test.YtgjgofjabdjclaaDoorA27
import Derived.Test.YtgjgofjabdjclaaDoorA22
import Derived.Test.YtgjgofjabdjclaaDoorA25
import Derived.OwnWalk
/- Contracts of the reference's Root, path, Path. -/
namespace Go.Proofs.YtgjgofjabdjclaaDoor
open Go Go.RowKit Gf Sha

theorem TS.suf {w : World} {g o n c : Nat} {m : List (List UInt8)} (h : TS w (some ⟨g, o, none⟩) n c m) {k : Nat} (hk : k ≤ n) : TS w (some ⟨g, o + k, none⟩) (n - k) (c - k) (m.drop k) := by
  refine ⟨by rw [List.length_drop, h.1], by have := h.2.1; omega, by have := h.2.2.1; omega, fun j hj => ?_⟩
  obtain ⟨g', o', e, hc⟩ := h.2.2.2 (k + j) (by omega)
  cases e
  refine ⟨g, o + k, rfl, ?_⟩
  have e2 : gR (m.drop k) j = gR m (k + j) := by
    have hl := h.1
    rw [gR_eq (by rw [List.length_drop]; omega), gR_eq (by omega), List.getElem_drop]
  show w.cell? ⟨g, o + k + j, none⟩ = some (.string (strB (gR (m.drop k) j)))
  rw [e2, Nat.add_assoc]
  exact hc
theorem TS.form {w : World} {A : Option Addr} {n c : Nat} {m : List (List UInt8)} (h : TS w A n c m) (hn : 0 < n) : ∃ g o, A = some ⟨g, o, none⟩ := by
  obtain ⟨g, o, e, _⟩ := h.2.2.2 0 hn
  exact ⟨g, o, e⟩

set_option maxRecDepth 100000 in
set_option maxHeartbeats 4000000 in
theorem rroot_any : ∀ (q n : Nat) (A : Option Addr) (c : Nat) (L : List (List UInt8)) (w : World), n ≤ q → TS w A n c L → 1 ≤ n → n ≤ 250 → Lv L →
    Calls Tryd.prog 128 #[.slice A n c] w fun e w' => e = .returned (.string (strB (rt L))) ∧ Below w.heap.size w w' := by
  intro q
  induction q with
  | zero => intro n A c L w hq _ h1; omega
  | succ q ih =>
    intro n A c L w hq h h1 hn hv
    have H := Lib.hid h
    have IH := Lib.hid ih
    have hcn : n ≤ c := h.2.1
    have HLN := Lib.hid h.1
    by_cases hn1 : n = 1
    · subst hn1
      obtain ⟨g, o, rfl, q0⟩ := h.2.2.2 0 (by omega)
      have HR := Lib.hid (rt_one h.1)
      replace q0 : w.cell? ⟨g, o + 0, none⟩ = some (.string (strB (gR L 0))) := q0
      rw [Nat.add_zero, ← HR.out] at q0
      obtain ⟨R, hR⟩ : ∃ R, R = rt L := ⟨_, rfl⟩
      rw [← hR] at q0 ⊢
      clear h ih hR
      go_enter Tryd.func128, Tryd.ntmps128
      go_wp2_with fail
      go_ret
      exact ⟨rfl, Below.refl _ _⟩
    · obtain ⟨s1, s2, s3, _, _⟩ := spl_parts (n := n) (by omega) (by omega)
      obtain ⟨g, o, rfl⟩ := h.form (by omega)
      have e0 : ((n : Int) == 0) = false := by rw [beq_eq_false_iff_ne]; omega
      have e1 : ((n : Int) == 1) = false := by rw [beq_eq_false_iff_ne]; omega
      have hRT := rt_two (L := L) (by rw [h.1]; omega) (by rw [h.1]; omega)
      rw [h.1] at hRT
      obtain ⟨k, hk⟩ : ∃ k, k = spl n := ⟨_, rfl⟩
      rw [← hk] at s1 s2 s3 hRT
      have HKS := Lib.hid hk.symm
      have HP1 := Lib.hid (h.pre (k := k) (by omega))
      have HP2 := Lib.hid (h.suf (k := k) (by omega))
      obtain ⟨R1, hR1⟩ : ∃ R, R = rt (L.take k) := ⟨_, rfl⟩
      obtain ⟨R2, hR2⟩ : ∃ R, R = rt (L.drop k) := ⟨_, rfl⟩
      have HL1 : Hid (R1.length ≤ 1000) := Lib.hid (by
        rw [hR1, rt_length (hv.take k) (by rw [List.length_take, h.1]; omega) (by rw [List.length_take, h.1]; omega)]; decide)
      have HL2 : Hid (R2.length ≤ 1000) := Lib.hid (by
        rw [hR2, rt_length (hv.drop k) (by rw [List.length_drop, h.1]; omega) (by rw [List.length_drop, h.1]; omega)]; decide)
      rw [← hR1, ← hR2] at hRT
      rw [hRT]
      have HR1 := Lib.hid hR1.symm
      have HR2 := Lib.hid hR2.symm
      have hkn : k ≤ n := by omega
      have hkc : k ≤ c := by omega
      have hck : ¬ c = k := by omega
      have hck2 : (k : Int) ≤ (n : Int) := by omega
      have hck3 : (k : Int) ≤ (c : Int) := by omega
      clear h ih hk hR1 hR2 hRT
      go_enter Tryd.func128, Tryd.ntmps128
      go_wp2_with (go_at_call 126; refine (rsplit_any n _ (by omega) (by omega)).mono ?_; rintro e w1 ⟨rfl, hw⟩; rw [hw]; clear hw w1; rw [HKS.out])
      refine Text.wp_region_text (fun _ => True) [(0, 4), (1, 4), (2, 4), (4, 4), (5, 4), (6, 4), (3, 2), (7, 2), (8, 2), (9, 4)] (by kernel_rfl) (by kernel_rfl) (fun _ _ _ _ _ h => h) (trivial) ?_
      iterate 6 (refine Text.purek rfl rfl (fun K hK => ⟨_, fun w' => by go_simp <;> rfl, ?_⟩); go_simp; refine hK _ ?_; clear hK K)
      refine Text.eff rfl rfl (fun K hK => ?_)
      go_simp
      refine (IH.out k _ c _ _ (by omega) HP1.out.drew s1 (by omega) (hv.take k)).mono ?_
      rintro e w2 ⟨rfl, b1⟩
      rw [HR1.out]
      have HB2 : Hid (Below w.heap.size w w2) := Lib.hid (below_ofDrew b1)
      refine hK _ _ trivial ?_
      clear hK K b1
      refine Text.eff rfl rfl (fun K hK => ?_)
      go_simp
      refine (IH.out (n - k) _ (c - k) _ w2 (by omega) (HP2.out.kept HB2.out) (by omega) (by omega) (hv.drop k)).mono ?_
      rintro e w3 ⟨rfl, b1⟩
      rw [HR2.out]
      have HB3 := Lib.hid (below_then HB2.out b1)
      refine hK _ _ trivial ?_
      clear hK K b1
      refine Text.eff rfl rfl (fun K hK => ?_)
      go_simp
      refine (rnode_any R1 R2 w3 HL1.out HL2.out).mono ?_
      rintro e w4 ⟨rfl, b1⟩
      have HB4 := Lib.hid (below_then HB3.out b1)
      refine hK _ _ trivial ?_
      clear hK K b1
      (refine Text.purek rfl rfl (fun K hK => ⟨_, fun w' => by go_simp <;> rfl, ?_⟩); go_simp; refine hK _ ?_; clear hK K)
      refine Text.done ?_
      go_wp2_with fail
      go_ret
      exact ⟨rfl, HB4.out⟩

set_option maxRecDepth 100000 in
set_option maxHeartbeats 4000000 in
theorem rpth_any : ∀ (q n i : Nat) (A : Option Addr) (c : Nat) (L : List (List UInt8)) (w : World), n ≤ q → i < n → TS w A n c L → 1 ≤ n → n ≤ 250 → Lv L →
    Calls Tryd.prog 118 #[.slice A n c, .int .i64 (i : Int)] w (PthR (pth L i).reverse w) := by
  intro q
  induction q with
  | zero => intro n i A c L w hq _ _ h1; omega
  | succ q ih =>
    intro n i A c L w hq hi h h1 hn hv
    have H := Lib.hid h
    have IH := Lib.hid ih
    have hcn : n ≤ c := h.2.1
    have HLN := Lib.hid h.1
    by_cases hn1 : n = 1
    · subst hn1
      rw [pth_one h.1]
      clear h ih
      go_enter Tryd.func118, Tryd.ntmps118
      go_wp2_with ((with_reducible show wpList _ _ _ (⟨some 9, _, _, _, _, _⟩ :: _) _ _); refine wpList_bslice _ rfl 61 9 0 _ rfl #[] (by rw [List.map_toArray]; rfl) [] (bsl0S _) ?_; intro w1 a1 a2 a3; have HG1 := Lib.hid a1; have HB1 := Lib.hid a2; clear a1 a2 a3)
      go_ret
      exact ⟨_, rfl, ⟨RW.of_blk HG1.out rfl (by decide), fun b hb => by cases hb; exact Nat.le_refl _⟩, HB1.out⟩
    · obtain ⟨s1, s2, s3, _, _⟩ := spl_parts (n := n) (by omega) (by omega)
      obtain ⟨g, o, rfl⟩ := h.form (by omega)
      have e1 : ((n : Int) == 1) = false := by rw [beq_eq_false_iff_ne]; omega
      rw [pth_two (L := L) (by rw [h.1]; omega) (by rw [h.1]; omega), h.1]
      obtain ⟨k, hk⟩ : ∃ k, k = spl n := ⟨_, rfl⟩
      rw [← hk] at s1 s2 s3 ⊢
      have HKS := Lib.hid hk.symm
      have HP1 := Lib.hid (h.pre (k := k) (by omega))
      have HP2 := Lib.hid (h.suf (k := k) (by omega))
      have l1 : (L.take k).length = k := by rw [List.length_take, h.1]; omega
      have l2 : (L.drop k).length = n - k := by rw [List.length_drop, h.1]
      have hkn : k ≤ n := by omega
      have hkc : k ≤ c := by omega
      have hck : ¬ c = k := by omega
      have hck2 : (k : Int) ≤ (n : Int) := by omega
      have hck3 : (k : Int) ≤ (c : Int) := by omega
      clear h ih
      by_cases hlt : i < k
      · rw [if_pos hlt]
        obtain ⟨P, hP⟩ : ∃ P, P = pth (L.take k) i := ⟨_, rfl⟩
        have HLP : Hid (P.length ≤ 250) := Lib.hid (by
          rw [hP]
          have h9 := pth_length (L := (L.take k)) (by rw [l1]; omega) (by rw [l1]; omega) i (by rw [l1]; omega)
          rw [l1] at h9
          omega)
        rw [← hP]
        have HP := Lib.hid hP.symm
        obtain ⟨R, hR⟩ : ∃ R, R = rt (L.drop k) := ⟨_, rfl⟩
        rw [← hR]
        have HR := Lib.hid hR.symm
        clear hP hR hk s3
        go_enter Tryd.func118, Tryd.ntmps118
        go_wp2_with (go_at_call 126; refine (rsplit_any n _ (by omega) (by omega)).mono ?_; rintro e w1 ⟨rfl, hw⟩; rw [hw]; clear hw w1; rw [HKS.out])
        refine Text.wp_region_text (fun _ => True) [(0, 4), (1, 4), (2, 4), (3, 4), (5, 4), (6, 4), (7, 4), (4, 2), (8, 2), (9, 2), (10, 2), (11, 4)] (by kernel_rfl) (by kernel_rfl) (fun _ _ _ _ _ h => h) (trivial) ?_
        iterate 7 (refine Text.purek rfl rfl (fun K hK => ⟨_, fun w' => by go_simp <;> rfl, ?_⟩); go_simp; refine hK _ ?_; clear hK K)
        refine Text.eff rfl rfl (fun K hK => ?_)
        go_simp
        refine (IH.out k i _ c _ _ (by omega) (by omega) HP1.out.drew (by omega) (by omega) (hv.take k)).mono ?_
        rintro e w2 ⟨v2, rfl, o2, b1⟩
        rw [HP.out] at o2
        rw [List.length_reverse] at o2
        have HO2 : Hid (OwnS w2 w.heap.size v2 P.length P.reverse) := Lib.hid o2
        have HB2 : Hid (Below w.heap.size w w2) := Lib.hid (below_ofDrew b1)
        refine hK _ _ trivial ?_
        clear hK K b1 o2
        refine Text.eff rfl rfl (fun K hK => ?_)
        go_simp
        refine (rroot_any (n - k) (n - k) _ (c - k) _ w2 (Nat.le_refl _) (HP2.out.kept HB2.out) (by omega) (by omega) (hv.drop k)).mono ?_
        rintro e w3 ⟨rfl, b1⟩
        rw [HR.out]
        have HX3 := Lib.hid b1
        have HB3 := Lib.hid (below_then HB2.out b1)
        refine hK _ _ trivial ?_
        clear hK K b1
        refine Text.eff rfl rfl (fun K hK => ?_)
        refine wp_bslice 61 9 1 _ rfl #[(0, .string (strB R))] (by rw [List.map_toArray]; rfl) [.string (strB R)] (bslS R _) ?_
        intro w4 a1 a2 a3
        have HG4 := Lib.hid a1
        have HX4 := Lib.hid (below_then HX3.out a2)
        have HB4 := Lib.hid (below_then HB3.out a2)
        refine hK _ _ trivial ?_
        clear hK K a1 a2 a3
        refine Text.eff rfl rfl (fun K hK => ?_)
        obtain ⟨iS, i1, i2, i3, i4⟩ := info_some infoStr
        refine wp_appRW _ (.tmp 20) (.tmp 25) 61 9 1 iS _ rfl Tryd.underlying61 i1 i2 i3 rfl v2 P.length _ rfl (HO2.out.1.kept HX4.out) w3.heap.size [.string (strB R)] rfl HG4.out rfl (one_st R) (by rw [i4]; have := HLP.out; omega) (by have := HLP.out; omega) ?_
        intro v5 w5 a1
        have HAP := Lib.hid a1
        refine hK _ _ trivial ?_
        clear hK K a1 i1 i2 i3 i4
        (refine Text.purek rfl rfl (fun K hK => ⟨_, fun w' => by go_simp <;> rfl, ?_⟩); go_simp; refine hK _ ?_; clear hK K)
        refine Text.done ?_
        go_wp2_with fail
        go_ret
        refine ⟨v5, rfl, ⟨?_, fun b hb => (HAP.out.own b hb).elim (fun h1 => HO2.out.2 b h1) (fun h1 => Nat.le_trans HB4.out.size h1)⟩, ?_⟩
        · have h9 := HAP.out.row
          rw [List.length_reverse, List.length_cons, List.reverse_cons, List.map_append]
          exact h9
        · exact ((Kp.of_below (S := fun _ => False) HB4.out).after HAP.out.kp (fun i hi e => by have := HO2.out.2 i e; omega)).below (Nat.le_refl _) (fun _ h => h.elim)
      · rw [if_neg hlt]
        obtain ⟨ik, hik⟩ : ∃ ik, ik = i - k := ⟨_, rfl⟩
        rw [← hik]
        have hikn : ik < n - k := by omega
        have ewk : IntKind.i64.wrap ((i : Int) - (k : Int)) = (ik : Int) := by rw [show (i : Int) - (k : Int) = (ik : Int) by omega]; exact wrapI _ (by omega)
        clear hik
        obtain ⟨P, hP⟩ : ∃ P, P = pth (L.drop k) ik := ⟨_, rfl⟩
        have HLP : Hid (P.length ≤ 250) := Lib.hid (by
          rw [hP]
          have h9 := pth_length (L := (L.drop k)) (by rw [l2]; omega) (by rw [l2]; omega) ik (by rw [l2]; omega)
          rw [l2] at h9
          omega)
        rw [← hP]
        have HP := Lib.hid hP.symm
        obtain ⟨R, hR⟩ : ∃ R, R = rt (L.take k) := ⟨_, rfl⟩
        rw [← hR]
        have HR := Lib.hid hR.symm
        clear hP hR hk s3
        go_enter Tryd.func118, Tryd.ntmps118
        go_wp2_with (go_at_call 126; refine (rsplit_any n _ (by omega) (by omega)).mono ?_; rintro e w1 ⟨rfl, hw⟩; rw [hw]; clear hw w1; rw [HKS.out])
        refine Text.wp_region_text (fun _ => True) [(0, 4), (1, 4), (2, 4), (3, 4), (4, 4), (5, 4), (7, 4), (8, 4), (9, 4), (6, 2), (10, 2), (11, 2), (12, 2), (13, 4)] (by kernel_rfl) (by kernel_rfl) (fun _ _ _ _ _ h => h) (trivial) ?_
        iterate 9 (refine Text.purek rfl rfl (fun K hK => ⟨_, fun w' => by go_simp <;> rfl, ?_⟩); go_simp; refine hK _ ?_; clear hK K)
        refine Text.eff rfl rfl (fun K hK => ?_)
        go_simp
        refine (IH.out (n - k) ik _ (c - k) _ _ (by omega) (by omega) HP2.out.drew (by omega) (by omega) (hv.drop k)).mono ?_
        rintro e w2 ⟨v2, rfl, o2, b1⟩
        rw [HP.out] at o2
        rw [List.length_reverse] at o2
        have HO2 : Hid (OwnS w2 w.heap.size v2 P.length P.reverse) := Lib.hid o2
        have HB2 : Hid (Below w.heap.size w w2) := Lib.hid (below_ofDrew b1)
        refine hK _ _ trivial ?_
        clear hK K b1 o2
        refine Text.eff rfl rfl (fun K hK => ?_)
        go_simp
        refine (rroot_any k k _ c _ w2 (Nat.le_refl _) (HP1.out.kept HB2.out) (by omega) (by omega) (hv.take k)).mono ?_
        rintro e w3 ⟨rfl, b1⟩
        rw [HR.out]
        have HX3 := Lib.hid b1
        have HB3 := Lib.hid (below_then HB2.out b1)
        refine hK _ _ trivial ?_
        clear hK K b1
        refine Text.eff rfl rfl (fun K hK => ?_)
        refine wp_bslice 61 9 1 _ rfl #[(0, .string (strB R))] (by rw [List.map_toArray]; rfl) [.string (strB R)] (bslS R _) ?_
        intro w4 a1 a2 a3
        have HG4 := Lib.hid a1
        have HX4 := Lib.hid (below_then HX3.out a2)
        have HB4 := Lib.hid (below_then HB3.out a2)
        refine hK _ _ trivial ?_
        clear hK K a1 a2 a3
        refine Text.eff rfl rfl (fun K hK => ?_)
        obtain ⟨iS, i1, i2, i3, i4⟩ := info_some infoStr
        refine wp_appRW _ (.tmp 33) (.tmp 38) 61 9 1 iS _ rfl Tryd.underlying61 i1 i2 i3 rfl v2 P.length _ rfl (HO2.out.1.kept HX4.out) w3.heap.size [.string (strB R)] rfl HG4.out rfl (one_st R) (by rw [i4]; have := HLP.out; omega) (by have := HLP.out; omega) ?_
        intro v5 w5 a1
        have HAP := Lib.hid a1
        refine hK _ _ trivial ?_
        clear hK K a1 i1 i2 i3 i4
        (refine Text.purek rfl rfl (fun K hK => ⟨_, fun w' => by go_simp <;> rfl, ?_⟩); go_simp; refine hK _ ?_; clear hK K)
        refine Text.done ?_
        go_wp2_with fail
        go_ret
        refine ⟨v5, rfl, ⟨?_, fun b hb => (HAP.out.own b hb).elim (fun h1 => HO2.out.2 b h1) (fun h1 => Nat.le_trans HB4.out.size h1)⟩, ?_⟩
        · have h9 := HAP.out.row
          rw [List.length_reverse, List.length_cons, List.reverse_cons, List.map_append]
          exact h9
        · exact ((Kp.of_below (S := fun _ => False) HB4.out).after HAP.out.kp (fun i hi e => by have := HO2.out.2 i e; omega)).below (Nat.le_refl _) (fun _ h => h.elim)

set_option maxRecDepth 100000 in
set_option maxHeartbeats 1000000 in
theorem rpath_any (n i : Nat) (A : Option Addr) (c : Nat) (L : List (List UInt8)) (w : World) (hi : i < n) (h : TS w A n c L) (hn : n ≤ 250) (hv : Lv L) :
    Calls Tryd.prog 94 #[.slice A n c, .int .i64 (i : Int)] w fun e w' => ∃ v', e = .returned (.tuple #[v', .int .i64 0]) ∧ OwnS w' w.heap.size v' (pth L i).length (pth L i).reverse ∧ Below w.heap.size w w' := by
  have HPA := Lib.hid (rpth_any n n i A c L w (Nat.le_refl _) hi h (by omega) hn hv)
  clear h
  go_enter Tryd.func94, Tryd.ntmps94
  go_wp2_with (go_at_call 118; refine HPA.out.mono ?_; rintro e w2 ⟨v2, rfl, o2, b1⟩; rw [List.length_reverse] at o2; have HO2 := Lib.hid o2; have HB2 := Lib.hid b1; clear o2 b1)
  go_ret2
  exact ⟨_, rfl, HO2.out, HB2.out⟩
end Go.Proofs.YtgjgofjabdjclaaDoor
/- Copies of bytes; the reference's Show; lists of proofs whose parts are new. -/
namespace Go.Proofs.YtgjgofjabdjclaaDoor
open Go Go.RowKit Gf Sha

/-- Bytes of the call's own. -/
def OwnB (w : World) (base : Nat) (v : Value) (n : Nat) (x : List UInt8) : Prop := RW w 5 1 v n (x.map B) ∧ ∀ b, v.ownBlock = some b → base ≤ b
theorem OwnB.kept {w w' : World} {base n : Nat} {v : Value} {x : List UInt8} (h : OwnB w base v n x) (hb : Below w.heap.size w w') : OwnB w' base v n x := ⟨h.1.kept hb, h.2⟩
theorem OwnS.kept' {w w' : World} {base n : Nat} {v : Value} {x : List (List UInt8)} (h : OwnS w base v n x) (hb : Below w.heap.size w w') : OwnS w' base v n x := ⟨h.1.kept hb, h.2⟩
theorem BS.of_rw {w : World} {n : Nat} {A : Option Addr} {c : Nat} {x : List UInt8} (h : RW w 5 1 (.slice A n c) n (x.map B)) (hn : n ≤ lim) : BS w A n c x := by
  have hl : x.length = n := by have := h.1; simpa using this
  obtain ⟨A', c', e, hc⟩ := h.form
  cases e
  refine ⟨hl, hc, hn, fun k hk => ?_⟩
  obtain ⟨g, o, c', e, _, hat⟩ := h.at_ (by omega)
  cases e
  refine ⟨g, o, rfl, ?_⟩
  have := hat k _ (by rw [List.getElem?_map, List.getElem?_eq_getElem (by omega)]; rfl)
  show w.cell? ⟨g, o + k, none⟩ = some (B (gB x k))
  rw [gB_eq (by omega)]
  exact this
theorem TS.of_rw {w : World} {n : Nat} {A : Option Addr} {c : Nat} {m : List (List UInt8)} (h : RW w 9 1 (.slice A n c) n (m.map usC)) (hn : n * 16 ≤ lim) : TS w A n c m := by
  have hl : m.length = n := by have := h.1; simpa using this
  obtain ⟨A', c', e, hc⟩ := h.form
  cases e
  refine ⟨hl, hc, hn, fun k hk => ?_⟩
  obtain ⟨g, o, c', e, _, hat⟩ := h.at_ (by omega)
  cases e
  refine ⟨g, o, rfl, ?_⟩
  have := hat k _ (by rw [List.getElem?_map, List.getElem?_eq_getElem (by omega)]; rfl)
  show w.cell? ⟨g, o + k, none⟩ = some (.string (strB (gR m k)))
  rw [gR_eq (by omega)]
  exact this
theorem bsl0B (w : World) : (Instr.buildSlice 22 0 #[]).run Tryd.prog w = .ok (.slice (some ⟨w.heap.size, 0, none⟩) 0 0) (w.alloc (.cells ([] : List Value).toArray 5)) := by kernel_rfl
theorem BS.form {w : World} {A : Option Addr} {n c : Nat} {x : List UInt8} (h : BS w A n c x) (hn : 0 < n) : ∃ g o, A = some ⟨g, o, none⟩ := by
  obtain ⟨g, o, e, _⟩ := h.2.2.2 0 hn
  exact ⟨g, o, e⟩

theorem eqNilB (g o n c : Nat) (w : World) : (binOp .eql 22 (.slice (some ⟨g, o, none⟩) n c) (.slice none 0 0)).run Tryd.prog w = .ok (.bool false) w := by kernel_rfl

set_option maxRecDepth 100000 in
set_option maxHeartbeats 1000000 in
theorem cloneB_any (A : Option Addr) (n c : Nat) (x : List UInt8) (w : World) (h : BS w A n c x) (h1 : 1 ≤ n) (hn : n ≤ 1000000) :
    Calls Tryd.prog 68 #[.slice A n c] w fun e w' => ∃ v', e = .returned v' ∧ OwnB w' w.heap.size v' n x ∧ Below w.heap.size w w' := by
  obtain ⟨g, o, rfl⟩ := h.form h1
  have H := Lib.hid h
  have HN := Lib.hid hn
  have hen := eqNilB g o n c
  clear h hn
  go_enter Tryd.func68, Tryd.ntmps68
  go_wp2_with (first
    | ((with_reducible show wpList _ _ _ (⟨some 5, _, _, _, _, _⟩ :: _) _ _); refine wpList_bslice _ rfl 22 5 0 _ rfl #[] (by rw [List.map_toArray]; rfl) [] (bsl0B _) ?_; intro w1 a1 a2 a3; have HG1 := Lib.hid a1; have HB1 := Lib.hid a2; clear a1 a2 a3; have HO : Hid (w1.ownsRow w.heap.size 5 1 (.slice (some ⟨w.heap.size, 0, none⟩) 0 0) 0 (([] : List UInt8).map B)) := Lib.hid (BL.own HG1.out (Nat.le_refl _) rfl (by decide)))
    | ((with_reducible show wpList _ _ _ (⟨some 7, _, _, _, _, _⟩ :: _) _ _); refine wpList_appB _ rfl (.tmp 5) (.tmp 6) rfl w.heap.size _ 0 _ rfl HO.out _ n c x rfl (H.out.kept HB1.out) (by have := HN.out; omega) HB1.out.size ?_; intro v6 w6 hp; have HO6 : Hid (w6.ownsRow w.heap.size 5 1 v6 (0 + n) (x.map B)) := Lib.hid hp.own; have HB6 := Lib.hid (hp.below HO.out HB1.out (Nat.le_refl _) HB1.out.size); clear hp))
  go_ret
  have h9 := HO6.out
  rw [Nat.zero_add] at h9
  exact ⟨_, rfl, RW.of_own h9, HB6.out⟩

theorem BS.sub {w : World} {g o n c : Nat} {x : List UInt8} (h : BS w (some ⟨g, o, none⟩) n c x) {lo hi : Nat} (h1 : lo ≤ hi) (h2 : hi ≤ n) : BS w (some ⟨g, o + lo, none⟩) (hi - lo) (c - lo) ((x.drop lo).take (hi - lo)) := by
  have hl := h.1
  refine ⟨by rw [List.length_take, List.length_drop]; omega, by have := h.2.1; omega, by have := h.2.2.1; omega, fun k hk => ⟨g, o + lo, rfl, ?_⟩⟩
  obtain ⟨g', o', e, hc⟩ := h.2.2.2 (lo + k) (by omega)
  cases e
  show w.cell? ⟨g, o + lo + k, none⟩ = some (B (gB ((x.drop lo).take (hi - lo)) k))
  rw [gB_eq (by rw [List.length_take, List.length_drop]; omega), List.getElem_take, List.getElem_drop, Nat.add_assoc]
  have hc : w.cell? ⟨g, o + (lo + k), none⟩ = some (B (gB x (lo + k))) := hc
  rw [gB_eq (by omega)] at hc
  exact hc

set_option maxRecDepth 100000 in
set_option maxHeartbeats 4000000 in
theorem rshow_any (A : Option Addr) (n c size b : Nat) (x : List UInt8) (w : World) (h : BS w A n c x) (hT : Tabs w) (h1 : 1 ≤ n) (hn : n ≤ 1000000) (hs : 1 ≤ size) (hs2 : size < 9223372036854775808) (hb : b < nb n size) (hq : nb n size ≤ 250) :
    Calls Tryd.prog 69 #[.slice A n c, .int .i64 (size : Int), .int .i64 (b : Int)] w fun e w' => ∃ v1 v2 m, e = .returned (.tuple #[v1, v2, .int .i64 0]) ∧ OwnB w' w.heap.size v1 m (blk x size b) ∧ m ≤ 1000000 ∧
      OwnS w' w.heap.size v2 (pth (lvsK x size (nb n size)) b).length (pth (lvsK x size (nb n size)) b).reverse ∧ (pth (lvsK x size (nb n size)) b).length ≤ 250 ∧ Below w.heap.size w w' := by
  obtain ⟨g, o, rfl⟩ := h.form h1
  have H := Lib.hid h
  have HT := Lib.hid hT
  have HNN := Lib.hid (And.intro h1 hn)
  have hbs := (nb_lt h1 hs).1 hb
  obtain ⟨q, hqd⟩ : ∃ q, q = nb n size := ⟨_, rfl⟩
  rw [← hqd] at hb hq ⊢
  have HQ := Lib.hid hqd.symm
  have hcn : n ≤ c := h.2.1
  obtain ⟨bs, hbd⟩ : ∃ bs, bs = b * size := ⟨_, rfl⟩
  have em : (b : Int) * (size : Int) = (bs : Int) := by rw [hbd, Int.natCast_mul]
  rw [← hbd] at hbs
  obtain ⟨mm, hmm⟩ : ∃ mm, mm = min (n - bs) size := ⟨_, rfl⟩
  obtain ⟨hi, hhi⟩ : ∃ hi, hi = mm + bs := ⟨_, rfl⟩
  have hmm1 : mm ≤ n - bs := by omega
  have emin : min ((n : Int) - (bs : Int)) (size : Int) = (mm : Int) := by omega
  have esum : (mm : Int) + (bs : Int) = (hi : Int) := by omega
  have f1 : (bs : Int) ≤ (hi : Int) := by omega
  have f2 : (hi : Int) ≤ (c : Int) := by omega
  have f3 : bs ≤ hi := by omega
  have f4 : hi ≤ c := by omega
  have f5 : ¬ c = bs := by omega
  have hin : hi ≤ n := by omega
  have HBK : Hid ((x.drop bs).take (hi - bs) = blk x size b) := Lib.hid (by
    have e9 : hi - bs = mm := by omega
    have hl := h.1
    rw [blk, ← hbd, e9]
    exact take_min_drop (a := bs) (m := n - bs) (by rw [List.length_drop, hl]) (by omega))
  have HSU := Lib.hid (h.sub f3 hin)
  obtain ⟨P, hP⟩ : ∃ P, P = pth (lvsK x size q) b := ⟨_, rfl⟩
  have HLP : Hid (P.length ≤ 250) := Lib.hid (by
    have h9 := pth_length (L := lvsK x size q) (by rw [lvsK_length]; omega) (by rw [lvsK_length]; omega) b (by rw [lvsK_length]; exact hb)
    rw [lvsK_length] at h9
    rw [hP]; omega)
  rw [← hP]
  have HP := Lib.hid hP.symm
  have HQL : Hid (q * 16 ≤ lim) := Lib.hid (by unfold lim; omega)
  have hn63 : (n : Int) ≤ 1000000 := by omega
  clear h hT hqd hbd hmm hhi hP h1 hn hin hmm1
  go_enter Tryd.func69, Tryd.ntmps69
  go_wp2_with (first
    | (go_at_call 93; refine (rblocks_any _ n c size x w H.out HT.out HNN.out.1 HNN.out.2 hs hs2).mono ?_; rintro e w1 ⟨v1, rfl, o1, b1⟩; rw [HQ.out] at o1; obtain ⟨A1, c1, rfl, _⟩ := o1.1.form; have HO1 := Lib.hid o1; have HB1 := Lib.hid b1; clear o1 b1)
    | (go_at_call 94; refine (rpath_any q b A1 c1 (lvsK x size q) w1 hb (TS.of_rw HO1.out.1 HQL.out) hq (lvsK_lv _ _ _)).mono ?_; rintro e w2 ⟨v2, rfl, o2, b2⟩; rw [HP.out] at o2; obtain ⟨A2, c2, rfl, _⟩ := o2.1.form; have HO2 := Lib.hid o2; have HX2 := Lib.hid b2; have HB2 := Lib.hid (below_then HB1.out b2); clear o2 b2)
    | ((with_reducible show wpList _ _ _ (⟨some 34, _, _, _, _, _⟩ :: _) _ _); refine wpList_bslice _ rfl 22 5 0 _ rfl #[] (by rw [List.map_toArray]; rfl) [] (bsl0B _) ?_; intro w3 a1 a2 a3; have HX3 := Lib.hid a2; have HB3 := Lib.hid (below_then HB2.out a2); have HO3 : Hid (w3.ownsRow w2.heap.size 5 1 (.slice (some ⟨w2.heap.size, 0, none⟩) 0 0) 0 (([] : List UInt8).map B)) := Lib.hid (BL.own a1 (Nat.le_refl _) rfl (by decide)); clear a1 a2 a3)
    | ((with_reducible show wpList _ _ _ (⟨some 46, _, _, _, _, _⟩ :: _) _ _); refine wpList_appB _ rfl (.tmp 34) (.tmp 45) rfl w2.heap.size _ 0 _ rfl HO3.out _ (hi - bs) (c - bs) _ rfl (HSU.out.kept HB3.out) (by have := HNN.out.2; omega) HX3.out.size ?_; intro v4 w4 hp; have HO4 : Hid (w4.ownsRow w2.heap.size 5 1 v4 (0 + (hi - bs)) (((x.drop bs).take (hi - bs)).map B)) := Lib.hid hp.own; have HX4 := Lib.hid (hp.below HO3.out HX3.out (Nat.le_refl _) HX3.out.size); clear hp))
  go_ret3
  have h9 := HO4.out
  rw [Nat.zero_add, HBK.out] at h9
  have r9 := RW.of_own h9
  refine ⟨_, _, hi - bs, rfl, ⟨r9.1, fun b hb => Nat.le_trans HB2.out.size (r9.2 b hb)⟩, by have := HNN.out.2; omega, ⟨HO2.out.1.kept HX4.out, fun b hb => Nat.le_trans HB1.out.size (HO2.out.2 b hb)⟩, HLP.out, below_thenB HB2.out HB2.out.size HX4.out⟩
end Go.Proofs.YtgjgofjabdjclaaDoor
