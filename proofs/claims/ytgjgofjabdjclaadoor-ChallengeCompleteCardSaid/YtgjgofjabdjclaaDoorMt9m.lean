/- merkle.Root and Of; the proofs of data are accepted. -/
import Derived.Test.YtgjgofjabdjclaaDoorLPwm
namespace Go.Proofs.YtgjgofjabdjclaaDoor
open Go Go.RowKit Gf Sha

set_option maxRecDepth 100000 in
set_option maxHeartbeats 4000000 in
theorem mroot_any : ∀ (q n : Nat) (A : Option Addr) (c : Nat) (L : List (List UInt8)) (w : World), n ≤ q → TS w A n c L → Tabs w → 1 ≤ n → n ≤ 250 → Lv L →
    Calls Tryd.prog 70 #[.slice A n c] w fun e w' => e = .returned (.string (strB (rt L))) ∧ Below w.heap.size w w' := by
  intro q
  induction q with
  | zero => intro n A c L w hq _ _ h1; omega
  | succ q ih =>
    intro n A c L w hq h hT h1 hn hv
    have HT := Lib.hid hT
    have H := Lib.hid h
    have IH := Lib.hid ih
    have hcn : n ≤ c := h.2.1
    have HLN := Lib.hid h.1
    by_cases hn1 : n = 1
    · subst hn1
      obtain ⟨g, o, rfl, q0⟩ := h.2.2.2 0 (by omega)
      have HR := Lib.hid (rt_one h.1)
      replace q0 : w.cell? ⟨g, o + 0, none⟩ = some (.string (strB (gR L 0))) := q0
      rw [Nat.add_zero, ← HR.out] at q0
      obtain ⟨R, hR⟩ : ∃ R, R = rt L := ⟨_, rfl⟩
      rw [← hR] at q0 ⊢
      clear h ih hR
      go_enter Tryd.func70, Tryd.ntmps70
      go_wp2_with fail
      go_ret
      exact ⟨rfl, Below.refl _ _⟩
    · obtain ⟨s1, s2, s3, _, _⟩ := spl_parts (n := n) (by omega) (by omega)
      obtain ⟨g, o, rfl⟩ := h.form (by omega)
      have e0 : ((n : Int) == 0) = false := by rw [beq_eq_false_iff_ne]; omega
      have e1 : ((n : Int) == 1) = false := by rw [beq_eq_false_iff_ne]; omega
      have hRT := rt_two (L := L) (by rw [h.1]; omega) (by rw [h.1]; omega)
      rw [h.1] at hRT
      obtain ⟨k, hk⟩ : ∃ k, k = spl n := ⟨_, rfl⟩
      rw [← hk] at s1 s2 s3 hRT
      have HKS := Lib.hid hk.symm
      have HP1 := Lib.hid (h.pre (k := k) (by omega))
      have HP2 := Lib.hid (h.suf (k := k) (by omega))
      obtain ⟨R1, hR1⟩ : ∃ R, R = rt (L.take k) := ⟨_, rfl⟩
      obtain ⟨R2, hR2⟩ : ∃ R, R = rt (L.drop k) := ⟨_, rfl⟩
      have HL1 : Hid (R1.length ≤ 1048576) := Lib.hid (by
        rw [hR1, rt_length (hv.take k) (by rw [List.length_take, h.1]; omega) (by rw [List.length_take, h.1]; omega)]; decide)
      have HL2 : Hid (R2.length ≤ 1048576) := Lib.hid (by
        rw [hR2, rt_length (hv.drop k) (by rw [List.length_drop, h.1]; omega) (by rw [List.length_drop, h.1]; omega)]; decide)
      rw [← hR1, ← hR2] at hRT
      rw [hRT]
      have HR1 := Lib.hid hR1.symm
      have HR2 := Lib.hid hR2.symm
      have hkn : k ≤ n := by omega
      have hkc : k ≤ c := by omega
      have hck : ¬ c = k := by omega
      have hck2 : (k : Int) ≤ (n : Int) := by omega
      have hck3 : (k : Int) ≤ (c : Int) := by omega
      clear h ih hk hR1 hR2 hRT
      go_enter Tryd.func70, Tryd.ntmps70
      go_wp2_with (go_at_call 96; refine (split_any n _ (by omega) (by omega)).mono ?_; rintro e w1 ⟨rfl, hw⟩; rw [hw]; clear hw w1; rw [HKS.out])
      refine Text.wp_region_text (fun _ => True) [(0, 4), (1, 4), (2, 4), (4, 4), (5, 4), (6, 4), (3, 2), (7, 2), (8, 2), (9, 4)] (by kernel_rfl) (by kernel_rfl) (fun _ _ _ _ _ h => h) (trivial) ?_
      iterate 6 (refine Text.purek rfl rfl (fun K hK => ⟨_, fun w' => by go_simp <;> rfl, ?_⟩); go_simp; refine hK _ ?_; clear hK K)
      refine Text.eff rfl rfl (fun K hK => ?_)
      go_simp
      refine (IH.out k _ c _ _ (by omega) HP1.out.drew HT.out.drew s1 (by omega) (hv.take k)).mono ?_
      rintro e w2 ⟨rfl, b1⟩
      rw [HR1.out]
      have HB2 : Hid (Below w.heap.size w w2) := Lib.hid (below_ofDrew b1)
      refine hK _ _ trivial ?_
      clear hK K b1
      refine Text.eff rfl rfl (fun K hK => ?_)
      go_simp
      refine (IH.out (n - k) _ (c - k) _ w2 (by omega) (HP2.out.kept HB2.out) (HT.out.kept HB2.out) (by omega) (by omega) (hv.drop k)).mono ?_
      rintro e w3 ⟨rfl, b1⟩
      rw [HR2.out]
      have HB3 := Lib.hid (below_then HB2.out b1)
      refine hK _ _ trivial ?_
      clear hK K b1
      refine Text.eff rfl rfl (fun K hK => ?_)
      go_simp
      refine (node_any R1 R2 w3 (HT.out.kept HB3.out) HL1.out HL2.out).mono ?_
      rintro e w4 ⟨rfl, b1⟩
      have HB4 := Lib.hid (below_then HB3.out b1)
      refine hK _ _ trivial ?_
      clear hK K b1
      (refine Text.purek rfl rfl (fun K hK => ⟨_, fun w' => by go_simp <;> rfl, ?_⟩); go_simp; refine hK _ ?_; clear hK K)
      refine Text.done ?_
      go_wp2_with fail
      go_ret
      exact ⟨rfl, HB4.out⟩


set_option maxRecDepth 100000 in
set_option maxHeartbeats 1000000 in
theorem mof_any (A : Option Addr) (n c size : Nat) (x : List UInt8) (w : World) (h : BS w A n c x) (hT : Tabs w) (h1 : 1 ≤ n) (hn : n ≤ 1000000) (hs : 1 ≤ size) (hs2 : size < 9223372036854775808) (hq : nb n size ≤ 250) :
    Calls Tryd.prog 40 #[.slice A n c, .int .i64 (size : Int)] w fun e w' => e = .returned (.tuple #[.string (strB (rt (lvsK x size (nb n size)))), .int .i64 0]) ∧ Below w.heap.size w w' := by
  have H := Lib.hid h
  have HT := Lib.hid hT
  have HN := Lib.hid (And.intro h1 hn)
  have hq1 : 1 ≤ nb n size := Nat.le_add_left 1 _
  obtain ⟨q, hqd⟩ : ∃ q, q = nb n size := ⟨_, rfl⟩
  rw [← hqd] at hq hq1 ⊢
  have HQ := Lib.hid hqd.symm
  have HQL : Hid (q * 16 ≤ lim) := Lib.hid (by unfold lim; omega)
  clear h hT hqd h1 hn
  go_enter Tryd.func40, Tryd.ntmps40
  go_wp2_with (first
    | (go_at_call 64; refine (blocks_any A n c size x w H.out HT.out HN.out.1 HN.out.2 hs hs2).mono ?_; rintro e w1 ⟨v1, rfl, o1, b1⟩; rw [HQ.out] at o1; obtain ⟨A1, c1, rfl, _⟩ := o1.1.form; have HO1 := Lib.hid o1; have HB1 := Lib.hid b1; clear o1 b1)
    | (go_at_call 70; refine (mroot_any q q A1 c1 (lvsK x size q) w1 (Nat.le_refl _) (TS.of_rw HO1.out.1 HQL.out) (HT.out.kept HB1.out) hq1 hq (lvsK_lv _ _ _)).mono ?_; rintro e w2 ⟨rfl, b2⟩; have HB2 := Lib.hid (below_then HB1.out b2); clear b2))
  go_ret2
  exact ⟨rfl, HB2.out⟩

theorem prfL_get {x : List UInt8} {size q k : Nat} {S : List Int} (hk : k < S.length) : gP (prfL x size q S) k = pfN x size q (gI S k).toNat := by
  refine gP_eq ?_
  rw [prfL, List.getElem?_map, List.getElem?_eq_getElem hk, gI_eq hk]; rfl
/-- The proofs of the spots of data are accepted with the root over its blocks. -/
theorem prov_complete {x nl : List UInt8} {n size c : Nat} (hl : x.length = n) (h1 : 1 ≤ n) (hs : 1 ≤ size) (hq : nb n size ≤ 250) (hc : c ≤ nb n size) :
    provL (rt (lvsK x size (nb n size))) n size (spotsL nl ((n - 1) / size + 1) c) (prfL x size (nb n size) (spotsL nl (nb n size) c)) = true := by
  have hq1 : 1 ≤ nb n size := Nat.le_add_left 1 _
  have hLl := lvsK_length x size (nb n size)
  show provL _ n size (spotsL nl (nb n size) c) _ = true
  refine prov_yes (prfL_length _ _ _ _) fun k hk => ?_
  rw [prfL_length] at hk
  have hk' : k < c := by rw [spotsL_length] at hk; exact hk
  obtain ⟨z, hz, hzq⟩ := spots_get (nl := nl) hc hk'
  rw [prfL_get hk, hz, Int.toNat_natCast, pfB, hz, Int.toNat_natCast]
  have hzn := (nb_lt (k := z) h1 hs).1 hzq
  have hlen : (blk x size z).length = min size (n - z * size) := by rw [blk, List.length_take, List.length_drop, hl]
  have hup := up_pth (L := lvsK x size (nb n size)) (by omega) (by omega) z (by omega)
  rw [lvsK_get hzq, hLl] at hup
  have hroot := rt_length (lvsK_lv x size (nb n size)) (by omega) (by omega)
  have hsum : sumsB (pth (lvsK x size (nb n size)) z).reverse = true := by
    rw [sumsB, List.all_eq_true]
    intro y hy
    exact decide_eq_true (pth_sums (lvsK_lv x size (nb n size)) (by omega) (by omega) z (by omega) y (List.mem_reverse.1 hy))
  have hup' : upR (mleaf (blk x size z)) z ((n - 1) / size + 1) (pth (lvsK x size (nb n size)) z).reverse.reverse = (rt (lvsK x size (nb n size)), true) := by
    rw [List.reverse_reverse]; exact hup
  show (decide ((z : Int) = (z : Int)) && seeB _ n size z (blk x size z) (pth (lvsK x size (nb n size)) z).reverse) = true
  rw [decide_eq_true rfl, Bool.true_and, seeB, hlen, decide_eq_true rfl, Bool.true_and, verB, hroot, hsum, hup']
  simp
end Go.Proofs.YtgjgofjabdjclaaDoor
