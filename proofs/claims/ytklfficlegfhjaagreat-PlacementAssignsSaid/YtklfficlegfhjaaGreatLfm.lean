/- The reference's Check. -/
import Derived.Test.YtklfficlegfhjaaGreatC9
import Derived.Test.YtklfficlegfhjaaGreatC7
import Derived.Test.YtklfficlegfhjaaGreatText2m
namespace Go.Proofs.YtklfficlegfhjaaGreat
open Go Go.RowKit Gf Sha

theorem dev_hx (hs : List Hd) (d : Int) : devB hs d = decide (0 ≤ hxI hs d) := by
 cases h : devB hs d with
 | true =>
  symm
  rw [decide_eq_true_eq]
  refine Classical.byContradiction (fun h2 => ?_)
  obtain ⟨x, hx, e⟩ := List.any_eq_true.1 h
  exact hxI_miss h2 x hx (of_decide_eq_true e)
 | false =>
  symm
  rw [decide_eq_false_iff_not]
  intro h2
  obtain ⟨x, hx, e⟩ := hxI_hit h2
  have := List.any_eq_false.1 h x hx
  simp [e] at this
theorem clash_hit2 {ps : List Pl} {i k : Nat} {x y : Pl} (hi : ps[i]? = some x) (hk : ps[k]? = some y) (hlt : k < i) (h : clash x y = true) : clashB ps = true := by
 rw [← Bool.not_eq_false, clashB_iff, List.pairwise_iff_getElem]
 intro hp
 obtain ⟨h1, rfl⟩ := List.getElem?_eq_some_iff.1 hi
 obtain ⟨h2, rfl⟩ := List.getElem?_eq_some_iff.1 hk
 have := hp k i h2 h1 hlt
 unfold clash at this h
 simp at this h
 have h3 := this h.1.symm
 rcases h.2 with h4 | h4
 ·
  exact h3.1 h4.symm
 ·
  exact h3.2 h4.symm
theorem clash_no {ps : List Pl} (h : ∀ (j : Nat) (x : Pl), j < ps.length → ps[j]? = some x → ∀ v ∈ ps.take j, clash x v = false) : clashB ps = false := by
 rw [clashB_iff, List.pairwise_iff_getElem]
 intro i j hi hj hij
 have h1 := h j ps[j] hj (List.getElem?_eq_getElem hj) ps[i] (List.mem_take_iff_getElem.2 ⟨i, by omega, rfl⟩)
 unfold clash at h1 ⊢
 simp at h1 ⊢
 intro e
 have := h1 e.symm
 exact ⟨fun e2 => this.1 e2.symm, fun e2 => this.2 e2.symm⟩
theorem rplZ : (Tryz.prog.info? 80).map (·.zero) = some (some (.agg plZ.toArray)) := by kernel_rfl
section
set_option maxRecDepth 100000
set_option maxHeartbeats 8000000
theorem rcheck_any (A : Option Addr) (n c : Nat) (ws : List Wt) (B : Option Addr) (m d : Nat) (hs : List Hd) (P : Option Addr) (p q : Nat) (ps : List Pl) (w : World) (h : LS rWt 4 40 w A n c ws) (hh : LS rHd 3 24 w B m d hs) (hp : LS rPl 3 32 w P p q ps) (hpm : p ≤ 100000) :
  Calls Tryz.prog 12 #[.slice A n c, .slice B m d, .slice P p q] w fun e w' => e = .returned (.int .i64 (checkE ws hs ps)) ∧ Below w.heap.size w w' := by
 have hpn := hp.len_le
 have hmn := hh.len_le
 have H := Lib.hid h
 have HH := Lib.hid hh
 have HP := Lib.hid hp
 have HLH := Lib.hid hh.1
 have HLP := Lib.hid hp.1
 clear h hh hp
 cases f1 : wantsB ws with
 | false =>
  have HR : Hid (checkE ws hs ps = 1) := Lib.hid (by unfold checkE; rw [f1]; rfl)
  go_enter Tryz.func12, Tryz.ntmps12
  go_wp2_with (first
   | (go_at_call 25; refine (rwants_any A n c ws w H.out).mono ?_; rintro e va ⟨rfl, b1⟩; rw [f1]; have HB1 := Lib.hid b1; clear b1)
   | (go_at_call 26; refine (rholders_any B m d hs va (HH.out.kept stay_hd HB1.out)).mono ?_; rintro e vb ⟨rfl, b2⟩; rw [f2]; have HB2 := Lib.hid (below_then HB1.out b2); clear b2)
   | (go_at_call 37; refine (rnamed_any A n c ws P p q ps vb (H.out.kept stay_wt HB2.out) (HP.out.kept stay_pl HB2.out)).mono ?_; rintro e vc ⟨rfl, b3⟩; rw [f3]; have HB3 := Lib.hid (below_then HB2.out b3); clear b3)
   | fail)
  go_ret
  exact ⟨by rw [HR.out]; rfl, HB1.out⟩
 | true =>
  cases f2 : holdersB hs with
  | false =>
   have HR : Hid (checkE ws hs ps = 1) := Lib.hid (by unfold checkE; rw [f1, f2]; rfl)
   go_enter Tryz.func12, Tryz.ntmps12
   go_wp2_with (first
    | (go_at_call 25; refine (rwants_any A n c ws w H.out).mono ?_; rintro e va ⟨rfl, b1⟩; rw [f1]; have HB1 := Lib.hid b1; clear b1)
    | (go_at_call 26; refine (rholders_any B m d hs va (HH.out.kept stay_hd HB1.out)).mono ?_; rintro e vb ⟨rfl, b2⟩; rw [f2]; have HB2 := Lib.hid (below_then HB1.out b2); clear b2)
    | (go_at_call 37; refine (rnamed_any A n c ws P p q ps vb (H.out.kept stay_wt HB2.out) (HP.out.kept stay_pl HB2.out)).mono ?_; rintro e vc ⟨rfl, b3⟩; rw [f3]; have HB3 := Lib.hid (below_then HB2.out b3); clear b3)
    | fail)
   go_ret
   exact ⟨by rw [HR.out]; rfl, HB2.out⟩
  | true =>
   cases f3 : namedB ws ps with
   | false =>
    have HR : Hid (checkE ws hs ps = 1) := Lib.hid (by unfold checkE; rw [f1, f2, f3]; rfl)
    go_enter Tryz.func12, Tryz.ntmps12
    go_wp2_with (first
     | (go_at_call 25; refine (rwants_any A n c ws w H.out).mono ?_; rintro e va ⟨rfl, b1⟩; rw [f1]; have HB1 := Lib.hid b1; clear b1)
     | (go_at_call 26; refine (rholders_any B m d hs va (HH.out.kept stay_hd HB1.out)).mono ?_; rintro e vb ⟨rfl, b2⟩; rw [f2]; have HB2 := Lib.hid (below_then HB1.out b2); clear b2)
     | (go_at_call 37; refine (rnamed_any A n c ws P p q ps vb (H.out.kept stay_wt HB2.out) (HP.out.kept stay_pl HB2.out)).mono ?_; rintro e vc ⟨rfl, b3⟩; rw [f3]; have HB3 := Lib.hid (below_then HB2.out b3); clear b3)
     | fail)
    go_ret
    exact ⟨by rw [HR.out]; rfl, HB3.out⟩
   | true =>
    have HE : Hid (checkE ws hs ps = if !(ps.all (fun p => devB hs p.dv)) then 1 else if clashB ps then 5 else if hs.any (fun h => decide (h.qt < usedI ws ps h.dv)) then 7 else 0) := Lib.hid (by unfold checkE; rw [f1, f2, f3]; rfl)
    have HW := Lib.hid f1
    go_enter Tryz.func12, Tryz.ntmps12
    go_wp2_with (first
     | (go_at_call 25; refine (rwants_any A n c ws w H.out).mono ?_; rintro e va ⟨rfl, b1⟩; rw [f1]; have HB1 := Lib.hid b1; clear b1)
     | (go_at_call 26; refine (rholders_any B m d hs va (HH.out.kept stay_hd HB1.out)).mono ?_; rintro e vb ⟨rfl, b2⟩; rw [f2]; have HB2 := Lib.hid (below_then HB1.out b2); clear b2)
     | (go_at_call 37; refine (rnamed_any A n c ws P p q ps vb (H.out.kept stay_wt HB2.out) (HP.out.kept stay_pl HB2.out)).mono ?_; rintro e vc ⟨rfl, b3⟩; rw [f3]; have HB3 := Lib.hid (below_then HB2.out b3); clear b3)
     | fail)
    clear f1 f2 f3
    go_loopw [7] (fun iv wr => ∃ k : Nat, k ≤ p ∧ iv = .int .i64 (k : Int) ∧ Hid (∀ x ∈ ps.take k, devB hs x.dv = true) ∧ Hid (Below w.heap.size w wr)) (fun iv _ => p - (intOf iv).toNat)
    case atStart => exact ⟨0, by omega, rfl, Lib.hid (fun x hx => by simp at hx), HB3⟩
    case round =>
     obtain ⟨k, hk, rfl, hall, hb⟩ := hrel
     obtain ⟨wx, hwx⟩ : ∃ x, x = wr := ⟨_, rfl⟩
     rw [← hwx] at hb ⊢
     clear hwx
     by_cases hlt : k < p
     ·
      obtain ⟨x, g, o, hx, ea, hat, _⟩ := HP.out.pl_at hb.out hlt
      subst ea
      have HX := Lib.hid hx
      have q0 : wx.cell? ⟨g, o + k * 3 + 2, none⟩ = some (.int .i64 x.dv) := hat 2 _ rfl
      obtain ⟨z, hz⟩ : ∃ z, z = hxI hs x.dv := ⟨_, rfl⟩
      have HZ := Lib.hid hz.symm
      have HDV := Lib.hid (dev_hx hs x.dv)
      clear hat hx hz
      cases f4 : decide (z < 0) with
      | true =>
       have HR : Hid (checkE ws hs ps = 1) := Lib.hid (by
        rw [HE.out, if_pos]
        have h1 := of_decide_eq_true f4
        have h2 : devB hs x.dv = false := by rw [HDV.out, HZ.out]; exact decide_eq_false (by omega)
        have h3 : ps.all (fun p => devB hs p.dv) = false := List.all_eq_false.2 ⟨x, List.mem_of_getElem? HX.out, by rw [h2]; decide⟩
        rw [h3]; rfl)
       go_wp2_with (first
        | (go_at_call 45; refine (rdev_any B m d hs x.dv wx (HH.out.kept stay_hd hb.out)).mono ?_; rintro e w2 ⟨rfl, hw⟩; rw [hw, HZ.out]; clear hw w2))
       go_ret
       exact ⟨by rw [HR.out]; rfl, hb.out⟩
      | false =>
       have HN : Hid (∀ x ∈ ps.take (k + 1), devB hs x.dv = true) := Lib.hid (fun y hy => by
        rcases (mem_next HX.out).1 hy with h | rfl
        ·
         exact hall.out y h
        ·
         rw [HDV.out, HZ.out]
         have := of_decide_eq_false f4
         exact decide_eq_true (by omega))
       go_wp2_with (first
        | (go_at_call 45; refine (rdev_any B m d hs x.dv wx (HH.out.kept stay_hd hb.out)).mono ?_; rintro e w2 ⟨rfl, hw⟩; rw [hw, HZ.out]; clear hw w2))
       go_roundw
       case rel => exact ⟨k + 1, by omega, by go_num, HN, hb⟩
       case measure => simp [intOf]; omega
     ·
      obtain rfl : k = p := by omega
      have HE2 : Hid (checkE ws hs ps = if clashB ps then 5 else if hs.any (fun h => decide (h.qt < usedI ws ps h.dv)) then 7 else 0) := Lib.hid (by
       rw [HE.out, List.all_eq_true.2 (fun x hx => hall.out x (by rw [take_end HLP.out]; exact hx))]; rfl)
      have HBA := hb
      clear hall hb HE
      go_wp2_with fail
      go_loopw [8] (fun iv wr => ∃ i : Nat, i ≤ k ∧ iv = .int .i64 (i : Int) ∧ Hid (∀ (j : Nat) (x : Pl), j < i → ps[j]? = some x → ∀ v ∈ ps.take j, clash x v = false) ∧ Hid (Below w.heap.size w wr)) (fun iv _ => k - (intOf iv).toNat)
      case atStart => exact ⟨0, by omega, rfl, Lib.hid (fun j x hj => by omega), HBA⟩
      case round =>
       obtain ⟨i, hi, rfl, hall, hb⟩ := hrel
       obtain ⟨wy, hwy⟩ : ∃ x, x = wr := ⟨_, rfl⟩
       rw [← hwy] at hb ⊢
       clear hwy
       by_cases hlt : i < k
       ·
        obtain ⟨x, hx⟩ : ∃ x, ps[i]? = some x := ⟨_, List.getElem?_eq_getElem (by have := HLP.out; omega)⟩
        have HX := Lib.hid hx
        clear hx
        go_wp2_with fail
        go_loopw [9] (fun iv wr => ∃ j : Nat, j ≤ i ∧ iv = .int .i64 (j : Int) ∧ Hid (∀ v ∈ ps.take j, clash x v = false) ∧ Hid (Below w.heap.size w wr)) (fun iv _ => i - (intOf iv).toNat)
        case atStart => exact ⟨0, by omega, rfl, Lib.hid (fun x hx => by simp at hx), hb⟩
        case round =>
         obtain ⟨j, hj, rfl, hno, hb1⟩ := hrel
         obtain ⟨wx, hwx⟩ : ∃ x, x = wr := ⟨_, rfl⟩
         rw [← hwx] at hb1 ⊢
         clear hwx
         by_cases hlt2 : j < i
         ·
          have hjk : j < k := Nat.lt_trans hlt2 hlt
          obtain ⟨x', g, o, hx', ea, hat, _⟩ := HP.out.pl_at hb1.out hlt
          obtain ⟨y, g', o', hy, ea', hat', _⟩ := HP.out.pl_at hb1.out hjk
          obtain rfl : x = x' := by
           have h9 := HX.out.symm.trans hx'
           cases h9; rfl
          subst ea
          cases ea'
          have HAX := Lib.hid hat
          have HAY := Lib.hid hat'
          have HCL : Hid (clash x y = true → checkE ws hs ps = 5) := Lib.hid (fun h1 => by rw [HE2.out, clash_hit2 HX.out hy hlt2 h1]; rfl)
          have HNX : Hid (clash x y = false → ∀ v ∈ ps.take (j + 1), clash x v = false) := Lib.hid (fun h1 v hv => by
           rcases (mem_next hy).1 hv with h | rfl
           ·
            exact hno.out v h
           ·
            exact h1)
          clear hat hat' hy hx'
          go_wp2_with fail
          refine Text.wp_region_bt (fun w' => Below wx.heap.size wx w') (.still 0 4 (.still 1 4 (.still 2 4 (.still 3 0 (.still 4 4 (.still 5 4 (.still 6 4 (.still 7 0 (.br 8 (.br 9 (.eff 10 (.eff 11 .leaf)) 10 (.eff 9 (.eff 11 .leaf))) 9 (.eff 8 (.eff 10 (.eff 11 .leaf)))))))))))) (by kernel_rfl) (by kernel_rfl) (fun _ _ _ _ _ h => h) ((Below.refl _ _).drew) ?_
          iterate 3 (refine Text.bpurek rfl rfl (fun K hK => ⟨_, fun w' => by go_simp <;> rfl, ?_⟩); go_simp; refine hK _ ?_; clear hK K)
          refine Text.bheldk rfl rfl (fun K hK => ⟨_, fun w' hw' => exec_loadv 80 (.tmp 54) rfl 3 (by kernel_rfl) g (o + i * 3) (plL x) (by go_simp) (HAX.out.kept hw') rfl, ?_⟩)
          go_simp
          refine hK _ ?_
          clear hK K
          iterate 3 (refine Text.bpurek rfl rfl (fun K hK => ⟨_, fun w' => by go_simp <;> rfl, ?_⟩); go_simp; refine hK _ ?_; clear hK K)
          refine Text.bheldk rfl rfl (fun K hK => ⟨_, fun w' hw' => exec_loadv 80 (.tmp 58) rfl 3 (by kernel_rfl) g (o + j * 3) (plL y) (by go_simp) (HAY.out.kept hw') rfl, ?_⟩)
          go_simp
          refine hK _ ?_
          clear hK K
          have HX0 : Hid (Below wx.heap.size wx wx.drew) := Lib.hid (Below.refl _ _).drew
          have HGL : Hid (wx.heap.size ≤ wx.heap.size) := Lib.hid (Nat.le_refl _)
          refine Text.bfork ?_ ?_
          ·
           refine Text.beff rfl rfl (fun K hK => ?_)
           refine wp_alloc 80 rfl plZ rplZ ?_
           intro wa a1 a2 a3
           have HVwa : Hid (BL wa wx.heap.size 80 plZ) := Lib.hid a1
           have HKwa := Lib.hid a2
           have HXwa : Hid (Below wx.heap.size wx wa) := Lib.hid (below_thenB (HX0).out (by have := (HX0).out.size; exact this) a2)
           refine hK _ _ HXwa.out ?_
           clear hK K a1 a2 a3
           have HGA : Hid (wx.heap.size ≤ wa.heap.size) := Lib.hid HXwa.out.size
           have HGB : Hid (wx.heap.size < wa.heap.size) := Lib.hid HVwa.out.lt
           refine Text.bfork ?_ ?_
           ·
            refine Text.beff rfl rfl (fun K hK => ?_)
            refine wp_alloc 80 rfl plZ rplZ ?_
            intro wb a1 a2 a3
            have HVwb : Hid (BL wb wa.heap.size 80 plZ) := Lib.hid a1
            have HKwb := Lib.hid a2
            have HXwb : Hid (Below wx.heap.size wx wb) := Lib.hid (below_thenB (HXwa).out (by have := (HXwa).out.size; exact this) a2)
            refine hK _ _ HXwb.out ?_
            clear hK K a1 a2 a3
            have HV1 := Lib.hid (HVwa.out.kept HKwb.out)
            refine Text.beff rfl rfl (fun K hK => ?_)
            refine wp_storev 80 (.tmp 10) (.tmp 55) rfl 3 (by kernel_rfl) wx.heap.size 0 _ plZ (plL x) rfl rfl (HV1).out rfl (one_pl x) (by decide) ?_
            intro wc a1 a2 a3
            have HVwc : Hid (BL wc wx.heap.size 80 (plL x)) := Lib.hid a1
            have HSwc := Lib.hid a2
            have HXwc : Hid (Below wx.heap.size wx wc) := Lib.hid (((Kp.of_below (S := fun _ => False) (HXwb).out).after a2 (fun i hi e => by have h9 := (HGL).out; have e' : i = wx.heap.size := e; omega)).below (Nat.le_refl _) (fun _ h => h.elim))
            refine hK _ _ HXwc.out ?_
            clear hK K a1 a2 a3
            have HV2 := Lib.hid (HSwc.out.bl HVwb.out (fun e => by have := HGB.out; omega))
            refine Text.beff rfl rfl (fun K hK => ?_)
            refine wp_storev 80 (.tmp 11) (.tmp 59) rfl 3 (by kernel_rfl) wa.heap.size 0 _ plZ (plL y) rfl rfl (HV2).out rfl (one_pl y) (by decide) ?_
            intro we a1 a2 a3
            have HVwe : Hid (BL we wa.heap.size 80 (plL y)) := Lib.hid a1
            have HSwe := Lib.hid a2
            have HXwe : Hid (Below wx.heap.size wx we) := Lib.hid (((Kp.of_below (S := fun _ => False) (HXwc).out).after a2 (fun i hi e => by have h9 := (HGA).out; have e' : i = wa.heap.size := e; omega)).below (Nat.le_refl _) (fun _ h => h.elim))
            refine hK _ _ HXwe.out ?_
            clear hK K a1 a2 a3
            have HV3 := Lib.hid (HSwe.out.bl HVwc.out (fun e => by have := HGB.out; omega))
            refine Text.bdone ?_
            have q0 := (HV3).out.get (j := 0) rfl
            have q1 := (HVwe).out.get (j := 0) rfl
            have q2 := (HV3).out.get (j := 2) rfl
            have q3 := (HVwe).out.get (j := 2) rfl
            have HWB : Hid (Below w.heap.size w we) := Lib.hid (below_then hb1.out (HXwe).out)
            by_cases h1 : x.st = y.st ∧ x.ix = y.ix
            ·
             have er : ∀ w, (Op.equalIn 10000 78 (.agg (piL x.st x.ix).toArray) (.agg (piL y.st y.ix).toArray)).run Tryz.prog w = .ok true w := fun w => by rw [eqIn_pi, decide_eq_true h1]
             have HR : Hid (checkE ws hs ps = 5) := Lib.hid (HCL.out (decide_eq_true ⟨h1.1, .inl h1.2⟩))
             clear h1
             go_wp2_with (first
              | ((with_reducible show OpW 61); refine wpList_loadv _ rfl 78 (.tmp 60) rfl 2 (by kernel_rfl) wx.heap.size 0 (piL x.st x.ix) rfl (At.pre (b := [.int .i64 x.dv]) (BL.all (HV3).out)) rfl ?_)
              | ((with_reducible show OpW 63); refine wpList_loadv _ rfl 78 (.tmp 62) rfl 2 (by kernel_rfl) wa.heap.size 0 (piL y.st y.ix) rfl (At.pre (b := [.int .i64 y.dv]) (BL.all (HVwe).out)) rfl ?_))
             go_ret
             exact ⟨by rw [HR.out]; rfl, HWB.out⟩
            ·
             have er : ∀ w, (Op.equalIn 10000 78 (.agg (piL x.st x.ix).toArray) (.agg (piL y.st y.ix).toArray)).run Tryz.prog w = .ok false w := fun w => by rw [eqIn_pi, decide_eq_false h1]
             by_cases h2 : x.st = y.st
             ·
              have e2 : ((strB x.st).toList == (strB y.st).toList) = true := by rw [strB_eq]; exact decide_eq_true h2
              by_cases h3 : x.dv = y.dv
              ·
               have e3 : (x.dv == y.dv) = true := by rw [h3]; exact beq_self_eq_true _
               have HR : Hid (checkE ws hs ps = 5) := Lib.hid (HCL.out (decide_eq_true ⟨h2, .inr h3⟩))
               clear h1 h2 h3
               go_wp2_with (first
                | ((with_reducible show OpW 61); refine wpList_loadv _ rfl 78 (.tmp 60) rfl 2 (by kernel_rfl) wx.heap.size 0 (piL x.st x.ix) rfl (At.pre (b := [.int .i64 x.dv]) (BL.all (HV3).out)) rfl ?_)
                | ((with_reducible show OpW 63); refine wpList_loadv _ rfl 78 (.tmp 62) rfl 2 (by kernel_rfl) wa.heap.size 0 (piL y.st y.ix) rfl (At.pre (b := [.int .i64 y.dv]) (BL.all (HVwe).out)) rfl ?_))
               go_ret
               exact ⟨by rw [HR.out]; rfl, HWB.out⟩
              ·
               have e3 : (x.dv == y.dv) = false := by rw [beq_eq_false_iff_ne]; exact h3
               have HN := Lib.hid (HNX.out (decide_eq_false (fun h => h.2.elim (fun h4 => h1 ⟨h2, h4⟩) h3)))
               clear h1 h2 h3
               go_wp2_with (first
                | ((with_reducible show OpW 61); refine wpList_loadv _ rfl 78 (.tmp 60) rfl 2 (by kernel_rfl) wx.heap.size 0 (piL x.st x.ix) rfl (At.pre (b := [.int .i64 x.dv]) (BL.all (HV3).out)) rfl ?_)
                | ((with_reducible show OpW 63); refine wpList_loadv _ rfl 78 (.tmp 62) rfl 2 (by kernel_rfl) wa.heap.size 0 (piL y.st y.ix) rfl (At.pre (b := [.int .i64 y.dv]) (BL.all (HVwe).out)) rfl ?_))
               go_roundw
               case rel => exact ⟨j + 1, by omega, by go_num, HN, HWB⟩
               case measure => simp [intOf]; omega
             ·
              have e2 : ((strB x.st).toList == (strB y.st).toList) = false := by rw [strB_eq]; exact decide_eq_false h2
              have HN := Lib.hid (HNX.out (decide_eq_false (fun h => h2 h.1)))
              clear h1 h2
              go_wp2_with (first
               | ((with_reducible show OpW 61); refine wpList_loadv _ rfl 78 (.tmp 60) rfl 2 (by kernel_rfl) wx.heap.size 0 (piL x.st x.ix) rfl (At.pre (b := [.int .i64 x.dv]) (BL.all (HV3).out)) rfl ?_)
               | ((with_reducible show OpW 63); refine wpList_loadv _ rfl 78 (.tmp 62) rfl 2 (by kernel_rfl) wa.heap.size 0 (piL y.st y.ix) rfl (At.pre (b := [.int .i64 y.dv]) (BL.all (HVwe).out)) rfl ?_))
              go_roundw
              case rel => exact ⟨j + 1, by omega, by go_num, HN, HWB⟩
              case measure => simp [intOf]; omega
           ·
            refine Text.beff rfl rfl (fun K hK => ?_)
            refine wp_storev 80 (.tmp 10) (.tmp 55) rfl 3 (by kernel_rfl) wx.heap.size 0 _ plZ (plL x) rfl rfl (HVwa).out rfl (one_pl x) (by decide) ?_
            intro wb a1 a2 a3
            have HVwb : Hid (BL wb wx.heap.size 80 (plL x)) := Lib.hid a1
            have HSwb := Lib.hid a2
            have HXwb : Hid (Below wx.heap.size wx wb) := Lib.hid (((Kp.of_below (S := fun _ => False) (HXwa).out).after a2 (fun i hi e => by have h9 := (HGL).out; have e' : i = wx.heap.size := e; omega)).below (Nat.le_refl _) (fun _ h => h.elim))
            refine hK _ _ HXwb.out ?_
            clear hK K a1 a2 a3
            have HGC : Hid (wx.heap.size < wb.heap.size) := Lib.hid HVwb.out.lt
            have HGD : Hid (wx.heap.size ≤ wb.heap.size) := Lib.hid HXwb.out.size
            refine Text.beff rfl rfl (fun K hK => ?_)
            refine wp_alloc 80 rfl plZ rplZ ?_
            intro wc a1 a2 a3
            have HVwc : Hid (BL wc wb.heap.size 80 plZ) := Lib.hid a1
            have HKwc := Lib.hid a2
            have HXwc : Hid (Below wx.heap.size wx wc) := Lib.hid (below_thenB (HXwb).out (by have := (HXwb).out.size; exact this) a2)
            refine hK _ _ HXwc.out ?_
            clear hK K a1 a2 a3
            have HV1 := Lib.hid (HVwb.out.kept HKwc.out)
            refine Text.beff rfl rfl (fun K hK => ?_)
            refine wp_storev 80 (.tmp 11) (.tmp 59) rfl 3 (by kernel_rfl) wb.heap.size 0 _ plZ (plL y) rfl rfl (HVwc).out rfl (one_pl y) (by decide) ?_
            intro we a1 a2 a3
            have HVwe : Hid (BL we wb.heap.size 80 (plL y)) := Lib.hid a1
            have HSwe := Lib.hid a2
            have HXwe : Hid (Below wx.heap.size wx we) := Lib.hid (((Kp.of_below (S := fun _ => False) (HXwc).out).after a2 (fun i hi e => by have h9 := (HGD).out; have e' : i = wb.heap.size := e; omega)).below (Nat.le_refl _) (fun _ h => h.elim))
            refine hK _ _ HXwe.out ?_
            clear hK K a1 a2 a3
            have HV3 := Lib.hid (HSwe.out.bl HV1.out (fun e => by have := HGC.out; omega))
            refine Text.bdone ?_
            have q0 := (HV3).out.get (j := 0) rfl
            have q1 := (HVwe).out.get (j := 0) rfl
            have q2 := (HV3).out.get (j := 2) rfl
            have q3 := (HVwe).out.get (j := 2) rfl
            have HWB : Hid (Below w.heap.size w we) := Lib.hid (below_then hb1.out (HXwe).out)
            by_cases h1 : x.st = y.st ∧ x.ix = y.ix
            ·
             have er : ∀ w, (Op.equalIn 10000 78 (.agg (piL x.st x.ix).toArray) (.agg (piL y.st y.ix).toArray)).run Tryz.prog w = .ok true w := fun w => by rw [eqIn_pi, decide_eq_true h1]
             have HR : Hid (checkE ws hs ps = 5) := Lib.hid (HCL.out (decide_eq_true ⟨h1.1, .inl h1.2⟩))
             clear h1
             go_wp2_with (first
              | ((with_reducible show OpW 61); refine wpList_loadv _ rfl 78 (.tmp 60) rfl 2 (by kernel_rfl) wx.heap.size 0 (piL x.st x.ix) rfl (At.pre (b := [.int .i64 x.dv]) (BL.all (HV3).out)) rfl ?_)
              | ((with_reducible show OpW 63); refine wpList_loadv _ rfl 78 (.tmp 62) rfl 2 (by kernel_rfl) wb.heap.size 0 (piL y.st y.ix) rfl (At.pre (b := [.int .i64 y.dv]) (BL.all (HVwe).out)) rfl ?_))
             go_ret
             exact ⟨by rw [HR.out]; rfl, HWB.out⟩
            ·
             have er : ∀ w, (Op.equalIn 10000 78 (.agg (piL x.st x.ix).toArray) (.agg (piL y.st y.ix).toArray)).run Tryz.prog w = .ok false w := fun w => by rw [eqIn_pi, decide_eq_false h1]
             by_cases h2 : x.st = y.st
             ·
              have e2 : ((strB x.st).toList == (strB y.st).toList) = true := by rw [strB_eq]; exact decide_eq_true h2
              by_cases h3 : x.dv = y.dv
              ·
               have e3 : (x.dv == y.dv) = true := by rw [h3]; exact beq_self_eq_true _
               have HR : Hid (checkE ws hs ps = 5) := Lib.hid (HCL.out (decide_eq_true ⟨h2, .inr h3⟩))
               clear h1 h2 h3
               go_wp2_with (first
                | ((with_reducible show OpW 61); refine wpList_loadv _ rfl 78 (.tmp 60) rfl 2 (by kernel_rfl) wx.heap.size 0 (piL x.st x.ix) rfl (At.pre (b := [.int .i64 x.dv]) (BL.all (HV3).out)) rfl ?_)
                | ((with_reducible show OpW 63); refine wpList_loadv _ rfl 78 (.tmp 62) rfl 2 (by kernel_rfl) wb.heap.size 0 (piL y.st y.ix) rfl (At.pre (b := [.int .i64 y.dv]) (BL.all (HVwe).out)) rfl ?_))
               go_ret
               exact ⟨by rw [HR.out]; rfl, HWB.out⟩
              ·
               have e3 : (x.dv == y.dv) = false := by rw [beq_eq_false_iff_ne]; exact h3
               have HN := Lib.hid (HNX.out (decide_eq_false (fun h => h.2.elim (fun h4 => h1 ⟨h2, h4⟩) h3)))
               clear h1 h2 h3
               go_wp2_with (first
                | ((with_reducible show OpW 61); refine wpList_loadv _ rfl 78 (.tmp 60) rfl 2 (by kernel_rfl) wx.heap.size 0 (piL x.st x.ix) rfl (At.pre (b := [.int .i64 x.dv]) (BL.all (HV3).out)) rfl ?_)
                | ((with_reducible show OpW 63); refine wpList_loadv _ rfl 78 (.tmp 62) rfl 2 (by kernel_rfl) wb.heap.size 0 (piL y.st y.ix) rfl (At.pre (b := [.int .i64 y.dv]) (BL.all (HVwe).out)) rfl ?_))
               go_roundw
               case rel => exact ⟨j + 1, by omega, by go_num, HN, HWB⟩
               case measure => simp [intOf]; omega
             ·
              have e2 : ((strB x.st).toList == (strB y.st).toList) = false := by rw [strB_eq]; exact decide_eq_false h2
              have HN := Lib.hid (HNX.out (decide_eq_false (fun h => h2 h.1)))
              clear h1 h2
              go_wp2_with (first
               | ((with_reducible show OpW 61); refine wpList_loadv _ rfl 78 (.tmp 60) rfl 2 (by kernel_rfl) wx.heap.size 0 (piL x.st x.ix) rfl (At.pre (b := [.int .i64 x.dv]) (BL.all (HV3).out)) rfl ?_)
               | ((with_reducible show OpW 63); refine wpList_loadv _ rfl 78 (.tmp 62) rfl 2 (by kernel_rfl) wb.heap.size 0 (piL y.st y.ix) rfl (At.pre (b := [.int .i64 y.dv]) (BL.all (HVwe).out)) rfl ?_))
              go_roundw
              case rel => exact ⟨j + 1, by omega, by go_num, HN, HWB⟩
              case measure => simp [intOf]; omega
          ·
           refine Text.beff rfl rfl (fun K hK => ?_)
           refine wp_alloc 80 rfl plZ rplZ ?_
           intro wa a1 a2 a3
           have HVwa : Hid (BL wa wx.heap.size 80 plZ) := Lib.hid a1
           have HKwa := Lib.hid a2
           have HXwa : Hid (Below wx.heap.size wx wa) := Lib.hid (below_thenB (HX0).out (by have := (HX0).out.size; exact this) a2)
           refine hK _ _ HXwa.out ?_
           clear hK K a1 a2 a3
           have HGA : Hid (wx.heap.size ≤ wa.heap.size) := Lib.hid HXwa.out.size
           have HGB : Hid (wx.heap.size < wa.heap.size) := Lib.hid HVwa.out.lt
           refine Text.beff rfl rfl (fun K hK => ?_)
           refine wp_alloc 80 rfl plZ rplZ ?_
           intro wb a1 a2 a3
           have HVwb : Hid (BL wb wa.heap.size 80 plZ) := Lib.hid a1
           have HKwb := Lib.hid a2
           have HXwb : Hid (Below wx.heap.size wx wb) := Lib.hid (below_thenB (HXwa).out (by have := (HXwa).out.size; exact this) a2)
           refine hK _ _ HXwb.out ?_
           clear hK K a1 a2 a3
           have HV1 := Lib.hid (HVwa.out.kept HKwb.out)
           refine Text.beff rfl rfl (fun K hK => ?_)
           refine wp_storev 80 (.tmp 10) (.tmp 55) rfl 3 (by kernel_rfl) wa.heap.size 0 _ plZ (plL x) rfl rfl (HVwb).out rfl (one_pl x) (by decide) ?_
           intro wc a1 a2 a3
           have HVwc : Hid (BL wc wa.heap.size 80 (plL x)) := Lib.hid a1
           have HSwc := Lib.hid a2
           have HXwc : Hid (Below wx.heap.size wx wc) := Lib.hid (((Kp.of_below (S := fun _ => False) (HXwb).out).after a2 (fun i hi e => by have h9 := (HGA).out; have e' : i = wa.heap.size := e; omega)).below (Nat.le_refl _) (fun _ h => h.elim))
           refine hK _ _ HXwc.out ?_
           clear hK K a1 a2 a3
           have HV2 := Lib.hid (HSwc.out.bl HV1.out (fun e => by have := HGB.out; omega))
           refine Text.beff rfl rfl (fun K hK => ?_)
           refine wp_storev 80 (.tmp 11) (.tmp 59) rfl 3 (by kernel_rfl) wx.heap.size 0 _ plZ (plL y) rfl rfl (HV2).out rfl (one_pl y) (by decide) ?_
           intro we a1 a2 a3
           have HVwe : Hid (BL we wx.heap.size 80 (plL y)) := Lib.hid a1
           have HSwe := Lib.hid a2
           have HXwe : Hid (Below wx.heap.size wx we) := Lib.hid (((Kp.of_below (S := fun _ => False) (HXwc).out).after a2 (fun i hi e => by have h9 := (HGL).out; have e' : i = wx.heap.size := e; omega)).below (Nat.le_refl _) (fun _ h => h.elim))
           refine hK _ _ HXwe.out ?_
           clear hK K a1 a2 a3
           have HV3 := Lib.hid (HSwe.out.bl HVwc.out (fun e => by have := HGB.out; omega))
           refine Text.bdone ?_
           have q0 := (HV3).out.get (j := 0) rfl
           have q1 := (HVwe).out.get (j := 0) rfl
           have q2 := (HV3).out.get (j := 2) rfl
           have q3 := (HVwe).out.get (j := 2) rfl
           have HWB : Hid (Below w.heap.size w we) := Lib.hid (below_then hb1.out (HXwe).out)
           by_cases h1 : x.st = y.st ∧ x.ix = y.ix
           ·
            have er : ∀ w, (Op.equalIn 10000 78 (.agg (piL x.st x.ix).toArray) (.agg (piL y.st y.ix).toArray)).run Tryz.prog w = .ok true w := fun w => by rw [eqIn_pi, decide_eq_true h1]
            have HR : Hid (checkE ws hs ps = 5) := Lib.hid (HCL.out (decide_eq_true ⟨h1.1, .inl h1.2⟩))
            clear h1
            go_wp2_with (first
             | ((with_reducible show OpW 61); refine wpList_loadv _ rfl 78 (.tmp 60) rfl 2 (by kernel_rfl) wa.heap.size 0 (piL x.st x.ix) rfl (At.pre (b := [.int .i64 x.dv]) (BL.all (HV3).out)) rfl ?_)
             | ((with_reducible show OpW 63); refine wpList_loadv _ rfl 78 (.tmp 62) rfl 2 (by kernel_rfl) wx.heap.size 0 (piL y.st y.ix) rfl (At.pre (b := [.int .i64 y.dv]) (BL.all (HVwe).out)) rfl ?_))
            go_ret
            exact ⟨by rw [HR.out]; rfl, HWB.out⟩
           ·
            have er : ∀ w, (Op.equalIn 10000 78 (.agg (piL x.st x.ix).toArray) (.agg (piL y.st y.ix).toArray)).run Tryz.prog w = .ok false w := fun w => by rw [eqIn_pi, decide_eq_false h1]
            by_cases h2 : x.st = y.st
            ·
             have e2 : ((strB x.st).toList == (strB y.st).toList) = true := by rw [strB_eq]; exact decide_eq_true h2
             by_cases h3 : x.dv = y.dv
             ·
              have e3 : (x.dv == y.dv) = true := by rw [h3]; exact beq_self_eq_true _
              have HR : Hid (checkE ws hs ps = 5) := Lib.hid (HCL.out (decide_eq_true ⟨h2, .inr h3⟩))
              clear h1 h2 h3
              go_wp2_with (first
               | ((with_reducible show OpW 61); refine wpList_loadv _ rfl 78 (.tmp 60) rfl 2 (by kernel_rfl) wa.heap.size 0 (piL x.st x.ix) rfl (At.pre (b := [.int .i64 x.dv]) (BL.all (HV3).out)) rfl ?_)
               | ((with_reducible show OpW 63); refine wpList_loadv _ rfl 78 (.tmp 62) rfl 2 (by kernel_rfl) wx.heap.size 0 (piL y.st y.ix) rfl (At.pre (b := [.int .i64 y.dv]) (BL.all (HVwe).out)) rfl ?_))
              go_ret
              exact ⟨by rw [HR.out]; rfl, HWB.out⟩
             ·
              have e3 : (x.dv == y.dv) = false := by rw [beq_eq_false_iff_ne]; exact h3
              have HN := Lib.hid (HNX.out (decide_eq_false (fun h => h.2.elim (fun h4 => h1 ⟨h2, h4⟩) h3)))
              clear h1 h2 h3
              go_wp2_with (first
               | ((with_reducible show OpW 61); refine wpList_loadv _ rfl 78 (.tmp 60) rfl 2 (by kernel_rfl) wa.heap.size 0 (piL x.st x.ix) rfl (At.pre (b := [.int .i64 x.dv]) (BL.all (HV3).out)) rfl ?_)
               | ((with_reducible show OpW 63); refine wpList_loadv _ rfl 78 (.tmp 62) rfl 2 (by kernel_rfl) wx.heap.size 0 (piL y.st y.ix) rfl (At.pre (b := [.int .i64 y.dv]) (BL.all (HVwe).out)) rfl ?_))
              go_roundw
              case rel => exact ⟨j + 1, by omega, by go_num, HN, HWB⟩
              case measure => simp [intOf]; omega
            ·
             have e2 : ((strB x.st).toList == (strB y.st).toList) = false := by rw [strB_eq]; exact decide_eq_false h2
             have HN := Lib.hid (HNX.out (decide_eq_false (fun h => h2 h.1)))
             clear h1 h2
             go_wp2_with (first
              | ((with_reducible show OpW 61); refine wpList_loadv _ rfl 78 (.tmp 60) rfl 2 (by kernel_rfl) wa.heap.size 0 (piL x.st x.ix) rfl (At.pre (b := [.int .i64 x.dv]) (BL.all (HV3).out)) rfl ?_)
              | ((with_reducible show OpW 63); refine wpList_loadv _ rfl 78 (.tmp 62) rfl 2 (by kernel_rfl) wx.heap.size 0 (piL y.st y.ix) rfl (At.pre (b := [.int .i64 y.dv]) (BL.all (HVwe).out)) rfl ?_))
             go_roundw
             case rel => exact ⟨j + 1, by omega, by go_num, HN, HWB⟩
             case measure => simp [intOf]; omega
         ·
          obtain rfl : j = i := by omega
          have HN : Hid (∀ (t : Nat) (x : Pl), t < j + 1 → ps[t]? = some x → ∀ v ∈ ps.take t, clash x v = false) := Lib.hid (fun t z ht hz => by
           rcases Nat.lt_succ_iff_lt_or_eq.1 ht with h | rfl
           ·
            exact hall.out t z h hz
           ·
            have h9 := HX.out.symm.trans hz
            cases h9; exact hno.out)
          go_wp2_with fail
          go_roundw
          case rel => exact ⟨j + 1, by omega, by go_num, HN, hb1⟩
          case measure => simp [intOf]; omega
       ·
        obtain rfl : i = k := by omega
        have HE3 : Hid (checkE ws hs ps = if hs.any (fun h => decide (h.qt < usedI ws ps h.dv)) then 7 else 0) := Lib.hid (by
         rw [HE2.out, clash_no (fun j x hj hx => hall.out j x (by have := HLP.out; omega) hx)]; rfl)
        have HBB := hb
        clear hall hb HE2
        go_wp2_with fail
        go_loopw [12] (fun iv wr => ∃ t : Nat, t ≤ m ∧ iv = .int .i64 (t : Int) ∧ Hid (∀ h ∈ hs.take t, usedI ws ps h.dv ≤ h.qt) ∧ Hid (Below w.heap.size w wr)) (fun iv _ => m - (intOf iv).toNat)
        case atStart => exact ⟨0, by omega, rfl, Lib.hid (fun x hx => by simp at hx), HBB⟩
        case round =>
         obtain ⟨t, ht, rfl, hall, hb⟩ := hrel
         obtain ⟨wx, hwx⟩ : ∃ x, x = wr := ⟨_, rfl⟩
         rw [← hwx] at hb ⊢
         clear hwx
         by_cases hlt : t < m
         ·
          obtain ⟨x, g, o, cs, hx, ea, hat, hr⟩ := HH.out.at_ stay_hd hb.out hlt
          obtain ⟨rfl, _⟩ := hr
          subst ea
          have HX := Lib.hid hx
          have q0 : wx.drew.cell? ⟨g, o + t * 3, none⟩ = some (.int .i64 x.dv) := hat 0 _ rfl
          have q1 : wx.drew.cell? ⟨g, o + t * 3 + 1, none⟩ = some (.int .i64 x.qt) := hat 1 _ rfl
          obtain ⟨z, hz⟩ : ∃ z, z = usedI ws ps x.dv := ⟨_, rfl⟩
          have HZ := Lib.hid hz.symm
          clear hat hx hz
          cases f4 : decide (z > x.qt) with
          | true =>
           have HR : Hid (checkE ws hs ps = 7) := Lib.hid (by
            rw [HE3.out, if_pos]
            exact List.any_eq_true.2 ⟨x, List.mem_of_getElem? HX.out, by rw [HZ.out]; exact decide_eq_true (of_decide_eq_true f4)⟩)
           go_wp2_with fail
           refine Text.wp_region_text (fun w' => w'.cell? ⟨g, o + t * 3, none⟩ = some (.int .i64 x.dv) ∧ w'.cell? ⟨g, o + t * 3 + 1, none⟩ = some (.int .i64 x.qt)) [(0, 4), (1, 4), (2, 4), (3, 4), (4, 4), (5, 4), (8, 4), (9, 4), (10, 4), (11, 4), (6, 0), (12, 0), (7, 2), (13, 4)] (by kernel_rfl) (by kernel_rfl) (fun _ _ _ _ _ h => h) (⟨q0, q1⟩) ?_
           iterate 10 (refine Text.purek rfl rfl (fun K hK => ⟨_, fun w' => by go_simp <;> rfl, ?_⟩); go_simp; refine hK _ ?_; clear hK K)
           iterate 2 (refine Text.heldk rfl rfl (fun K hK => ⟨_, fun w' hw' => by go_simp <;> rfl, ?_⟩); go_simp; refine hK _ ?_; clear hK K)
           refine Text.eff rfl rfl (fun K hK => ?_)
           go_simp
           refine (rused_any A n c ws P _ q ps x.dv wx.drew ((H.out.kept stay_wt hb.out).drew stay_wt) ((HP.out.kept stay_pl hb.out).drew stay_pl) HW.out hpm).mono ?_
           rintro e w2 ⟨rfl, hw⟩
           rw [hw, HZ.out]
           clear hw w2
           refine hK _ _ ⟨q0, q1⟩ ?_
           clear hK K
           (refine Text.purek rfl rfl (fun K hK => ⟨_, fun w' => by go_simp <;> rfl, ?_⟩); go_simp; refine hK _ ?_; clear hK K)
           refine Text.done ?_
           go_wp2_with fail
           go_ret
           exact ⟨by rw [HR.out]; rfl, hb.out.drew⟩
          | false =>
           have HN : Hid (∀ h ∈ hs.take (t + 1), usedI ws ps h.dv ≤ h.qt) := Lib.hid (fun y hy => by
            rcases (mem_next HX.out).1 hy with h | rfl
            ·
             exact hall.out y h
            ·
             rw [HZ.out]; have := of_decide_eq_false f4; omega)
           go_wp2_with fail
           refine Text.wp_region_text (fun w' => w'.cell? ⟨g, o + t * 3, none⟩ = some (.int .i64 x.dv) ∧ w'.cell? ⟨g, o + t * 3 + 1, none⟩ = some (.int .i64 x.qt)) [(0, 4), (1, 4), (2, 4), (3, 4), (4, 4), (5, 4), (8, 4), (9, 4), (10, 4), (11, 4), (6, 0), (12, 0), (7, 2), (13, 4)] (by kernel_rfl) (by kernel_rfl) (fun _ _ _ _ _ h => h) (⟨q0, q1⟩) ?_
           iterate 10 (refine Text.purek rfl rfl (fun K hK => ⟨_, fun w' => by go_simp <;> rfl, ?_⟩); go_simp; refine hK _ ?_; clear hK K)
           iterate 2 (refine Text.heldk rfl rfl (fun K hK => ⟨_, fun w' hw' => by go_simp <;> rfl, ?_⟩); go_simp; refine hK _ ?_; clear hK K)
           refine Text.eff rfl rfl (fun K hK => ?_)
           go_simp
           refine (rused_any A n c ws P _ q ps x.dv wx.drew ((H.out.kept stay_wt hb.out).drew stay_wt) ((HP.out.kept stay_pl hb.out).drew stay_pl) HW.out hpm).mono ?_
           rintro e w2 ⟨rfl, hw⟩
           rw [hw, HZ.out]
           clear hw w2
           refine hK _ _ ⟨q0, q1⟩ ?_
           clear hK K
           (refine Text.purek rfl rfl (fun K hK => ⟨_, fun w' => by go_simp <;> rfl, ?_⟩); go_simp; refine hK _ ?_; clear hK K)
           refine Text.done ?_
           go_wp2_with fail
           go_roundw
           case rel => exact ⟨t + 1, by omega, by go_num, HN, Lib.hid hb.out.drew⟩
           case measure => simp [intOf]; omega
         ·
          obtain rfl : t = m := by omega
          have HR : Hid (checkE ws hs ps = 0) := Lib.hid (by
           rw [HE3.out, if_neg]
           rw [Bool.not_eq_true, List.any_eq_false]
           intro x hx
           have := hall.out x (by rw [take_end HLH.out]; exact hx)
           simpa using this)
          go_wp2_with fail
          go_ret
          exact ⟨by rw [HR.out]; rfl, hb.out⟩
end
end Go.Proofs.YtklfficlegfhjaaGreat
