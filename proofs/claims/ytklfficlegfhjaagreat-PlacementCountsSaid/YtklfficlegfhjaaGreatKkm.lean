/- The law's few, limit, without; Rebalance. -/
import Derived.Test.YtklfficlegfhjaaGreatC17
namespace Go.Proofs.YtklfficlegfhjaaGreat
open Go Go.RowKit Go.Shelf Go.WideMaps Go.ChangeMaps Gf Sha

def fewB (n m p : Nat) : Bool := decide (n ≤ 10) && decide (m ≤ 14) && decide (p ≤ 40)
set_option maxHeartbeats 1000000 in
theorem few_any (A : Option Addr) (n c : Nat) (B : Option Addr) (m d : Nat) (P : Option Addr) (p q : Nat) (w : World) :
    Calls Tryz.prog 9 #[.slice A n c, .slice B m d, .slice P p q] w fun e w' => e = .returned (.bool (fewB n m p)) ∧ w' = w := by
  unfold fewB
  cases f1 : decide (n ≤ 10) with
  | false =>
    have f2 : decide ((n : Int) ≤ 10) = false := decide_eq_false (by have := of_decide_eq_false f1; omega)
    go_enter Tryz.func9, Tryz.ntmps9
    go_wp2_with fail
    go_ret
    exact ⟨rfl, rfl⟩
  | true =>
    have f2 : decide ((n : Int) ≤ 10) = true := decide_eq_true (by have := of_decide_eq_true f1; omega)
    cases f3 : decide (m ≤ 14) with
    | false =>
      have f4 : decide ((m : Int) ≤ 14) = false := decide_eq_false (by have := of_decide_eq_false f3; omega)
      go_enter Tryz.func9, Tryz.ntmps9
      go_wp2_with fail
      go_ret
      exact ⟨rfl, rfl⟩
    | true =>
      have f4 : decide ((m : Int) ≤ 14) = true := decide_eq_true (by have := of_decide_eq_true f3; omega)
      cases f5 : decide (p ≤ 40) with
      | false =>
        have f6 : decide ((p : Int) ≤ 40) = false := decide_eq_false (by have := of_decide_eq_false f5; omega)
        go_enter Tryz.func9, Tryz.ntmps9
        go_wp2_with fail
        go_ret
        exact ⟨rfl, rfl⟩
      | true =>
        have f6 : decide ((p : Int) ≤ 40) = true := decide_eq_true (by have := of_decide_eq_true f5; omega)
        go_enter Tryz.func9, Tryz.ntmps9
        go_wp2_with fail
        go_ret
        exact ⟨rfl, rfl⟩
def limI (b : Int) : Int := if 600 < b ∧ b ≤ 1048576 then 600 else b
theorem limit_any (b : Int) (w : World) : Calls Tryz.prog 23 #[.int .i64 b] w fun e w' => e = .returned (.int .i64 (limI b)) ∧ w' = w := by
  cases f1 : decide (b > 600) with
  | false =>
    have HN : Hid (limI b = b) := Lib.hid (if_neg (fun h => (of_decide_eq_false f1) h.1))
    go_enter Tryz.func23, Tryz.ntmps23
    go_wp2_with fail
    go_ret
    exact ⟨by rw [HN.out]; rfl, rfl⟩
  | true =>
    cases f2 : decide (b ≤ 1048576) with
    | false =>
      have HN : Hid (limI b = b) := Lib.hid (if_neg (fun h => (of_decide_eq_false f2) h.2))
      go_enter Tryz.func23, Tryz.ntmps23
      go_wp2_with fail
      go_ret
      exact ⟨by rw [HN.out]; rfl, rfl⟩
    | true =>
      have HN : Hid (limI b = 600) := Lib.hid (if_pos ⟨of_decide_eq_true f1, of_decide_eq_true f2⟩)
      go_enter Tryz.func23, Tryz.ntmps23
      go_wp2_with fail
      go_ret
      exact ⟨by rw [HN.out]; rfl, rfl⟩
/-- Those that are not gone. -/
def stayH (gone : List Int) (hs : List Hd) : List Hd := hs.filter (fun h => decide (h.dv ∉ gone))
def stayP (gone : List Int) (ps : List Pl) : List Pl := ps.filter (fun p => decide (p.dv ∉ gone))
theorem bslHd1 (x : Hd) (w : World) : (Instr.buildSlice 23 1 #[(0, .agg (hdL x).toArray)]).run Tryz.prog w = .ok (.slice (some ⟨w.heap.size, 0, none⟩) 1 1) (w.alloc (.cells (hdL x).toArray 76)) := by kernel_rfl
theorem bslPl1 (x : Pl) (w : World) : (Instr.buildSlice 24 1 #[(0, .agg (plL x).toArray)]).run Tryz.prog w = .ok (.slice (some ⟨w.heap.size, 0, none⟩) 1 1) (w.alloc (.cells (plL x).toArray 85)) := by kernel_rfl
theorem bsl0_hd (w : World) : (Instr.buildSlice 23 0 #[]).run Tryz.prog w = .ok (.slice (some ⟨w.heap.size, 0, none⟩) 0 0) (w.alloc (.cells ([] : List Value).toArray 76)) := by kernel_rfl
theorem bsl0_plw (w : World) : (Instr.buildSlice 24 0 #[]).run Tryz.prog w = .ok (.slice (some ⟨w.heap.size, 0, none⟩) 0 0) (w.alloc (.cells ([] : List Value).toArray 85)) := by kernel_rfl
theorem filt_le {α : Type} (p : α → Bool) (l : List α) (k : Nat) : ((l.take k).filter p).length ≤ k := Nat.le_trans (List.length_filter_le _ _) (by rw [List.length_take]; omega)
theorem OwnC.far {α : Type} {C : α → List Value} {s base m k : Nat} {te te' : TypeId} {w w' : World} {v u u' : Value} {L : List α} {l xs : List Value} {n : Nat} (h : OwnC C s te w base v L) (h2 : RW w te' m u n l) (ap : AppR w te' m u n k l xs u' w') (ht : te ≠ te') : OwnC C s te w' base v L :=
  ⟨h.1.kp ap.kp (fun b hb e => by
    obtain ⟨c1, b1⟩ := h.1.ty hb
    obtain ⟨c2, b2⟩ := h2.ty e
    exact ht (b1.ty b2)), h.2⟩
theorem notin_next {gone : List Int} {j : Nat} {z d : Int} (h : gone[j]? = some z) : decide (d ∉ gone.take (j + 1)) = (decide (d ∉ gone.take j) && !decide (z = d)) := by
  have h1 := mem_next (y := d) h
  by_cases h2 : d ∈ gone.take j
  · rw [decide_eq_false (fun h3 => h3 (h1.2 (.inl h2))), decide_eq_false (fun h3 => h3 h2), Bool.false_and]
  · by_cases h3 : z = d
    · rw [decide_eq_false (fun h4 => h4 (h1.2 (.inr h3.symm))), decide_eq_true h3, Bool.not_true, Bool.and_false]
    · rw [decide_eq_true (show ¬ d ∈ gone.take (j + 1) from fun h4 => (h1.1 h4).elim h2 (fun h5 => h3 h5.symm)), decide_eq_true h2, decide_eq_false h3]; rfl
section
set_option maxRecDepth 100000
set_option maxHeartbeats 4000000
theorem without_any (B : Option Addr) (m d : Nat) (hs : List Hd) (P : Option Addr) (p q : Nat) (ps : List Pl) (G : Option Addr) (gn gc : Nat) (gone : List Int) (w : World) (hh : LS rHd 3 24 w B m d hs) (hp : LS rPl 3 32 w P p q ps) (hg : LS rInt 1 8 w G gn gc gone) :
    Calls Tryz.prog 31 #[.slice B m d, .slice P p q, .slice G gn gc] w fun e w' => ∃ A1 n1 c1 A2 n2 c2, e = .returned (.tuple #[.slice A1 n1 c1, .slice A2 n2 c2]) ∧ LS rHd 3 24 w' A1 n1 c1 (stayH gone hs) ∧ LS rPl 3 32 w' A2 n2 c2 (stayP gone ps) ∧ Below w.heap.size w w' := by
  have hm := hh.len_le
  have hpn := hp.len_le
  have hgn := hg.len_le
  have HH := Lib.hid hh
  have HP := Lib.hid hp
  have HG := Lib.hid hg
  have HLH := Lib.hid hh.1
  have HLP := Lib.hid hp.1
  have HLG := Lib.hid hg.1
  have HOH := Lib.hid (LS.okHd hh)
  have HOP := Lib.hid (LS.okPl hp)
  clear hh hp hg
  go_enter Tryz.func31, Tryz.ntmps31
  go_wp2_with (first
    | ((with_reducible show wpList _ _ _ (⟨some 16, _, _, _, _, _⟩ :: _) _ _); refine wpList_bslice _ rfl 23 76 0 _ rfl #[] (by rw [List.map_toArray]; rfl) [] (bsl0_hd _) ?_; intro w1 a1 a2 a3; have HG1 := Lib.hid a1; have HB1 := Lib.hid a2; clear a1 a2 a3)
    | ((with_reducible show wpList _ _ _ (⟨some 17, _, _, _, _, _⟩ :: _) _ _); refine wpList_bslice _ rfl 24 85 0 _ rfl #[] (by rw [List.map_toArray]; rfl) [] (bsl0_plw _) ?_; intro w2 a1 a2 a3; have HG2 := Lib.hid a1; have HB2 := Lib.hid (below_then HB1.out a2); have HG1' := Lib.hid (HG1.out.kept a2); clear a1 a2 a3))
  have HOZ : Hid (OwnC (fun x => plL x) 3 85 w2 w.heap.size (.slice (some ⟨w1.heap.size, 0, none⟩) 0 0) []) := Lib.hid (OwnC.nil' HG2.out HB1.out.size)
  have HPB : Hid (w1.heap.size ≠ w.heap.size) := Lib.hid (fun e => by have := HG1.out.lt; omega)
  go_loopw [8, 10] (fun v iv wr => ∃ k : Nat, k ≤ m ∧ iv = .int .i64 (k : Int) ∧ Hid (OwnC (fun x => hdL x) 3 76 wr w.heap.size v ((hs.take k).filter (fun h => decide (h.dv ∉ gone)))) ∧ Hid (Below w.heap.size w wr) ∧ Hid (BL wr w1.heap.size 85 [])) (fun _ iv _ => m - (intOf iv).toNat)
  case atStart => exact ⟨0, by omega, rfl, Lib.hid (OwnC.nil' HG1'.out (Nat.le_refl _)), HB2, HG2⟩
  case round =>
    obtain ⟨k, hk, rfl, ho, hb, hpl⟩ := hrel
    obtain ⟨wx, hwx⟩ : ∃ x, x = wr := ⟨_, rfl⟩
    rw [← hwx] at ho hb hpl ⊢
    clear hwx
    by_cases hlt : k < m
    · obtain ⟨x, g, o, cs, hx, ea, hat, hr⟩ := HH.out.at_ stay_hd hb.out hlt
      obtain ⟨rfl, _⟩ := hr
      subst ea
      have HX := Lib.hid hx
      have HA := Lib.hid hat
      clear hx hat
      go_wp2_with fail
      go_loopw [11, 12] (fun bv jv wr => ∃ (j : Nat) (b : Bool), j ≤ gn ∧ jv = .int .i64 (j : Int) ∧ bv = .bool b ∧ Hid (b = decide (x.dv ∉ gone.take j)) ∧ Hid (Below wx.heap.size wx wr)) (fun _ jv _ => gn - (intOf jv).toNat)
      case atStart => exact ⟨0, true, by omega, rfl, rfl, Lib.hid (by simp), Lib.hid (Below.refl _ _)⟩
      case round =>
        obtain ⟨j, b, hj, rfl, rfl, hbb, hb1⟩ := hrel
        obtain ⟨wy, hwy⟩ : ∃ x, x = wr := ⟨_, rfl⟩
        rw [← hwy] at hb1 ⊢
        clear hwy
        have HB1 := Lib.hid (below_then hb.out hb1.out)
        by_cases hlt2 : j < gn
        · obtain ⟨z, gg, og, hz, eg, cz⟩ := HG.out.int_at HB1.out hlt2
          subst eg
          have HN2 := Lib.hid (notin_next (d := x.dv) hz)
          have p3 : wy.drew.cell? ⟨gg, og + j, none⟩ = some (.int .i64 z) := cz
          have p4 : wy.drew.cell? ⟨g, o + k * 3, none⟩ = some (.int .i64 x.dv) := (HA.out.kept (below_then hb1.out (Below.refl _ wy).drew)) 0 _ rfl
          clear hz cz
          cases b with
          | true =>
            by_cases h1 : z = x.dv
            · have f1 : (z != x.dv) = false := by rw [h1]; exact bne_self_eq_false' ..
              have HF : Hid (false = decide (x.dv ∉ gone.take (j + 1))) := Lib.hid (by rw [HN2.out, decide_eq_true h1, Bool.not_true, Bool.and_false])
              clear h1
              go_wp2_with fail
              refine Text.wp_region_text (fun _ => True) [(0, 4), (1, 4), (2, 4), (3, 4), (4, 4), (6, 4), (7, 4), (8, 4), (9, 4), (5, 1), (10, 1), (11, 4), (12, 4), (13, 4)] (by kernel_rfl) (by kernel_rfl) (fun _ _ _ _ _ h => h) (trivial) ?_
              iterate 9 (refine Text.purek rfl rfl (fun K hK => ⟨_, fun w' => by go_simp <;> rfl, ?_⟩); go_simp; refine hK _ ?_; clear hK K)
              iterate 2 (refine Text.readk rfl rfl (fun K hK => ⟨_, by go_simp <;> rfl, ?_⟩); go_simp; refine hK _ ?_; clear hK K)
              iterate 3 (refine Text.purek rfl rfl (fun K hK => ⟨_, fun w' => by go_simp <;> rfl, ?_⟩); go_simp; refine hK _ ?_; clear hK K)
              refine Text.done ?_
              go_wp2_with fail
              go_roundw
              case rel => exact ⟨j + 1, false, by omega, by go_num, rfl, HF, Lib.hid hb1.out.drew⟩
              case measure => simp [intOf]; omega
            · have f1 : (z != x.dv) = true := by rw [bne_iff_ne]; exact h1
              have HF : Hid (true = decide (x.dv ∉ gone.take (j + 1))) := Lib.hid (by rw [HN2.out, decide_eq_false h1, ← hbb.out]; rfl)
              clear h1
              go_wp2_with fail
              refine Text.wp_region_text (fun _ => True) [(0, 4), (1, 4), (2, 4), (3, 4), (4, 4), (6, 4), (7, 4), (8, 4), (9, 4), (5, 1), (10, 1), (11, 4), (12, 4), (13, 4)] (by kernel_rfl) (by kernel_rfl) (fun _ _ _ _ _ h => h) (trivial) ?_
              iterate 9 (refine Text.purek rfl rfl (fun K hK => ⟨_, fun w' => by go_simp <;> rfl, ?_⟩); go_simp; refine hK _ ?_; clear hK K)
              iterate 2 (refine Text.readk rfl rfl (fun K hK => ⟨_, by go_simp <;> rfl, ?_⟩); go_simp; refine hK _ ?_; clear hK K)
              iterate 3 (refine Text.purek rfl rfl (fun K hK => ⟨_, fun w' => by go_simp <;> rfl, ?_⟩); go_simp; refine hK _ ?_; clear hK K)
              refine Text.done ?_
              go_wp2_with fail
              go_roundw
              case rel => exact ⟨j + 1, true, by omega, by go_num, rfl, HF, Lib.hid hb1.out.drew⟩
              case measure => simp [intOf]; omega
          | false =>
            have HF : Hid (false = decide (x.dv ∉ gone.take (j + 1))) := Lib.hid (by rw [HN2.out, ← hbb.out, Bool.false_and])
            go_wp2_with fail
            refine Text.wp_region_text (fun _ => True) [(0, 4), (1, 4), (2, 4), (3, 4), (4, 4), (5, 4), (6, 4), (7, 4), (8, 4), (9, 4), (10, 4), (11, 4), (12, 4), (13, 4)] (by kernel_rfl) (by kernel_rfl) (fun _ _ _ _ _ h => h) (trivial) ?_
            iterate 2 (refine Text.purek rfl rfl (fun K hK => ⟨_, fun w' => by go_simp <;> rfl, ?_⟩); go_simp; refine hK _ ?_; clear hK K)
            iterate 10 (refine Text.skipk (.inr (.inr rfl)) rfl rfl (fun K hK => ?_); go_simp; refine hK _ ?_; clear hK K)
            iterate 2 (refine Text.purek rfl rfl (fun K hK => ⟨_, fun w' => by go_simp <;> rfl, ?_⟩); go_simp; refine hK _ ?_; clear hK K)
            refine Text.done ?_
            go_wp2_with fail
            go_roundw
            case rel => exact ⟨j + 1, false, by omega, by go_num, rfl, HF, Lib.hid hb1.out.drew⟩
            case measure => simp [intOf]; omega
        · obtain rfl : j = gn := by omega
          have e1 : gone.take j = gone := take_end HLG.out
          rw [e1] at hbb
          have HO1 := Lib.hid (ho.out.kept hb1.out)
          have p5 := Lib.hid (HA.out.kept hb1.out)
          cases b with
          | true =>
            have HF : Hid ((hs.take (k + 1)).filter (fun h => decide (h.dv ∉ gone)) = (hs.take k).filter (fun h => decide (h.dv ∉ gone)) ++ [x]) := Lib.hid (by rw [take_next HX.out, List.filter_append, List.filter_cons_of_pos (p := fun h : Hd => decide (h.dv ∉ gone)) (hbb.out.symm)]; rfl)
            have HLN : Hid (((hs.take k).filter (fun h => decide (h.dv ∉ gone))).length ≤ k) := Lib.hid (filt_le _ _ _)
            go_wp2_with (first
              | ((with_reducible show wpList _ _ _ (⟨some 48, _, _, _, _, _⟩ :: _) _ _); refine wpList_loadv _ rfl 76 (.tmp 47) rfl 3 (by kernel_rfl) g (o + k * 3) (hdL x) (by go_simp) p5.out rfl ?_)
              | ((with_reducible show wpList _ _ _ (⟨some 49, _, _, _, _, _⟩ :: _) _ _); refine wpList_bslice _ rfl 23 76 1 _ rfl #[(0, .agg (hdL x).toArray)] (by rw [List.map_toArray]; rfl) (hdL x) (bslHd1 x _) ?_; intro w2 a1 a2 a3; have HG2 := Lib.hid a1; have HB2 := Lib.hid a2; clear a1 a2 a3)
              | ((with_reducible show wpList _ _ _ (⟨some 50, _, _, _, _, _⟩ :: _) _ _); obtain ⟨iS, i1, i2, i3, i4⟩ := info_some infoHd; refine wpList_appRW _ rfl (.tmp 44) (.tmp 49) 23 76 3 iS _ rfl Tryz.underlying23 i1 i2 i3 rfl _ _ _ rfl (HO1.out.kept HB2.out).1 wy.heap.size (hdL x) rfl HG2.out rfl (one_hd x) (by rw [i4]; have := HLN.out; omega) (by have := HLN.out; omega) ?_; intro v' w3 ap; have HO3 := Lib.hid ((HO1.out.kept HB2.out).push ap (Nat.le_trans HB1.out.size HB2.out.size)); have HB3 : Hid (Below w.heap.size w w3) := Lib.hid (((Kp.of_below (S := fun _ => False) (below_thenB HB1.out HB1.out.size HB2.out)).after ap.kp (fun i hi e => by have := HO1.out.2 i e; omega)).below (Nat.le_refl _) (fun _ h => h.elim)); have HPZ := Lib.hid (ap.bl (HO1.out.kept HB2.out).1 ((hpl.out.kept hb1.out).kept HB2.out) (by decide)); clear ap i1 i2 i3 i4))
            go_roundw
            case rel => exact ⟨k + 1, by omega, by go_num, by rw [HF.out]; exact HO3, HB3 , HPZ⟩
            case measure => simp [intOf]; omega
          | false =>
            have HF : Hid ((hs.take (k + 1)).filter (fun h => decide (h.dv ∉ gone)) = (hs.take k).filter (fun h => decide (h.dv ∉ gone))) := Lib.hid (by rw [take_next HX.out, List.filter_append, List.filter_cons_of_neg (p := fun h : Hd => decide (h.dv ∉ gone)) (by rw [← hbb.out]; decide)]; simp)
            go_wp2_with fail
            go_roundw
            case rel => exact ⟨k + 1, by omega, by go_num, by rw [HF.out]; exact HO1, HB1 , Lib.hid (hpl.out.kept hb1.out)⟩
            case measure => simp [intOf]; omega
    · obtain rfl : k = m := by omega
      have e1 : hs.take k = hs := take_end HLH.out
      rw [e1] at ho
      obtain ⟨A1, c1, ev, _⟩ := ho.out.1.form
      obtain ⟨n1, hn1⟩ : ∃ n1, n1 = (hs.filter (fun h => decide (h.dv ∉ gone))).length := ⟨_, rfl⟩
      rw [← hn1] at ev
      clear hn1
      subst ev
      have HLS := ho
      have HBx := hb
      clear e1
      go_wp2_with fail
      go_loopw [9, 13] (fun v iv wr => ∃ k : Nat, k ≤ p ∧ iv = .int .i64 (k : Int) ∧ Hid (OwnC (fun x => plL x) 3 85 wr w.heap.size v ((ps.take k).filter (fun h => decide (h.dv ∉ gone)))) ∧ Hid (Below w.heap.size w wr) ∧ Hid (OwnC (fun x => hdL x) 3 76 wr w.heap.size (.slice A1 n1 c1) (stayH gone hs))) (fun _ iv _ => p - (intOf iv).toNat)
      case atStart => exact ⟨0, by omega, rfl, Lib.hid (OwnC.nil' hpl.out HB1.out.size), HBx, HLS⟩
      case round =>
        obtain ⟨k, hk, rfl, ho, hb, hpl⟩ := hrel
        obtain ⟨wx, hwx⟩ : ∃ x, x = wr := ⟨_, rfl⟩
        rw [← hwx] at ho hb hpl ⊢
        clear hwx
        by_cases hlt : k < p
        · obtain ⟨x, g, o, hx, ea, hat, _⟩ := HP.out.pl_at hb.out hlt
          subst ea
          have HX := Lib.hid hx
          have HA := Lib.hid hat
          clear hx hat
          go_wp2_with fail
          go_loopw [14, 15] (fun bv jv wr => ∃ (j : Nat) (b : Bool), j ≤ gn ∧ jv = .int .i64 (j : Int) ∧ bv = .bool b ∧ Hid (b = decide (x.dv ∉ gone.take j)) ∧ Hid (Below wx.heap.size wx wr)) (fun _ jv _ => gn - (intOf jv).toNat)
          case atStart => exact ⟨0, true, by omega, rfl, rfl, Lib.hid (by simp), Lib.hid (Below.refl _ _)⟩
          case round =>
            obtain ⟨j, b, hj, rfl, rfl, hbb, hb1⟩ := hrel
            obtain ⟨wy, hwy⟩ : ∃ x, x = wr := ⟨_, rfl⟩
            rw [← hwy] at hb1 ⊢
            clear hwy
            have HB1 := Lib.hid (below_then hb.out hb1.out)
            by_cases hlt2 : j < gn
            · obtain ⟨z, gg, og, hz, eg, cz⟩ := HG.out.int_at HB1.out hlt2
              subst eg
              have HN2 := Lib.hid (notin_next (d := x.dv) hz)
              have p3 : wy.drew.cell? ⟨gg, og + j, none⟩ = some (.int .i64 z) := cz
              have p4 : wy.drew.cell? ⟨g, o + k * 3 + 2, none⟩ = some (.int .i64 x.dv) := (HA.out.kept (below_then hb1.out (Below.refl _ wy).drew)) 2 _ rfl
              clear hz cz
              cases b with
              | true =>
                by_cases h1 : z = x.dv
                · have f1 : (z != x.dv) = false := by rw [h1]; exact bne_self_eq_false' ..
                  have HF : Hid (false = decide (x.dv ∉ gone.take (j + 1))) := Lib.hid (by rw [HN2.out, decide_eq_true h1, Bool.not_true, Bool.and_false])
                  clear h1
                  go_wp2_with fail
                  refine Text.wp_region_text (fun _ => True) [(0, 4), (1, 4), (2, 4), (3, 4), (4, 4), (6, 4), (7, 4), (8, 4), (9, 4), (5, 1), (10, 1), (11, 4), (12, 4), (13, 4)] (by kernel_rfl) (by kernel_rfl) (fun _ _ _ _ _ h => h) (trivial) ?_
                  iterate 9 (refine Text.purek rfl rfl (fun K hK => ⟨_, fun w' => by go_simp <;> rfl, ?_⟩); go_simp; refine hK _ ?_; clear hK K)
                  iterate 2 (refine Text.readk rfl rfl (fun K hK => ⟨_, by go_simp <;> rfl, ?_⟩); go_simp; refine hK _ ?_; clear hK K)
                  iterate 3 (refine Text.purek rfl rfl (fun K hK => ⟨_, fun w' => by go_simp <;> rfl, ?_⟩); go_simp; refine hK _ ?_; clear hK K)
                  refine Text.done ?_
                  go_wp2_with fail
                  go_roundw
                  case rel => exact ⟨j + 1, false, by omega, by go_num, rfl, HF, Lib.hid hb1.out.drew⟩
                  case measure => simp [intOf]; omega
                · have f1 : (z != x.dv) = true := by rw [bne_iff_ne]; exact h1
                  have HF : Hid (true = decide (x.dv ∉ gone.take (j + 1))) := Lib.hid (by rw [HN2.out, decide_eq_false h1, ← hbb.out]; rfl)
                  clear h1
                  go_wp2_with fail
                  refine Text.wp_region_text (fun _ => True) [(0, 4), (1, 4), (2, 4), (3, 4), (4, 4), (6, 4), (7, 4), (8, 4), (9, 4), (5, 1), (10, 1), (11, 4), (12, 4), (13, 4)] (by kernel_rfl) (by kernel_rfl) (fun _ _ _ _ _ h => h) (trivial) ?_
                  iterate 9 (refine Text.purek rfl rfl (fun K hK => ⟨_, fun w' => by go_simp <;> rfl, ?_⟩); go_simp; refine hK _ ?_; clear hK K)
                  iterate 2 (refine Text.readk rfl rfl (fun K hK => ⟨_, by go_simp <;> rfl, ?_⟩); go_simp; refine hK _ ?_; clear hK K)
                  iterate 3 (refine Text.purek rfl rfl (fun K hK => ⟨_, fun w' => by go_simp <;> rfl, ?_⟩); go_simp; refine hK _ ?_; clear hK K)
                  refine Text.done ?_
                  go_wp2_with fail
                  go_roundw
                  case rel => exact ⟨j + 1, true, by omega, by go_num, rfl, HF, Lib.hid hb1.out.drew⟩
                  case measure => simp [intOf]; omega
              | false =>
                have HF : Hid (false = decide (x.dv ∉ gone.take (j + 1))) := Lib.hid (by rw [HN2.out, ← hbb.out, Bool.false_and])
                go_wp2_with fail
                refine Text.wp_region_text (fun _ => True) [(0, 4), (1, 4), (2, 4), (3, 4), (4, 4), (5, 4), (6, 4), (7, 4), (8, 4), (9, 4), (10, 4), (11, 4), (12, 4), (13, 4)] (by kernel_rfl) (by kernel_rfl) (fun _ _ _ _ _ h => h) (trivial) ?_
                iterate 2 (refine Text.purek rfl rfl (fun K hK => ⟨_, fun w' => by go_simp <;> rfl, ?_⟩); go_simp; refine hK _ ?_; clear hK K)
                iterate 10 (refine Text.skipk (.inr (.inr rfl)) rfl rfl (fun K hK => ?_); go_simp; refine hK _ ?_; clear hK K)
                iterate 2 (refine Text.purek rfl rfl (fun K hK => ⟨_, fun w' => by go_simp <;> rfl, ?_⟩); go_simp; refine hK _ ?_; clear hK K)
                refine Text.done ?_
                go_wp2_with fail
                go_roundw
                case rel => exact ⟨j + 1, false, by omega, by go_num, rfl, HF, Lib.hid hb1.out.drew⟩
                case measure => simp [intOf]; omega
            · obtain rfl : j = gn := by omega
              have e1 : gone.take j = gone := take_end HLG.out
              rw [e1] at hbb
              have HO1 := Lib.hid (ho.out.kept hb1.out)
              have p5 := Lib.hid (HA.out.kept hb1.out)
              cases b with
              | true =>
                have HF : Hid ((ps.take (k + 1)).filter (fun h => decide (h.dv ∉ gone)) = (ps.take k).filter (fun h => decide (h.dv ∉ gone)) ++ [x]) := Lib.hid (by rw [take_next HX.out, List.filter_append, List.filter_cons_of_pos (p := fun h : Pl => decide (h.dv ∉ gone)) (hbb.out.symm)]; rfl)
                have HLN : Hid (((ps.take k).filter (fun h => decide (h.dv ∉ gone))).length ≤ k) := Lib.hid (filt_le _ _ _)
                go_wp2_with (first
                  | ((with_reducible show wpList _ _ _ (⟨some 81, _, _, _, _, _⟩ :: _) _ _); refine wpList_loadv _ rfl 85 (.tmp 80) rfl 3 (by kernel_rfl) g (o + k * 3) (plL x) (by go_simp) p5.out rfl ?_)
                  | ((with_reducible show wpList _ _ _ (⟨some 82, _, _, _, _, _⟩ :: _) _ _); refine wpList_bslice _ rfl 24 85 1 _ rfl #[(0, .agg (plL x).toArray)] (by rw [List.map_toArray]; rfl) (plL x) (bslPl1 x _) ?_; intro w2 a1 a2 a3; have HG2 := Lib.hid a1; have HB2 := Lib.hid a2; clear a1 a2 a3)
                  | ((with_reducible show wpList _ _ _ (⟨some 83, _, _, _, _, _⟩ :: _) _ _); obtain ⟨iS, i1, i2, i3, i4⟩ := info_some infoPl; refine wpList_appRW _ rfl (.tmp 77) (.tmp 82) 24 85 3 iS _ rfl Tryz.underlying24 i1 i2 i3 rfl _ _ _ rfl (HO1.out.kept HB2.out).1 wy.heap.size (plL x) rfl HG2.out rfl (one_pl x) (by rw [i4]; have := HLN.out; omega) (by have := HLN.out; omega) ?_; intro v' w3 ap; have HO3 := Lib.hid ((HO1.out.kept HB2.out).push ap (Nat.le_trans HB1.out.size HB2.out.size)); have HB3 : Hid (Below w.heap.size w w3) := Lib.hid (((Kp.of_below (S := fun _ => False) (below_thenB HB1.out HB1.out.size HB2.out)).after ap.kp (fun i hi e => by have := HO1.out.2 i e; omega)).below (Nat.le_refl _) (fun _ h => h.elim)); have HPZ := Lib.hid (((hpl.out.kept hb1.out).kept HB2.out).far (HO1.out.kept HB2.out).1 ap (by decide)); clear ap i1 i2 i3 i4))
                go_roundw
                case rel => exact ⟨k + 1, by omega, by go_num, by rw [HF.out]; exact HO3, HB3 , HPZ⟩
                case measure => simp [intOf]; omega
              | false =>
                have HF : Hid ((ps.take (k + 1)).filter (fun h => decide (h.dv ∉ gone)) = (ps.take k).filter (fun h => decide (h.dv ∉ gone))) := Lib.hid (by rw [take_next HX.out, List.filter_append, List.filter_cons_of_neg (p := fun h : Pl => decide (h.dv ∉ gone)) (by rw [← hbb.out]; decide)]; simp)
                go_wp2_with fail
                go_roundw
                case rel => exact ⟨k + 1, by omega, by go_num, by rw [HF.out]; exact HO1, HB1 , Lib.hid (hpl.out.kept hb1.out)⟩
                case measure => simp [intOf]; omega
        · obtain rfl : k = p := by omega
          have e1 : ps.take k = ps := take_end HLP.out
          rw [e1] at ho
          obtain ⟨A2, c2, ev, hls⟩ := ho.out.ls (R := rPl) (b := 32) plL_len' (fun x hx => ⟨rfl, HOP.out x (List.mem_filter.1 hx).1⟩) (by have h9 := List.length_filter_le (fun h : Pl => decide (h.dv ∉ gone)) ps; have := HLP.out; unfold lim; omega)
          subst ev
          have HLS2 := Lib.hid hls
          obtain ⟨A3, c3, ev, hls3⟩ := hpl.out.ls (R := rHd) (b := 24) hdL_len' (fun x hx => ⟨rfl, HOH.out x (List.mem_filter.1 hx).1⟩) (by have h9 := List.length_filter_le (fun h : Hd => decide (h.dv ∉ gone)) hs; have := HLH.out; unfold lim stayH; omega)
          cases ev
          have HLS3 := Lib.hid hls3
          clear hls hls3 ho e1
          go_wp2_with fail
          go_ret2
          exact ⟨_, _, _, A2, _, c2, rfl, HLS3.out, HLS2.out, hb.out⟩
end
end Go.Proofs.YtklfficlegfhjaaGreat
