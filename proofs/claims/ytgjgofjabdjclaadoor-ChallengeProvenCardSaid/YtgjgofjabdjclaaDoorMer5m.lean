/- The law's plain: proofs of the program as proofs of the reference. -/
import Derived.Test.YtgjgofjabdjclaaDoorMer4m
import Derived.Test.YtgjgofjabdjclaaDoorOlm
import Derived.Test.YtgjgofjabdjclaaDoorRtkm
namespace Go.Proofs.YtgjgofjabdjclaaDoor
open Go Go.RowKit Gf Sha

theorem infoPf : (Tryd.prog.info? 72).map (fun i => (i.zero, i.size, i.bytes)) = some (some (.agg pfZ.toArray), 3, 56) := by kernel_rfl
theorem bslPf (z : Int) (A A' : Option Addr) (n c n' c' : Nat) (w : World) : (Instr.buildSlice 66 1 #[(0, .agg #[.int .i64 z, .slice A n c, .slice A' n' c'])]).run Tryd.prog w = .ok (.slice (some ⟨w.heap.size, 0, none⟩) 1 1) (w.alloc (.cells [.int .i64 z, .slice A n c, .slice A' n' c'].toArray 72)) := by kernel_rfl
theorem bsl0P (w : World) : (Instr.buildSlice 66 0 #[]).run Tryd.prog w = .ok (.slice (some ⟨w.heap.size, 0, none⟩) 0 0) (w.alloc (.cells ([] : List Value).toArray 72)) := by kernel_rfl

set_option maxRecDepth 100000 in
set_option maxHeartbeats 4000000 in
theorem plain_any (L : List Pf) (N cp : Nat) (A : Option Addr) (w : World) (h : LS rPf 3 56 w A N cp L) (hN : N ≤ 1000) :
    Calls Tryd.prog 36 #[.slice A N cp] w fun e w' => ∃ A' c', e = .returned (.slice A' N c') ∧ LS rPf 3 56 w' A' N c' L ∧ Below w.heap.size w w' := by
  have H := Lib.hid h
  have HLN := Lib.hid h.1
  have hN0 : 0 ≤ (N : Int) := by omega
  clear h
  go_enter Tryd.func36, Tryd.ntmps36
  go_wp2_with ((with_reducible show wpList _ _ _ (⟨some 6, _, _, _, _, _⟩ :: _) _ _); refine wpList_bslice _ rfl 66 72 0 _ rfl #[] (by rw [List.map_toArray]; rfl) [] (bsl0P _) ?_; intro w1 a1 a2 a3; have HG1 := Lib.hid a1; have HB1 := Lib.hid a2; clear a1 a2 a3)
  go_loopw [3, 9] (fun v iv wr => ∃ k : Nat, k ≤ N ∧ iv = .int .i64 (k : Int) ∧ Hid (OL rPf 3 72 w wr v (L.take k)) ∧ Hid (Below w.heap.size w wr)) (fun _ iv _ => N - (intOf iv).toNat)
  case atStart => exact ⟨0, by omega, rfl, Lib.hid (OL.nil' _ _ HG1.out (Nat.le_refl _)), HB1⟩
  case round =>
    obtain ⟨k, hk, rfl, ho, hb⟩ := hrel
    obtain ⟨wx, hwx⟩ : ∃ x, x = wr := ⟨_, rfl⟩
    rw [← hwx] at ho hb ⊢
    clear hwx
    by_cases hlt : k < N
    · obtain ⟨p, g, o, cs, hp, rfl, hat, A1, n1, c1, A2, n2, c2, rfl, hb1, hb2⟩ := H.out.at_ stay_pf (Below.refl _ _) hlt
      have HA := Lib.hid (hat.kept hb.out)
      have HPF : Hid (rPf w [.int .i64 p.b, .slice A1 n1 c1, .slice A2 n2 c2] p) := Lib.hid ⟨_, _, _, _, _, _, rfl, hb1, hb2⟩
      have HTS : Hid (L.take (k + 1) = L.take k ++ [p]) := Lib.hid (by
        rw [List.take_add_one, hp]; rfl)
      have HTL : Hid ((L.take k).length = k) := Lib.hid (by rw [List.length_take, HLN.out]; omega)
      obtain ⟨css, hc1, hc2, hc3, hc4, hc5⟩ := ho.out
      rw [HTL.out] at hc1 hc4
      have HC1 := Lib.hid hc1
      have HC2 := Lib.hid hc2
      have HC3 := Lib.hid hc3
      have HC4 := Lib.hid hc4
      have HC5 := Lib.hid hc5
      clear hat hp hb1 hb2 hc1 hc2 hc3 hc4 hc5
      go_wp2_with (first
        | ((with_reducible show wpList _ _ _ (⟨some 12, _, _, _, _, _⟩ :: _) _ _); refine wpList_loadv _ rfl 63 (.tmp 11) rfl 3 (by kernel_rfl) g (o + k * 3) [.int .i64 p.b, .slice A1 n1 c1, .slice A2 n2 c2] (by go_simp) HA.out rfl ?_)
        | ((with_reducible show wpList _ _ _ (⟨some 5, _, _, _, _, _⟩ :: _) _ _); refine wpList_alloc _ rfl 63 rfl pfZ pfZero ?_; intro w3 a1 a2 a3; have HV3 := Lib.hid a1; have HX3 := Lib.hid a2; clear a1 a2 a3)
        | ((with_reducible show wpList _ _ _ (⟨none, _, _, _, _, _⟩ :: _) _ _); refine wpList_storev _ rfl 63 (.tmp 5) (.tmp 12) rfl 3 (by kernel_rfl) wx.heap.size 0 _ pfZ [.int .i64 p.b, .slice A1 n1 c1, .slice A2 n2 c2] rfl rfl HV3.out rfl (pf_one _ _ _ _ _ _ _) (by decide) ?_; intro w4 a1 a2 a3; have HV4 : Hid (BL w4 wx.heap.size 63 [.int .i64 p.b, .slice A1 n1 c1, .slice A2 n2 c2]) := Lib.hid a1; have q0 := HV4.out.get (j := 0) rfl; have q1 := HV4.out.get (j := 1) rfl; have q2 := HV4.out.get (j := 2) rfl; have HX4 : Hid (Below wx.heap.size wx w4) := Lib.hid (((Kp.of_below (S := fun _ => False) HX3.out).after a2 (fun i hi e => by omega)).below (Nat.le_refl _) (fun _ h => h.elim)); clear a1 a2 a3)
        | ((with_reducible show wpList _ _ _ (⟨some 21, _, _, _, _, _⟩ :: _) _ _); refine wpList_bslice _ rfl 66 72 1 _ rfl #[(0, .agg #[.int .i64 p.b, .slice A1 n1 c1, .slice A2 n2 c2])] (by rw [List.map_toArray]; rfl) [.int .i64 p.b, .slice A1 n1 c1, .slice A2 n2 c2] (bslPf _ _ _ _ _ _ _ _) ?_; intro w5 a1 a2 a3; have HG5 := Lib.hid a1; have HX5 := Lib.hid (below_thenB HX4.out HX4.out.size a2); clear a1 a2 a3 q0 q1 q2)
        | ((with_reducible show wpList _ _ _ (⟨some 22, _, _, _, _, _⟩ :: _) _ _); obtain ⟨iS, i1, i2, i3, i4⟩ := info_some infoPf; refine wpList_appRW _ rfl (.tmp 13) (.tmp 21) 66 72 3 iS _ rfl Tryd.underlying66 i1 i2 i3 rfl _ k _ rfl (HC4.out.kept HX5.out) w4.heap.size _ rfl HG5.out rfl (pf_one _ _ _ _ _ _ _) (by rw [i4]; omega) (by omega) ?_; intro v' w6 a1; have HR6 := Lib.hid a1; clear a1 i1 i2 i3 i4))
      have HB5 : Hid (Below w.heap.size w w5) := Lib.hid (below_thenB hb.out hb.out.size HX5.out)
      have HB6 : Hid (Below w.heap.size w w6) := Lib.hid (((Kp.of_below (S := fun _ => False) HB5.out).after HR6.out.kp (fun i hi e => by have := HC5.out i e; omega)).below (Nat.le_refl _) (fun _ h => h.elim))
      have HO6 : Hid (OL rPf 3 72 w w6 v' (L.take (k + 1))) := Lib.hid (by
        rw [HTS.out]
        exact OL.push (by rw [HC1.out, HTL.out]) HC2.out HC3.out HC5.out HTL.out rfl HPF.out HB5.out.size HR6.out)
      go_roundw
      case rel => exact ⟨k + 1, by omega, by go_num, HO6, HB6⟩
      case measure => simp [intOf]; omega
    · obtain rfl : k = N := by omega
      have HTA : Hid (L.take k = L) := Lib.hid (by rw [← HLN.out, List.take_length])
      have HL9 : Hid (L.length * 56 ≤ lim) := Lib.hid (by rw [HLN.out]; unfold lim; omega)
      go_wp2_with fail
      go_ret
      have h9 := ho.out
      rw [HTA.out] at h9
      obtain ⟨A9, c9, e9, h10⟩ := h9.ls stay_pf hb.out HL9.out
      rw [HLN.out] at e9 h10
      exact ⟨A9, c9, by rw [e9]; rfl, h10, hb.out⟩
end Go.Proofs.YtgjgofjabdjclaaDoor
