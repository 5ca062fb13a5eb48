/- The law ChallengeDecode: its walk. -/
import Derived.Test.YtheijpjfpaghfaaGreatDoorC38
import Derived.Test.YtheijpjfpaghfaaGreatDoorC18
namespace Go.Proofs.YtheijpjfpaghfaaGreatDoor
open Go Go.RowKit Go.Shelf Gf Sha

theorem wp_exec {P : Program} {o : Oper} {a : Act} {w w' : World} {v : Value} {K : Act → World → Prop} {Q : Exit → Act → World → Prop} (hr : (execOp a.eval o).run P w = .ok (.value v) w') (hK : K (a.put o.dst v) w') : o.wp P a w K Q := by
  unfold Oper.wp
  rw [hr]
  exact hK
theorem exec_convS {o : Oper} {a : Act} {w : World} {x : Operand} {A : Option Addr} {n c : Nat} {l : List UInt8} (hop : o.op = .convert 22 9 x) (hx : a.eval x = .slice A n c) (h : BS w A n c l) : (execOp a.eval o).run Tryz.prog w = .ok (.value (.string (strB l))) w := by
  unfold execOp
  simp only [hop, hx]
  simp [conv_str h, Result.andThen]
set_option maxRecDepth 100000 in
set_option maxHeartbeats 4000000 in
theorem chdecode_walk (A : Option Addr) (n c : Nat) (b : List UInt8) (w : World) (hT : Tabs w) (h : BS w A n c b) :
    Calls Tryz.prog 3 #[.slice A n c] w fun e w' => e = .returned (.bool true) ∧ Below w.heap.size w w' := by
  have HT := Lib.hid hT
  have HBS := Lib.hid h
  have hL := h.1
  clear hT h
  by_cases h6 : 600 < n
  · have f6 : decide ((600 : Int) < (n : Int)) = true := decide_eq_true (by omega)
    clear h6 hL
    go_enter Tryz.func3, Tryz.ntmps3
    go_wp2_with (first
      | (go_at_call 5; (with_reducible show Calls _ _ _ w _); refine (awake_any w HT.out).mono ?_; rintro e w1 ⟨rfl, b1⟩; have HB1 := Lib.hid b1; clear b1)
      | (go_at_call 5; refine (awake_any w1 (HT.out.kept HB1.out)).mono ?_; rintro e w2 ⟨rfl, b1⟩; have HB2 := Lib.hid (below_then HB1.out b1); clear b1))
    go_ret
    exact ⟨rfl, HB2.out⟩
  · have f6 : decide ((600 : Int) < (n : Int)) = false := decide_eq_false (by omega)
    have HL6 : Hid (b.length ≤ 600) := Lib.hid (by omega)
    clear h6 hL
    obtain ⟨D, hD⟩ : ∃ d, d = decP b := ⟨_, rfl⟩
    have HD := Lib.hid hD
    have ee : (D != D) = false := by simp
    clear hD
    by_cases h0 : D = 0
    · have f0 : (D != 0) = false := by rw [h0]; rfl
      have HD0 := Lib.hid h0
      clear h0
      go_enter Tryz.func3, Tryz.ntmps3
      go_wp2_with (first
        | (go_at_call 5; refine (awake_any w HT.out).mono ?_; rintro e w1 ⟨rfl, b1⟩; have HB1 := Lib.hid b1; clear b1)
        | (go_at_call 6; refine (decode_any w1 A n c b (HBS.out.kept HB1.out)).mono ?_; rintro e w2 ⟨p, rfl, r1, r2⟩; rw [if_pos (HD.out.symm.trans HD0.out)] at r1; obtain ⟨gp, gm, L, rfl, r3, r4, r5⟩ := r1; rw [← HD.out]; have HPG := Lib.hid r3; have HLE := Lib.hid r4; have HB2 := Lib.hid (below_then HB1.out r2); clear r2 r3 r4 r5)
        | (go_at_call 7; refine (rdecode_any w2 A n c b (HBS.out.kept HB2.out)).mono ?_; rintro e w3 ⟨⟨p3, rfl⟩, r2⟩; rw [← HD.out]; have HPG3 := Lib.hid (HPG.out.kept r2); have HB3 := Lib.hid (below_then HB2.out r2); clear r2))
      have HDEC := Lib.hid (enc_dec (HD.out.symm.trans HD0.out))
      have HE1 : Hid (∀ x ∈ L, GoodE x.e) := Lib.hid (fun x hx => HDEC.out.2.2.1 _ (by rw [← HLE.out]; exact List.mem_map.2 ⟨x, hx, rfl⟩))
      have HE2 : Hid (L.length ≤ 100000) := Lib.hid (by have h9 := HDEC.out.2.2.2; rw [← HLE.out, List.length_map] at h9; omega)
      have HE3 : Hid (∀ l : List En, l.Perm (L.map (·.e)) → (encE l).length ≤ 1000000) := Lib.hid (fun l hl => by
        rw [encE_perm hl, HLE.out, HDEC.out.1]
        have := HL6.out
        omega)
      refine Text.wp_region_text (fun w' => Below w3.heap.size w3 w') [(0, 4), (1, 4), (2, 4), (3, 4), (6, 4), (7, 0), (4, 2), (5, 2), (8, 4), (9, 4), (10, 4)] (by kernel_rfl) (by kernel_rfl) (fun _ _ _ _ _ h => h) ((Below.refl _ _).drew) ?_
      iterate 5 (refine Text.purek rfl rfl (fun K hK => ⟨_, fun w' => by go_simp <;> rfl, ?_⟩); go_simp; refine hK _ ?_; clear hK K)
      refine Text.heldk rfl rfl (fun K hK => ?_)
      refine ⟨_, fun w' hw' => exec_convS rfl rfl ((HBS.out.kept HB3.out).kept hw'), ?_⟩
      go_simp
      refine hK _ ?_
      clear hK K
      refine Text.effw rfl rfl (fun K hK => ?_)
      go_simp
      refine (pencode_any w3.drew gp gm L HPG3.out.drew HE1.out HE2.out HE3.out).mono ?_
      rintro e w4 ⟨A9, n9, c9, LS, rfl, r1, r2, r3, r4⟩
      have HEQ : Hid (encE (LS.map (·.e)) = b) := Lib.hid (by
        have h9 := perm_eq r1 r2 (by
          have h8 := (validE_pw HDEC.out.2.1).1
          rw [← HLE.out, List.map_map] at h8
          exact h8)
        rw [h9, HLE.out]
        exact HDEC.out.1)
      rw [HEQ.out] at r3
      have HB9 := Lib.hid r3
      have HB4 : Hid (Below w3.heap.size w3 w4) := Lib.hid (below_thenB (Below.refl _ _).drew (Nat.le_refl _) r4)
      refine hK _ _ HB4.out ?_
      clear hK K r1 r2 r3 r4
      refine Text.effw rfl rfl (fun K hK => ?_)
      refine wp_exec (exec_convS rfl rfl HB9.out) ?_
      refine hK _ _ HB4.out ?_
      clear hK K
      iterate 3 (refine Text.purek rfl rfl (fun K hK => ⟨_, fun w' => by go_simp <;> rfl, ?_⟩); go_simp; refine hK _ ?_; clear hK K)
      refine Text.done ?_
      go_wp2_with fail
      go_ret
      exact ⟨ret_bool (by simp), below_thenB HB3.out HB3.out.size HB4.out⟩
    · have f0 : (D != 0) = true := by rw [bne_iff_ne]; exact h0
      have HD0 := Lib.hid h0
      clear h0
      go_enter Tryz.func3, Tryz.ntmps3
      go_wp2_with (first
        | (go_at_call 5; refine (awake_any w HT.out).mono ?_; rintro e w1 ⟨rfl, b1⟩; have HB1 := Lib.hid b1; clear b1)
        | (go_at_call 6; refine (decode_any w1 A n c b (HBS.out.kept HB1.out)).mono ?_; rintro e w2 ⟨p, rfl, r1, r2⟩; rw [if_neg (fun h9 => HD0.out (HD.out.trans h9))] at r1; subst r1; rw [← HD.out]; have HB2 := Lib.hid (below_then HB1.out r2); clear r2)
        | (go_at_call 7; refine (rdecode_any w2 A n c b (HBS.out.kept HB2.out)).mono ?_; rintro e w3 ⟨⟨p3, rfl⟩, r2⟩; rw [← HD.out]; have HB3 := Lib.hid (below_then HB2.out r2); clear r2))
      go_ret
      exact ⟨rfl, HB3.out⟩
end Go.Proofs.YtheijpjfpaghfaaGreatDoor
