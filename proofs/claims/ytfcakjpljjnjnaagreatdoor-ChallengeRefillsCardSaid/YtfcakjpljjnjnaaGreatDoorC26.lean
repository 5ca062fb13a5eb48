/- Several texts in one: Se, Sf, Sg. -/
import Derived.Test.YtfcakjpljjnjnaaGreatDoorC25
/- Size classes of the program: UintSize, the closure of classes, Class, hasClass; reedsolomon.Valid. -/
namespace Go.Proofs.YtfcakjpljjnjnaaGreatDoor
open Go Go.RowKit Gf Sha

section
variable {P : Program} (w : World) {ops : Array Oper} {rest : List Oper} {o : Oper} {a : Act} {Q : Exit → Act → World → Prop}
/-- A variable of one cell. -/
theorem wpList_alloc1 (hg : o.guard = none) (t : TypeId) (hop : o.op = .alloc t) (z : Value) (hz : (P.info? t).map (·.zero) = some (some z)) (hc : z.cells = #[z])
  (h : ∀ w', BL w' w.heap.size t [z] → Below w.heap.size w w' → w'.heap.size = w.heap.size + 1 → wpList P ops Q rest (a.put o.dst (.pointer (some ⟨w.heap.size, 0, none⟩))) w') : wpList P ops Q (o :: rest) a w :=
 wpList_plain hg fun K hK => by
  cases hi : P.info? t with
  | none => simp [hi] at hz
  | some i =>
   have hz' : i.zero = some z := by simpa [hi] using hz
   unfold Oper.wp execOp
   simp only [hop]
   simp [Instr.alloc, zeroValue, typeInfo, hi, hz', newVar, newRow, hc, Result.andThen]
   exact hK _ _ (h _ (BL.new w t [z]) ((Below.refl _ _).alloc (Nat.le_refl _) _) (by simp))
end
theorem u64_wrapN (n : Nat) (h : n < 9223372036854775808) : IntKind.u64.wrap (n : Int) = (n : Int) := by
 show (n : Int) % 18446744073709551616 = _; omega
theorem shr7 (X : Nat) : ((X : Int) / 2 ^ 7) = ((X >>> 7 : Nat) : Int) := by rw [Nat.shiftRight_eq_div_pow]; push_cast; rfl

set_option maxRecDepth 100000 in
set_option maxHeartbeats 1000000 in
theorem uintSize_any (N : Nat) (w : World) (hN : N ≤ 1099511627776) :
  Calls Tryz.prog 57 #[.int .u64 (N : Int)] w fun e w' => e = .returned (.int .i64 ((uv N).length : Int)) ∧ w' = w := by
 go_enter Tryz.func57, Tryz.ntmps57
 go_wp2_with fail
 go_loopw [0, 3] (fun i v wr => wr = w ∧ ∃ (X f m : Nat), X ≤ 1099511627776 ∧ m ≤ 20 ∧ i = .int .u64 (X : Int) ∧ v = .int .i64 ((m + 1 : Nat) : Int) ∧ Hid (X < 128 ^ (f + 1)) ∧ Hid (m + f = 10) ∧ Hid (m + (uvf f X).length = (uv N).length)) (fun i _ _ => (intOf i).toNat)
 case atStart => exact ⟨rfl, N, 10, 0, hN, by omega, rfl, rfl, Lib.hid (Nat.lt_of_le_of_lt hN (by decide)), Lib.hid rfl, Lib.hid (by rw [Nat.zero_add]; rfl)⟩
 case round =>
  obtain ⟨rfl, X, f, m, hX, hm, rfl, rfl, hf, hmf, hp⟩ := hrel
  by_cases hlt : 127 < X
  ·
   obtain ⟨f, rfl⟩ : ∃ k, f = k + 1 := by
    cases f with
    | zero => exfalso; have := hf.out; simp at this; omega
    | succ k => exact ⟨k, rfl⟩
   have HP : Hid (m + 1 + (uvf f (X >>> 7)).length = (uv N).length) := Lib.hid (by
    rw [← hp.out, uvf_more f X (by omega), List.length_cons]; omega)
   have HF : Hid (X >>> 7 < 128 ^ (f + 1)) := Lib.hid (by
    have h1 := hf.out
    rw [Nat.pow_succ] at h1
    rw [Nat.shiftRight_eq_div_pow]
    exact Nat.div_lt_of_lt_mul (by rw [Nat.mul_comm]; exact h1))
   have hd1 : decide ((128 : Int) ≤ (X : Int)) = true := decide_eq_true (by omega)
   have hd2 : decide (128 ≤ X) = true := decide_eq_true (by omega)
   have hs := shr7 X
   have hXs : X >>> 7 ≤ X := by rw [Nat.shiftRight_eq_div_pow]; omega
   have hXl : X >>> 7 < X := by rw [Nat.shiftRight_eq_div_pow]; omega
   go_wp2_with fail
   go_roundw
   case rel => exact ⟨trivial, X / 128, f, m + 1, by omega, by have := hmf.out; omega, by push_cast; rfl, by push_cast; rfl, Lib.hid (by have := HF.out; rwa [Nat.shiftRight_eq_div_pow] at this), Lib.hid (by have := hmf.out; omega), Lib.hid (by have := HP.out; rwa [Nat.shiftRight_eq_div_pow] at this)⟩
   case measure => simp [intOf]; omega
  ·
   have hd1 : decide ((128 : Int) ≤ (X : Int)) = false := decide_eq_false (by omega)
   have hd2 : decide (128 ≤ X) = false := decide_eq_false (by omega)
   have HP : Hid (m + 1 = (uv N).length) := Lib.hid (by rw [← hp.out, uvf_small f X (by omega)]; rfl)
   go_wp2_with fail
   go_ret
   exact ⟨by rw [← HP.out]; push_cast; rfl, rfl⟩

set_option maxHeartbeats 1000000 in
theorem code_any (d t : Int) (w : World) :
  Calls Tryz.prog 30 #[.int .i64 d, .int .i64 t] w fun e w' => e = .returned (.bool (cdB d t)) ∧ w' = w := by
 by_cases h1 : 1 ≤ d
 ·
  have e1 : decide (1 ≤ d) = true := decide_eq_true h1
  by_cases h2 : d ≤ 8
  ·
   have e2 : decide (d ≤ 8) = true := decide_eq_true h2
   by_cases h3 : d ≤ t
   ·
    have e3 : decide (d ≤ t) = true := decide_eq_true h3
    have HR : Hid (cdB d t = decide (t ≤ 16)) := Lib.hid (by rw [cdB, e1, e2, e3]; rfl)
    clear h1 h2 h3
    go_enter Tryz.func30, Tryz.ntmps30
    go_wp2_with fail
    go_ret
    exact ⟨ret_bool HR.out.symm, rfl⟩
   ·
    have e3 : decide (d ≤ t) = false := decide_eq_false h3
    have HR : Hid (cdB d t = false) := Lib.hid (by rw [cdB, e1, e2, e3]; rfl)
    clear h1 h2 h3
    go_enter Tryz.func30, Tryz.ntmps30
    go_wp2_with fail
    go_ret
    exact ⟨ret_bool HR.out.symm, rfl⟩
  ·
   have e2 : decide (d ≤ 8) = false := decide_eq_false h2
   have HR : Hid (cdB d t = false) := Lib.hid (by rw [cdB, e1, e2]; rfl)
   clear h1 h2
   go_enter Tryz.func30, Tryz.ntmps30
   go_wp2_with fail
   go_ret
   exact ⟨ret_bool HR.out.symm, rfl⟩
 ·
  have e1 : decide (1 ≤ d) = false := decide_eq_false h1
  have HR : Hid (cdB d t = false) := Lib.hid (by rw [cdB, e1]; rfl)
  clear h1
  go_enter Tryz.func30, Tryz.ntmps30
  go_wp2_with fail
  go_ret
  exact ⟨ret_bool HR.out.symm, rfl⟩

theorem Kp.bl {S : Nat → Prop} {w w' : World} {g : Nat} {t : TypeId} {l : List Value} (h : Kp S w w') (hb : BL w g t l) (hn : ¬ S g) : BL w' g t l := (h.block g hb.lt hn).trans hb
/-- The state of the closure: its next class is number t. -/
structure CL (w : World) (g1 g2 t : Nat) : Prop where
 sc : BL w g1 3 [.int .i64 ((2 ^ (t / 4) : Nat) : Int)]
 st : BL w g2 3 [.int .i64 ((t % 4 : Nat) : Int)]
 ne : g1 ≠ g2
theorem intSize (P : Program) (hz : (P.info? 3).map (·.size) = some 1) (w : World) : (sizeOf 3).run P w = .ok 1 w := by
 cases hi : P.info? 3 with
 | none => simp [hi] at hz
 | some i =>
  have hz' : i.size = 1 := by simpa [hi] using hz
  simp [sizeOf, typeInfo, hi, hz']
theorem intSz (w : World) : (sizeOf 3).run Tryz.prog w = .ok 1 w := intSize _ (by kernel_rfl) w
set_option maxRecDepth 100000 in
set_option maxHeartbeats 2000000 in
theorem next_any (w : World) (g1 g2 t : Nat) (h : CL w g1 g2 t) (ht : t ≤ 60) :
  Calls Tryz.prog 90 #[.pointer (some ⟨g1, 0, none⟩), .pointer (some ⟨g2, 0, none⟩)] w fun e w' => e = .returned (.int .i64 (clsAt t : Int)) ∧ CL w' g1 g2 (t + 1) ∧ Kp (fun i => i = g1 ∨ i = g2) w w' := by
 have HNE := Lib.hid h.ne
 have h1 := h.sc
 have h2 := h.st
 have hsc : 2 ^ (t / 4) ≤ 32768 := Nat.pow_le_pow_right (n := 2) (by decide) (show t / 4 ≤ 15 by omega)
 have hat : clsAt t = 2 ^ (t / 4) * (64 + 16 * (t % 4)) := rfl
 have hpw : 2 ^ (t / 4 + 1) = 2 * 2 ^ (t / 4) := by rw [Nat.pow_succ, Nat.mul_comm]
 obtain ⟨sc, hs⟩ : ∃ sc, sc = 2 ^ (t / 4) := ⟨_, rfl⟩
 rw [← hs] at hsc hat h1 hpw
 have HPW := Lib.hid hpw
 have HS := Lib.hid hs
 clear h hs hpw
 have h4 : t % 4 = 0 ∨ t % 4 = 1 ∨ t % 4 = 2 ∨ t % 4 = 3 := by omega
 rcases h4 with e | e | e | e
 ·
  have HE : Hid ((t + 1) / 4 = t / 4 ∧ (t + 1) % 4 = 1) := Lib.hid (by omega)
  have HAT : Hid (clsAt t = sc * 64) := Lib.hid (by rw [hat, e])
  rw [e] at h2
  have H1 := Lib.hid h1
  have H2 := Lib.hid h2
  have q0 := h1.get (j := 0) rfl
  have q1 := h2.get (j := 0) rfl
  clear h1 h2 hat e
  go_enter Tryz.func90, Tryz.ntmps90
  go_wp2_with (first
   | ((with_reducible show OpN); refine wpList_store1 _ rfl 3 (.tmp 1) (.tmp 10) rfl (intSz _) g2 0 _ _ (.int .i64 1) rfl rfl H2.out rfl rfl (by decide) ?_; intro w5 a1 a2 a3; have H25 := Lib.hid a1; have HK5 := Lib.hid a2; have H15 := Lib.hid (a2.bl H1.out HNE.out); have p1 := a1.get (j := 0) rfl; have p0 := BL.get (j := 0) H15.out rfl; clear a1 a2 a3)
   | ((with_reducible show OpN); refine wpList_store1 _ rfl 3 (.tmp 0) (.tmp 14) rfl (intSz _) g1 0 _ _ (.int .i64 (2 * (sc : Int))) rfl rfl H15.out rfl rfl (by simp) ?_; intro w6 a1 a2 a3; have H16 := Lib.hid a1; have HK6 := Lib.hid a2; have H26 := Lib.hid (a2.bl H25.out (fun e => HNE.out e.symm)); clear a1 a2 a3)
   | ((with_reducible show OpN); refine wpList_store1 _ rfl 3 (.tmp 1) (.const (.int .i64 0)) rfl (intSz _) g2 0 _ _ (.int .i64 0) rfl rfl H26.out rfl rfl (by simp) ?_; intro w7 a1 a2 a3; have H27 := Lib.hid a1; have HK7 := Lib.hid a2; have H17 := Lib.hid (a2.bl H16.out HNE.out); clear a1 a2 a3))
  go_ret
  exact ⟨by rw [HAT.out]; push_cast; rfl, ⟨by rw [HE.out.1, ← HS.out]; exact H15.out, by rw [HE.out.2]; exact H25.out, HNE.out⟩, HK5.out.mono (fun _ _ h => .inr h)⟩
 ·
  have HE : Hid ((t + 1) / 4 = t / 4 ∧ (t + 1) % 4 = 2) := Lib.hid (by omega)
  have HAT : Hid (clsAt t = sc * 80) := Lib.hid (by rw [hat, e])
  rw [e] at h2
  have H1 := Lib.hid h1
  have H2 := Lib.hid h2
  have q0 := h1.get (j := 0) rfl
  have q1 := h2.get (j := 0) rfl
  clear h1 h2 hat e
  go_enter Tryz.func90, Tryz.ntmps90
  go_wp2_with (first
   | ((with_reducible show OpN); refine wpList_store1 _ rfl 3 (.tmp 1) (.tmp 10) rfl (intSz _) g2 0 _ _ (.int .i64 2) rfl rfl H2.out rfl rfl (by decide) ?_; intro w5 a1 a2 a3; have H25 := Lib.hid a1; have HK5 := Lib.hid a2; have H15 := Lib.hid (a2.bl H1.out HNE.out); have p1 := a1.get (j := 0) rfl; have p0 := BL.get (j := 0) H15.out rfl; clear a1 a2 a3)
   | ((with_reducible show OpN); refine wpList_store1 _ rfl 3 (.tmp 0) (.tmp 14) rfl (intSz _) g1 0 _ _ (.int .i64 (2 * (sc : Int))) rfl rfl H15.out rfl rfl (by simp) ?_; intro w6 a1 a2 a3; have H16 := Lib.hid a1; have HK6 := Lib.hid a2; have H26 := Lib.hid (a2.bl H25.out (fun e => HNE.out e.symm)); clear a1 a2 a3)
   | ((with_reducible show OpN); refine wpList_store1 _ rfl 3 (.tmp 1) (.const (.int .i64 0)) rfl (intSz _) g2 0 _ _ (.int .i64 0) rfl rfl H26.out rfl rfl (by simp) ?_; intro w7 a1 a2 a3; have H27 := Lib.hid a1; have HK7 := Lib.hid a2; have H17 := Lib.hid (a2.bl H16.out HNE.out); clear a1 a2 a3))
  go_ret
  exact ⟨by rw [HAT.out]; push_cast; rfl, ⟨by rw [HE.out.1, ← HS.out]; exact H15.out, by rw [HE.out.2]; exact H25.out, HNE.out⟩, HK5.out.mono (fun _ _ h => .inr h)⟩
 ·
  have HE : Hid ((t + 1) / 4 = t / 4 ∧ (t + 1) % 4 = 3) := Lib.hid (by omega)
  have HAT : Hid (clsAt t = sc * 96) := Lib.hid (by rw [hat, e])
  rw [e] at h2
  have H1 := Lib.hid h1
  have H2 := Lib.hid h2
  have q0 := h1.get (j := 0) rfl
  have q1 := h2.get (j := 0) rfl
  clear h1 h2 hat e
  go_enter Tryz.func90, Tryz.ntmps90
  go_wp2_with (first
   | ((with_reducible show OpN); refine wpList_store1 _ rfl 3 (.tmp 1) (.tmp 10) rfl (intSz _) g2 0 _ _ (.int .i64 3) rfl rfl H2.out rfl rfl (by decide) ?_; intro w5 a1 a2 a3; have H25 := Lib.hid a1; have HK5 := Lib.hid a2; have H15 := Lib.hid (a2.bl H1.out HNE.out); have p1 := a1.get (j := 0) rfl; have p0 := BL.get (j := 0) H15.out rfl; clear a1 a2 a3)
   | ((with_reducible show OpN); refine wpList_store1 _ rfl 3 (.tmp 0) (.tmp 14) rfl (intSz _) g1 0 _ _ (.int .i64 (2 * (sc : Int))) rfl rfl H15.out rfl rfl (by simp) ?_; intro w6 a1 a2 a3; have H16 := Lib.hid a1; have HK6 := Lib.hid a2; have H26 := Lib.hid (a2.bl H25.out (fun e => HNE.out e.symm)); clear a1 a2 a3)
   | ((with_reducible show OpN); refine wpList_store1 _ rfl 3 (.tmp 1) (.const (.int .i64 0)) rfl (intSz _) g2 0 _ _ (.int .i64 0) rfl rfl H26.out rfl rfl (by simp) ?_; intro w7 a1 a2 a3; have H27 := Lib.hid a1; have HK7 := Lib.hid a2; have H17 := Lib.hid (a2.bl H16.out HNE.out); clear a1 a2 a3))
  go_ret
  exact ⟨by rw [HAT.out]; push_cast; rfl, ⟨by rw [HE.out.1, ← HS.out]; exact H15.out, by rw [HE.out.2]; exact H25.out, HNE.out⟩, HK5.out.mono (fun _ _ h => .inr h)⟩
 ·
  have HE : Hid ((t + 1) / 4 = t / 4 + 1 ∧ (t + 1) % 4 = 0) := Lib.hid (by omega)
  have HAT : Hid (clsAt t = sc * 112) := Lib.hid (by rw [hat, e])
  rw [e] at h2
  have H1 := Lib.hid h1
  have H2 := Lib.hid h2
  have q0 := h1.get (j := 0) rfl
  have q1 := h2.get (j := 0) rfl
  clear h1 h2 hat e
  go_enter Tryz.func90, Tryz.ntmps90
  go_wp2_with (first
   | ((with_reducible show OpN); refine wpList_store1 _ rfl 3 (.tmp 1) (.tmp 10) rfl (intSz _) g2 0 _ _ (.int .i64 4) rfl rfl H2.out rfl rfl (by decide) ?_; intro w5 a1 a2 a3; have H25 := Lib.hid a1; have HK5 := Lib.hid a2; have H15 := Lib.hid (a2.bl H1.out HNE.out); have p1 := a1.get (j := 0) rfl; have p0 := BL.get (j := 0) H15.out rfl; clear a1 a2 a3)
   | ((with_reducible show OpN); refine wpList_store1 _ rfl 3 (.tmp 0) (.tmp 14) rfl (intSz _) g1 0 _ _ (.int .i64 (2 * (sc : Int))) rfl rfl H15.out rfl rfl (by simp) ?_; intro w6 a1 a2 a3; have H16 := Lib.hid a1; have HK6 := Lib.hid a2; have H26 := Lib.hid (a2.bl H25.out (fun e => HNE.out e.symm)); clear a1 a2 a3)
   | ((with_reducible show OpN); refine wpList_store1 _ rfl 3 (.tmp 1) (.const (.int .i64 0)) rfl (intSz _) g2 0 _ _ (.int .i64 0) rfl rfl H26.out rfl rfl (by simp) ?_; intro w7 a1 a2 a3; have H27 := Lib.hid a1; have HK7 := Lib.hid a2; have H17 := Lib.hid (a2.bl H16.out HNE.out); clear a1 a2 a3))
  go_ret
  exact ⟨by rw [HAT.out]; push_cast; rfl, ⟨by rw [HE.out.1, HPW.out]; push_cast; exact H17.out, by rw [HE.out.2]; exact H27.out, HNE.out⟩, ((HK5.out.mono (fun _ _ h => .inr h)).trans (HK6.out.mono (fun _ _ h => .inl h))).trans (HK7.out.mono (fun _ _ h => .inr h))⟩

set_option maxHeartbeats 1000000 in
theorem classes_any (w : World) :
  Calls Tryz.prog 58 #[] w fun e w' => e = .returned (.func (.func 90) #[] #[.pointer (some ⟨w.heap.size, 0, none⟩), .pointer (some ⟨w.heap.size + 1, 0, none⟩)]) ∧ CL w' w.heap.size (w.heap.size + 1) 0 ∧ Below w.heap.size w w' := by
 go_enter Tryz.func58, Tryz.ntmps58
 go_wp2_with (first
  | ((with_reducible show OpW 1); refine wpList_alloc1 _ rfl 3 rfl (.int .i64 0) intZero rfl ?_; intro w1 a1 a2 a3; have H1 := Lib.hid a1; have HB1 := Lib.hid a2; have HZ1 := Lib.hid a3; clear a1 a2 a3)
  | ((with_reducible show OpW 2); refine wpList_alloc1 _ rfl 3 rfl (.int .i64 0) intZero rfl ?_; intro w2 a1 a2 a3; rw [HZ1.out] at a1 ⊢; have H2 := Lib.hid a1; have HB2 := Lib.hid (below_then HB1.out a2); have H12 := Lib.hid (H1.out.kept a2); clear a1 a2 a3)
  | ((with_reducible show OpN); refine wpList_store1 _ rfl 3 (.tmp 1) (.const (.int .i64 1)) rfl (intSz _) w.heap.size 0 _ _ (.int .i64 1) rfl rfl H12.out rfl rfl (by decide) ?_; intro w3 a1 a2 a3; have H13 := Lib.hid a1; have HK3 := Lib.hid a2; have H23 := Lib.hid (a2.bl H2.out (by omega)); clear a1 a2 a3)
  | ((with_reducible show OpN); refine wpList_store1 _ rfl 3 (.tmp 2) (.const (.int .i64 0)) rfl (intSz _) (w.heap.size + 1) 0 _ _ (.int .i64 0) rfl rfl H23.out rfl rfl (by decide) ?_; intro w4 a1 a2 a3; have H24 := Lib.hid a1; have HK4 := Lib.hid a2; have H14 := Lib.hid (a2.bl H13.out (by omega)); clear a1 a2 a3))
 go_ret
 exact ⟨rfl, ⟨H14.out, H24.out, by omega⟩, (((Kp.of_below (S := fun _ => False) HB2.out).after HK3.out (fun i hi e => by omega)).after HK4.out (fun i hi e => by omega)).below (Nat.le_refl _) (fun _ h => h.elim)⟩
end Go.Proofs.YtfcakjpljjnjnaaGreatDoor
/- seal.Class, hasClass, validRefs. -/
namespace Go.Proofs.YtfcakjpljjnjnaaGreatDoor
open Go Go.RowKit Gf Sha

theorem wpList_makeGs {κ : Type} {P : Program} (w : World) {ops : Array Oper} {rest : List Oper} {o : Oper} {a : Act} {Q : Exit → Act → World → Prop} {enc : κ → Value} (hg : o.guard = none) (t k e : TypeId) (x : Operand) (hop : o.op = .makeMap t (some x)) (ht : P.underlying t = some (.map k e)) (n : Int) (hx : a.eval x = .int .i64 n) (z : Value)
  (h : ∀ w', MG P k enc z w' w.heap.size (fun _ => z) → Below w.heap.size w w' → w'.heap.size = w.heap.size + 1 → wpList P ops Q rest (a.put o.dst (.map (some w.heap.size))) w') : wpList P ops Q (o :: rest) a w :=
 wpList_plain hg fun _ hK' => by
  unfold Oper.wp execOp
  simp only [hop]
  simp [Instr.makeMap, hx, run_underlying ht, asInt, asIntOf, Result.andThen]
  exact hK' _ _ (h _ (MG.new (MF.new (MB.new P k w))) ((Below.refl _ _).alloc (Nat.le_refl _) _) (by simp))

theorem clsAt_big : 32800 ≤ clsAt 37 := by decide +kernel
theorem clsAt_mono (t : Nat) : clsAt t ≤ clsAt (t + 1) := by
 have h4 : t % 4 = 0 ∨ t % 4 = 1 ∨ t % 4 = 2 ∨ t % 4 = 3 := by omega
 unfold clsAt
 rcases h4 with e | e | e | e
 ·
  rw [show (t + 1) / 4 = t / 4 by omega, show (t + 1) % 4 = 1 by omega, e]; exact Nat.mul_le_mul_left _ (by omega)
 ·
  rw [show (t + 1) / 4 = t / 4 by omega, show (t + 1) % 4 = 2 by omega, e]; exact Nat.mul_le_mul_left _ (by omega)
 ·
  rw [show (t + 1) / 4 = t / 4 by omega, show (t + 1) % 4 = 3 by omega, e]; exact Nat.mul_le_mul_left _ (by omega)
 ·
  rw [show (t + 1) / 4 = t / 4 + 1 by omega, show (t + 1) % 4 = 0 by omega, e, Nat.pow_succ]; omega
theorem clsAt_le (t d : Nat) : clsAt t ≤ clsAt (t + d) := by
 induction d with
 | zero => exact Nat.le_refl _
 | succ d ih => exact Nat.le_trans ih (clsAt_mono _)
theorem cls_small {t n : Nat} (h : clsAt t < n) (hn : n ≤ 32800) : t < 37 := by
 rcases Nat.lt_or_ge t 37 with h1 | h1
 ·
  exact h1
 ·
  have := clsAt_le 37 (t - 37)
  rw [show 37 + (t - 37) = t by omega] at this
  have := clsAt_big
  omega
theorem clsAt_ub {t : Nat} (h : t ≤ 37) : clsAt t ≤ 40960 := by
 have := clsAt_le t (37 - t)
 rw [show t + (37 - t) = 37 by omega] at this
 have h2 : clsAt 37 ≤ 40960 := by decide +kernel
 omega

set_option maxRecDepth 100000 in
set_option maxHeartbeats 2000000 in
theorem class_any (n : Nat) (w : World) (hn : n ≤ 32768) :
  Calls Tryz.prog 32 #[.int .i64 (n : Int)] w fun e w' => e = .returned (.tuple #[.int .i64 (clsOf (needN n) : Int), .int .i64 0]) ∧ Below w.heap.size w w' := by
 have HU := Lib.hid (uintSize_any n w (by omega))
 have HL := Lib.hid (uv_length n)
 have h0 : IntKind.u64.wrap (n : Int) = (n : Int) := u64_wrapN n (by omega)
 obtain ⟨m, hm⟩ : ∃ m, m = (uv n).length := ⟨_, rfl⟩
 have HM := Lib.hid hm
 rw [← hm] at HU HL
 have hm1 : m ≤ 11 := HL.out.2
 have HND : Hid (needN n = m + n + 16) := Lib.hid (by rw [needN, hm])
 clear hm
 have d1 : decide ((n : Int) < 0) = false := decide_eq_false (by omega)
 have d2 : decide ((32768 : Int) < (n : Int)) = false := decide_eq_false (by omega)
 have d3 : decide (32768 < n) = false := decide_eq_false (by omega)
 go_enter Tryz.func32, Tryz.ntmps32
 go_wp2_with (first
  | (go_at_call 57; refine HU.out.mono ?_; rintro e w1 ⟨rfl, hw⟩; rw [hw]; clear hw w1)
  | (go_at_call 58; refine (classes_any _).mono ?_; rintro e w2 ⟨rfl, hc, b2⟩; have HC2 := Lib.hid hc; have HB2 := Lib.hid b2; clear hc b2)
  | (go_at_call 90; refine (next_any _ _ _ 0 HC2.out (by omega)).mono ?_; rintro e w3 ⟨rfl, hc, b3⟩; have HC3 := Lib.hid hc; have HB3 : Hid (Below w.heap.size w w3) := Lib.hid (((Kp.of_below (S := fun _ => False) HB2.out).after b3 (fun i hi e => by omega)).below (Nat.le_refl _) (fun _ h => h.elim)); clear hc b3))
 go_loopw [6] (fun v wr => ∃ t : Nat, t ≤ 37 ∧ v = .int .i64 (clsAt t : Int) ∧ Hid (CL wr w.heap.size (w.heap.size + 1) (t + 1)) ∧ Hid (clsG (44 - t) t (needN n) = clsOf (needN n)) ∧ Hid (Below w.heap.size w wr)) (fun v _ => 100000 - (intOf v).toNat)
 case atStart => exact ⟨0, by omega, rfl, HC3, Lib.hid rfl, HB3⟩
 case round =>
  obtain ⟨t, ht, rfl, hc, hg, hb⟩ := hrel
  obtain ⟨wx, hwx⟩ : ∃ x, x = wr := ⟨_, rfl⟩
  rw [← hwx] at hc hb ⊢
  clear hwx
  obtain ⟨C, hC⟩ : ∃ C, C = clsAt t := ⟨_, rfl⟩
  rw [← hC]
  have HC := Lib.hid hC
  have hcu : C ≤ 40960 := by rw [hC]; exact clsAt_ub ht
  clear hC
  by_cases hlt : C < m + n + 16
  ·
   have HT : Hid (t < 37) := Lib.hid (cls_small (by rw [← HC.out]; exact hlt) (by omega))
   have HG : Hid (clsG (44 - (t + 1)) (t + 1) (needN n) = clsOf (needN n)) := Lib.hid (by
    rw [← hg.out, show 44 - t = (44 - (t + 1)) + 1 by have := HT.out; omega, clsG_miss (by rw [HND.out, ← HC.out]; omega)])
   have HMO : Hid (C < clsAt (t + 1)) := Lib.hid (by
    rw [HC.out]
    have h4 : t % 4 = 0 ∨ t % 4 = 1 ∨ t % 4 = 2 ∨ t % 4 = 3 := by omega
    have hp : 0 < 2 ^ (t / 4) := Nat.pow_pos (by decide)
    unfold clsAt
    rcases h4 with e | e | e | e
    ·
     rw [show (t + 1) / 4 = t / 4 by omega, show (t + 1) % 4 = 1 by omega, e]; exact Nat.mul_lt_mul_of_pos_left (by omega) hp
    ·
     rw [show (t + 1) / 4 = t / 4 by omega, show (t + 1) % 4 = 2 by omega, e]; exact Nat.mul_lt_mul_of_pos_left (by omega) hp
    ·
     rw [show (t + 1) / 4 = t / 4 by omega, show (t + 1) % 4 = 3 by omega, e]; exact Nat.mul_lt_mul_of_pos_left (by omega) hp
    ·
     rw [show (t + 1) / 4 = t / 4 + 1 by omega, show (t + 1) % 4 = 0 by omega, e, Nat.pow_succ]; omega)
   have f1 : decide ((C : Int) < (m : Int) + (n : Int) + 16) = true := decide_eq_true (by omega)
   go_wp2_with (first
    | (go_at_call 90; refine (next_any _ _ _ (t + 1) hc.out (by omega)).mono ?_; rintro e w3 ⟨rfl, hc', b3⟩; have HC4 := Lib.hid hc'; have HB4 : Hid (Below w.heap.size w w3) := Lib.hid (((Kp.of_below (S := fun _ => False) hb.out).after b3 (fun i hi e => by omega)).below (Nat.le_refl _) (fun _ h => h.elim)); clear hc' b3))
   go_roundw
   case rel => exact ⟨t + 1, by have := HT.out; omega, rfl, HC4, HG, HB4⟩
   case measure =>
    have h1 := HMO.out
    have h2 := clsAt_ub (t := t + 1) (by have := HT.out; omega)
    simp [intOf]; omega
  ·
   have f1 : decide ((C : Int) < (m : Int) + (n : Int) + 16) = false := decide_eq_false (by omega)
   have HR : Hid (clsOf (needN n) = C) := Lib.hid (by rw [← hg.out, clsG_hit (by rw [HND.out, ← HC.out]; omega), HC.out])
   go_wp2_with fail
   go_ret2
   exact ⟨by rw [HR.out]; rfl, hb.out⟩

set_option maxHeartbeats 1000000 in
theorem hasClass_any (r : Rf) (c : Int) (w : World) (hr : rfB r = true) :
  Calls Tryz.prog 33 #[.agg (rfL r).toArray, .int .i64 c] w fun e w' => e = .returned (.bool (decide (clsR r = c))) ∧ Below w.heap.size w w' := by
 obtain ⟨n, hn, hle⟩ := rfB_size hr
 have HR : Hid (clsR r = (clsOf (needN n) : Int)) := Lib.hid (by rw [clsR, hn]; rfl)
 have HN : Hid (rfL r = [.string (strB r.1), .int .i64 r.2.1, .int .i64 (n : Int)]) := Lib.hid (by rw [rfL, hn])
 have HC := Lib.hid (fun w => class_any n w hle)
 clear hn hr
 obtain ⟨C, hC⟩ : ∃ C, C = (clsOf (needN n) : Int) := ⟨_, rfl⟩
 rw [← hC] at HC HR
 clear hC
 go_enter Tryz.func33, Tryz.ntmps33
 go_wp2_with (first
  | ((with_reducible show OpW 2); refine wpList_box _ rfl 44 (.tmp 0) rfl (rfL r) rfl ?_; intro w1 a1 a2 a3; have HB1 := Lib.hid a2; rw [HN.out] at a1; have q2 := a1.get (j := 2) rfl; clear a1 a2 a3)
  | (go_at_call 32; refine (HC.out _).mono ?_; rintro e w2 ⟨rfl, b2⟩; have HB2 := Lib.hid (below_then HB1.out b2); clear b2))
 go_ret
 exact ⟨ret_bool (by rw [HR.out]; by_cases h : C = c <;> simp [h]), HB2.out⟩
end Go.Proofs.YtfcakjpljjnjnaaGreatDoor
/- validRefs, stripe.Check. -/
namespace Go.Proofs.YtfcakjpljjnjnaaGreatDoor
open Go Go.RowKit Gf Sha

set_option maxRecDepth 100000 in
set_option maxHeartbeats 4000000 in
theorem validRefs_any (A : Option Addr) (n c : Nat) (l : List Rf) (w : World) (h : LS rRf 3 32 w A n c l) :
  Calls Tryz.prog 31 #[.slice A n c] w fun e w' => e = .returned (.bool (okB rfB rfN l)) ∧ Below w.heap.size w w' := by
 have hn := h.len_le
 have H := Lib.hid h
 have HL := Lib.hid h.1
 clear h
 go_enter Tryz.func31, Tryz.ntmps31
 go_wp2_with (first
  | ((with_reducible show OpW 8); refine wpList_makeGs (enc := usC) _ rfl 93 9 4 (.tmp 7) rfl mapSB (n : Int) rfl (.bool false) ?_; intro w1 a1 a2 a3; have HM1 := Lib.hid a1; have HB1 := Lib.hid a2; clear a1 a2 a3))
 go_loopw [11] (fun iv wr => ∃ k : Nat, k ≤ n ∧ iv = .int .i64 (k : Int) ∧ Hid (∀ j, j < k → okAt rfB rfN l j = true) ∧ Hid (MG Tryz.prog 9 usC (.bool false) wr w.heap.size (fun x => .bool ((l.take k).any fun y => rfN y == x))) ∧ Hid (Below w.heap.size w wr)) (fun iv _ => n - (intOf iv).toNat)
 case atStart => exact ⟨0, by omega, rfl, Lib.hid (fun j hj => absurd hj (by omega)), HM1, HB1⟩
 case round =>
  obtain ⟨k, hk, rfl, hall, hm, hb⟩ := hrel
  obtain ⟨wx, hwx⟩ : ∃ x, x = wr := ⟨_, rfl⟩
  rw [← hwx] at hm hb ⊢
  clear hwx
  by_cases hlt : k < n
  ·
   obtain ⟨r, g, o, cs, hs, rfl, hat, rfl, hok⟩ := H.out.at_ stay_rf (Below.refl _ _) hlt
   have HX := Lib.hid hs
   have HA := Lib.hid (hat.kept hb.out)
   have HKS := Lib.hid (keyS r.1 (reach_key hok.1))
   clear hs hat hok
   by_cases h1 : r.1.length = 32
   rotate_left
   ·
    have e1 : (((strB r.1).size : Int) != 32) = true := by rw [strB_size, bne_iff_ne]; omega
    have HF : Hid (okB rfB rfN l = false) := Lib.hid (ok_bad HX.out (by rw [rfB, decide_eq_false h1]; rfl))
    clear h1
    go_wp2_with (first
     | ((with_reducible show OpW 14); refine wpList_loadv _ rfl 44 (.tmp 13) rfl 3 (by kernel_rfl) g (o + k * 3) (rfL r) (by go_simp) HA.out rfl ?_)
     | ((with_reducible show OpW 5); refine wpList_alloc _ rfl 44 rfl rfZ rfZero ?_; intro w3 a1 a2 a3; have HV3 := Lib.hid a1; have HX3 := Lib.hid a2; clear a1 a2 a3)
     | ((with_reducible show OpN); refine wpList_storev _ rfl 44 (.tmp 5) (.tmp 14) rfl 3 (by kernel_rfl) wx.heap.size 0 _ rfZ (rfL r) rfl rfl HV3.out rfl (one_rf r) (by decide) ?_; intro w4 a1 a2 a3; have HV4 : Hid (BL w4 wx.heap.size 44 (rfL r)) := Lib.hid a1; have HX4 : Hid (Below wx.heap.size wx w4) := Lib.hid (((Kp.of_below (S := fun _ => False) HX3.out).after a2 (fun i hi e => by omega)).below (Nat.le_refl _) (fun _ h => h.elim)); clear a1 a2 a3; have r0 := HV4.out.get (j := 0) rfl; have r1 := HV4.out.get (j := 1) rfl; have r2 := HV4.out.get (j := 2) rfl)
     | fail)
    go_ret
    exact ⟨ret_bool HF.out.symm, below_thenB hb.out hb.out.size HX4.out⟩
   have e1 : (((strB r.1).size : Int) != 32) = false := by rw [strB_size, h1]; rfl
   by_cases h2 : 0 ≤ r.2.1
   rotate_left
   ·
    have e2 : decide (r.2.1 < 0) = true := decide_eq_true (by omega)
    have HF : Hid (okB rfB rfN l = false) := Lib.hid (ok_bad HX.out (by rw [rfB, decide_eq_true h1, decide_eq_false h2]; rfl))
    clear h1 h2
    go_wp2_with (first
     | ((with_reducible show OpW 14); refine wpList_loadv _ rfl 44 (.tmp 13) rfl 3 (by kernel_rfl) g (o + k * 3) (rfL r) (by go_simp) HA.out rfl ?_)
     | ((with_reducible show OpW 5); refine wpList_alloc _ rfl 44 rfl rfZ rfZero ?_; intro w3 a1 a2 a3; have HV3 := Lib.hid a1; have HX3 := Lib.hid a2; clear a1 a2 a3)
     | ((with_reducible show OpN); refine wpList_storev _ rfl 44 (.tmp 5) (.tmp 14) rfl 3 (by kernel_rfl) wx.heap.size 0 _ rfZ (rfL r) rfl rfl HV3.out rfl (one_rf r) (by decide) ?_; intro w4 a1 a2 a3; have HV4 : Hid (BL w4 wx.heap.size 44 (rfL r)) := Lib.hid a1; have HX4 : Hid (Below wx.heap.size wx w4) := Lib.hid (((Kp.of_below (S := fun _ => False) HX3.out).after a2 (fun i hi e => by omega)).below (Nat.le_refl _) (fun _ h => h.elim)); clear a1 a2 a3; have r0 := HV4.out.get (j := 0) rfl; have r1 := HV4.out.get (j := 1) rfl; have r2 := HV4.out.get (j := 2) rfl)
     | fail)
    go_ret
    exact ⟨ret_bool HF.out.symm, below_thenB hb.out hb.out.size HX4.out⟩
   have e2 : decide (r.2.1 < 0) = false := decide_eq_false (by omega)
   by_cases h3 : 0 ≤ r.2.2
   rotate_left
   ·
    have e3 : decide (r.2.2 < 0) = true := decide_eq_true (by omega)
    have HF : Hid (okB rfB rfN l = false) := Lib.hid (ok_bad HX.out (by rw [rfB, decide_eq_true h1, decide_eq_true h2, decide_eq_false h3]; rfl))
    clear h1 h2 h3
    go_wp2_with (first
     | ((with_reducible show OpW 14); refine wpList_loadv _ rfl 44 (.tmp 13) rfl 3 (by kernel_rfl) g (o + k * 3) (rfL r) (by go_simp) HA.out rfl ?_)
     | ((with_reducible show OpW 5); refine wpList_alloc _ rfl 44 rfl rfZ rfZero ?_; intro w3 a1 a2 a3; have HV3 := Lib.hid a1; have HX3 := Lib.hid a2; clear a1 a2 a3)
     | ((with_reducible show OpN); refine wpList_storev _ rfl 44 (.tmp 5) (.tmp 14) rfl 3 (by kernel_rfl) wx.heap.size 0 _ rfZ (rfL r) rfl rfl HV3.out rfl (one_rf r) (by decide) ?_; intro w4 a1 a2 a3; have HV4 : Hid (BL w4 wx.heap.size 44 (rfL r)) := Lib.hid a1; have HX4 : Hid (Below wx.heap.size wx w4) := Lib.hid (((Kp.of_below (S := fun _ => False) HX3.out).after a2 (fun i hi e => by omega)).below (Nat.le_refl _) (fun _ h => h.elim)); clear a1 a2 a3; have r0 := HV4.out.get (j := 0) rfl; have r1 := HV4.out.get (j := 1) rfl; have r2 := HV4.out.get (j := 2) rfl)
     | fail)
    go_ret
    exact ⟨ret_bool HF.out.symm, below_thenB hb.out hb.out.size HX4.out⟩
   have e3 : decide (r.2.2 < 0) = false := decide_eq_false (by omega)
   by_cases h4 : r.2.2 ≤ 32768
   rotate_left
   ·
    have e4 : decide (32768 < r.2.2) = true := decide_eq_true (by omega)
    have HF : Hid (okB rfB rfN l = false) := Lib.hid (ok_bad HX.out (by rw [rfB, decide_eq_true h1, decide_eq_true h2, decide_eq_true h3, decide_eq_false h4]; rfl))
    clear h1 h2 h3 h4
    go_wp2_with (first
     | ((with_reducible show OpW 14); refine wpList_loadv _ rfl 44 (.tmp 13) rfl 3 (by kernel_rfl) g (o + k * 3) (rfL r) (by go_simp) HA.out rfl ?_)
     | ((with_reducible show OpW 5); refine wpList_alloc _ rfl 44 rfl rfZ rfZero ?_; intro w3 a1 a2 a3; have HV3 := Lib.hid a1; have HX3 := Lib.hid a2; clear a1 a2 a3)
     | ((with_reducible show OpN); refine wpList_storev _ rfl 44 (.tmp 5) (.tmp 14) rfl 3 (by kernel_rfl) wx.heap.size 0 _ rfZ (rfL r) rfl rfl HV3.out rfl (one_rf r) (by decide) ?_; intro w4 a1 a2 a3; have HV4 : Hid (BL w4 wx.heap.size 44 (rfL r)) := Lib.hid a1; have HX4 : Hid (Below wx.heap.size wx w4) := Lib.hid (((Kp.of_below (S := fun _ => False) HX3.out).after a2 (fun i hi e => by omega)).below (Nat.le_refl _) (fun _ h => h.elim)); clear a1 a2 a3; have r0 := HV4.out.get (j := 0) rfl; have r1 := HV4.out.get (j := 1) rfl; have r2 := HV4.out.get (j := 2) rfl)
     | fail)
    go_ret
    exact ⟨ret_bool HF.out.symm, below_thenB hb.out hb.out.size HX4.out⟩
   have e4 : decide (32768 < r.2.2) = false := decide_eq_false (by omega)
   have HRB : Hid (rfB r = true) := Lib.hid (by rw [rfB, decide_eq_true h1, decide_eq_true h2, decide_eq_true h3, decide_eq_true h4]; rfl)
   clear h1 h2 h3 h4
   cases h5 : (l.take k).any fun y => rfN y == r.1 with
   | true =>
    have HF : Hid (okB rfB rfN l = false) := Lib.hid (by
     obtain ⟨y, hy, hye⟩ := List.any_eq_true.1 h5
     obtain ⟨j, hj⟩ := List.mem_iff_getElem?.1 hy
     have hjk : j < k := by
      have := (List.getElem?_eq_some_iff.1 hj).1
      rw [List.length_take] at this; omega
     rw [List.getElem?_take_of_lt hjk] at hj
     exact ok_twice HX.out hj hjk (by simpa using hye))
    go_wp2_with (first
     | ((with_reducible show OpW 14); refine wpList_loadv _ rfl 44 (.tmp 13) rfl 3 (by kernel_rfl) g (o + k * 3) (rfL r) (by go_simp) HA.out rfl ?_)
     | ((with_reducible show OpW 5); refine wpList_alloc _ rfl 44 rfl rfZ rfZero ?_; intro w3 a1 a2 a3; have HV3 := Lib.hid a1; have HX3 := Lib.hid a2; clear a1 a2 a3)
     | ((with_reducible show OpN); refine wpList_storev _ rfl 44 (.tmp 5) (.tmp 14) rfl 3 (by kernel_rfl) wx.heap.size 0 _ rfZ (rfL r) rfl rfl HV3.out rfl (one_rf r) (by decide) ?_; intro w4 a1 a2 a3; have HV4 : Hid (BL w4 wx.heap.size 44 (rfL r)) := Lib.hid a1; have HX4 : Hid (Below wx.heap.size wx w4) := Lib.hid (((Kp.of_below (S := fun _ => False) HX3.out).after a2 (fun i hi e => by omega)).below (Nat.le_refl _) (fun _ h => h.elim)); clear a1 a2 a3; have r0 := HV4.out.get (j := 0) rfl; have r1 := HV4.out.get (j := 1) rfl; have r2 := HV4.out.get (j := 2) rfl)
     | fail | ((with_reducible show OpW 38); refine wpList_lookGgv _ rfl (.tmp 35) (.tmp 37) 93 9 4 rfl strKeyed mapSB (.bool false) boolZero w.heap.size _ rfl (hm.out.kept HX4.out) r.1 rfl HKS.out (.bool true) (by rw [h5]) ?_))
    go_ret
    exact ⟨ret_bool HF.out.symm, below_thenB hb.out hb.out.size HX4.out⟩
   | false =>
    have HF : Hid (∀ j, j < k + 1 → okAt rfB rfN l j = true) := Lib.hid (fun i hi => by
     rcases Nat.lt_succ_iff_lt_or_eq.1 hi with h | rfl
     ·
      exact hall.out i h
     ·
      exact ok_hit HX.out HRB.out h5)
    go_wp2_with (first
     | ((with_reducible show OpW 14); refine wpList_loadv _ rfl 44 (.tmp 13) rfl 3 (by kernel_rfl) g (o + k * 3) (rfL r) (by go_simp) HA.out rfl ?_)
     | ((with_reducible show OpW 5); refine wpList_alloc _ rfl 44 rfl rfZ rfZero ?_; intro w3 a1 a2 a3; have HV3 := Lib.hid a1; have HX3 := Lib.hid a2; clear a1 a2 a3)
     | ((with_reducible show OpN); refine wpList_storev _ rfl 44 (.tmp 5) (.tmp 14) rfl 3 (by kernel_rfl) wx.heap.size 0 _ rfZ (rfL r) rfl rfl HV3.out rfl (one_rf r) (by decide) ?_; intro w4 a1 a2 a3; have HV4 : Hid (BL w4 wx.heap.size 44 (rfL r)) := Lib.hid a1; have HX4 : Hid (Below wx.heap.size wx w4) := Lib.hid (((Kp.of_below (S := fun _ => False) HX3.out).after a2 (fun i hi e => by omega)).below (Nat.le_refl _) (fun _ h => h.elim)); clear a1 a2 a3; have r0 := HV4.out.get (j := 0) rfl; have r1 := HV4.out.get (j := 1) rfl; have r2 := HV4.out.get (j := 2) rfl)
     | fail | ((with_reducible show OpW 38); refine wpList_lookGgv _ rfl (.tmp 35) (.tmp 37) 93 9 4 rfl strKeyed mapSB (.bool false) boolZero w.heap.size _ rfl (hm.out.kept HX4.out) r.1 rfl HKS.out (.bool false) (by rw [h5]) ?_) | ((with_reducible show OpN); refine wpList_updG _ (fun x y h => usC_inj h) rfl (.tmp 40) (.tmp 42) (.const (.bool true)) 93 9 4 rfl strKeyed mapSB (.bool false) w.heap.size _ rfl (hm.out.kept HX4.out) r.1 (.bool true) rfl rfl HKS.out ?_; intro w5 a1 a2 a3; have HM5 := Lib.hid a1; have HK5 := Lib.hid a2; clear a1 a2 a3))
    have HN5 : Hid (MG Tryz.prog 9 usC (.bool false) w5 w.heap.size (fun x => .bool ((l.take (k + 1)).any fun y => rfN y == x))) := Lib.hid (HM5.out.to (fun y => by
     rw [take_next HX.out, List.any_append]
     by_cases h : y = r.1
     ·
      subst h; simp
     ·
      rw [if_neg h]; simp [show (rfN r == y) = false from by simpa using fun e => h e.symm]))
    have HB5 : Hid (Below w.heap.size w w5) := Lib.hid (((Kp.of_below (S := fun _ => False) (below_thenB hb.out hb.out.size HX4.out)).after HK5.out (fun i hi e => by omega)).below (Nat.le_refl _) (fun _ h => h.elim))
    go_roundw
    case rel => exact ⟨k + 1, by omega, by go_num, HF, HN5, HB5⟩
    case measure => simp [intOf]; omega
  ·
   obtain rfl : k = n := by omega
   have HF : Hid (okB rfB rfN l = true) := Lib.hid (ok_all (by rw [HL.out]; exact hall.out))
   go_wp2_with fail
   go_ret
   exact ⟨ret_bool HF.out.symm, hb.out⟩
end Go.Proofs.YtfcakjpljjnjnaaGreatDoor
