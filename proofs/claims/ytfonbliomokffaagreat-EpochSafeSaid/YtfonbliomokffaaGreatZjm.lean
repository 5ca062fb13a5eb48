/- The town's acts. -/
import Derived.Test.YtfonbliomokffaaGreatZim
namespace Go.Proofs.YtfonbliomokffaaGreat
open Go Go.RowKit Gf Sha

/-- An act. -/
structure Ac where
 kind : Int
 who : Int
 other : Int
 set : UInt8
abbrev acC (a : Ac) : List Value := [.int .i64 a.kind, .int .i64 a.who, .int .i64 a.other, B a.set]
def rAc : Rdg Ac := fun _ cs a => cs = acC a ∧ wfI a.kind ∧ wfI a.who ∧ wfI a.other
theorem stay_ac : Stay rAc := fun _ _ _ _ h _ => h
/-- Is a stripe in an act's set? -/
def mB (st : UInt8) (s : Nat) : Bool := bits BinOp.and IntKind.u8 (bv st / 2 ^ s) 1 == 1
def mZ (st : UInt8) (s : Nat) : Bool := !(bits BinOp.and IntKind.u8 (bv st / 2 ^ s) 1 == 0)
theorem inRow_succ (m u s i : Nat) : inRow m u (s + 1) i = (inRow m u s i || decide (i = m * u + s)) := by
 rw [Bool.eq_iff_iff, Bool.or_eq_true, inRow_iff, inRow_iff, decide_eq_true_eq]; omega
theorem inRow_self (m u s : Nat) : inRow m u s (m * u + s) = false := by rw [← Bool.not_eq_true, inRow_iff]; omega
theorem needK_no {T : Tn} {u s : Nat} {m : Nat → Bool} {C : List (List UInt8)} (h : (m s && !hasB C (sid s)) = false) : T.needK u m C (s + 1) = T.needK u m C s := by
 unfold Tn.needK
 congr 1
 funext i
 rw [inRow_succ]
 by_cases e : i = 8 * u + s
 ·
  subst e
  rw [inRow_self, decide_eq_true rfl, show 8 * u + s - 8 * u = s by omega, h]; rfl
 ·
  rw [decide_eq_false e, Bool.or_false]
theorem needK_yes {T : Tn} {u s : Nat} {m : Nat → Bool} {C : List (List UInt8)} (h : (m s && !hasB C (sid s)) = true) : { T.needK u m C s with nd := up (T.needK u m C s).nd (8 * u + s) true } = T.needK u m C (s + 1) := by
 show Tn.mk T.lg T.vw T.wr (up (T.needK u m C s).nd (8 * u + s) true) T.ex T.ad T.bw = Tn.mk T.lg T.vw T.wr (T.needK u m C (s + 1)).nd T.ex T.ad T.bw
 congr 1
 funext i
 show (if i = 8 * u + s then true else (T.nd i || (inRow 8 u s i && (m (i - 8 * u) && !hasB C (sid (i - 8 * u)))))) = (T.nd i || (inRow 8 u (s + 1) i && (m (i - 8 * u) && !hasB C (sid (i - 8 * u)))))
 rw [inRow_succ]
 by_cases e : i = 8 * u + s
 ·
  subst e
  rw [if_pos rfl, decide_eq_true rfl, Bool.or_true, show 8 * u + s - 8 * u = s by omega, h]; simp
 ·
  rw [if_neg e, decide_eq_false e, Bool.or_false]
theorem needK_0 (T : Tn) (u : Nat) (m : Nat → Bool) (C : List (List UInt8)) : T.needK u m C 0 = T := by
 unfold Tn.needK
 have : (fun i => T.nd i || (inRow 8 u 0 i && (m (i - 8 * u) && !hasB C (sid (i - 8 * u))))) = T.nd := by
  funext i; rw [inRow_zero]; simp
 rw [this]
theorem releaseK_0 (T : Tn) (u : Nat) (m : Nat → Bool) : T.releaseK u m 0 = T := by
 unfold Tn.releaseK
 have : (fun i => T.nd i && !(inRow 8 u 0 i && m (i - 8 * u))) = T.nd := by
  funext i; rw [inRow_zero]; simp
 rw [this]
theorem releaseK_next {T : Tn} {u s : Nat} {m : Nat → Bool} {z : Bool} (h : z = ((T.releaseK u m s).nd (8 * u + s) && !m s)) : { T.releaseK u m s with nd := up (T.releaseK u m s).nd (8 * u + s) z } = T.releaseK u m (s + 1) := by
 show Tn.mk T.lg T.vw T.wr (up (T.releaseK u m s).nd (8 * u + s) z) T.ex T.ad T.bw = Tn.mk T.lg T.vw T.wr (T.releaseK u m (s + 1)).nd T.ex T.ad T.bw
 congr 1
 funext i
 show (if i = 8 * u + s then z else (T.nd i && !(inRow 8 u s i && m (i - 8 * u)))) = (T.nd i && !(inRow 8 u (s + 1) i && m (i - 8 * u)))
 rw [inRow_succ]
 by_cases e : i = 8 * u + s
 ·
  subst e
  rw [if_pos rfl, decide_eq_true rfl, Bool.or_true, show 8 * u + s - 8 * u = s by omega, h]
  show ((T.nd (8 * u + s) && !(inRow 8 u s (8 * u + s) && m (8 * u + s - 8 * u))) && !m s) = _
  rw [inRow_self]; simp
 ·
  rw [if_neg e, decide_eq_false e, Bool.or_false]
section
variable {P : Program} (w : World) {ops : Array Oper} {rest : List Oper} {o : Oper} {a : Act} {Q : Exit → Act → World → Prop}
/-- A number in another kind that holds it, behind a guard. -/
theorem wpList_convNg (hw9 : Region.wanted o (yielded ops a.tmps) = true) (x : Operand) (t t2 : TypeId) (hop : o.op = .convert t t2 x) (d : TypeDesc) (k k2 : IntKind) (ht : P.underlying t = some d) (ht2 : P.underlying t2 = some (.int k2)) (X : Nat) (zx : Int) (hx : a.eval x = .int k zx) (hX : zx = (X : Int)) (hw : k2.wrap (X : Int) = (X : Int))
  (h : wpList P ops Q rest (a.put o.dst (.int k2 (X : Int))) w) : wpList P ops Q (o :: rest) a w :=
 wpList_want w hw9 fun K hK => by
  subst hX
  unfold Oper.wp execOp
  simp only [hop, hx]
  simp [convert, run_underlying ht, run_underlying ht2, Conv.intToInt, Result.andThen, hw]
  exact hK _ _ h
end
section
set_option maxRecDepth 100000
set_option maxHeartbeats 2000000
theorem do_need (w0 : World) (g : Nat) (T : Tn) (v : Nat → Value) (u : Nat) (ao : Int) (st : UInt8) (w : World) (h : TM w0 w g T v) (hi : InvL T) (hl : T.all.length ≤ 2000) (hu : u < 3) (hwr : T.wr (3 * u + u) = true) :
  Calls Tryz.prog 21 #[.pointer (some ⟨g, 0, none⟩), .agg (acC ⟨0, (u : Int), ao, st⟩).toArray] w fun e w' => e = .returned (.bool true) ∧ ∃ v', TM w0 w' g (T.need u (mB st)) v' := by
 have H := Lib.hid h
 have HI := Lib.hid hi
 have HL := Lib.hid hl
 have HWR := Lib.hid hwr
 clear h hi hl hwr
 go_enter Tryz.func21, Tryz.ntmps21
 go_wp2_with (first
  | ((with_reducible show wpList _ _ _ (⟨some 3, _, _, _, _, _⟩ :: _) _ _); refine wpList_box _ rfl 55 (.tmp 1) rfl (acC ⟨0, (u : Int), ao, st⟩) rfl ?_; intro w1 y1 y2 y3; have HA1 := Lib.hid y1; have HT1 := Lib.hid (H.out.kept y2); have HB1 := Lib.hid y2; clear y1 y2 y3)
  | fail)
 have p1 := HA1.out.get (j := 1) rfl
 have p2 := HA1.out.get (j := 2) rfl
 refine Text.wp_region_text (fun _ => True) [(0, 4), (2, 4), (1, 1), (4, 4), (3, 1), (5, 4)] (by kernel_rfl) (by kernel_rfl) (fun _ _ _ _ _ h => h) (trivial) ?_
 iterate 2 (refine Text.purek rfl rfl (fun K hK => ⟨_, fun w' => by go_simp <;> rfl, ?_⟩); go_simp; refine hK _ ?_; clear hK K)
 (refine Text.readk rfl rfl (fun K hK => ⟨_, by go_simp <;> rfl, ?_⟩); go_simp; refine hK _ ?_; clear hK K)
 (refine Text.purek rfl rfl (fun K hK => ⟨_, fun w' => by go_simp <;> rfl, ?_⟩); go_simp; refine hK _ ?_; clear hK K)
 (refine Text.readk rfl rfl (fun K hK => ⟨_, by go_simp <;> rfl, ?_⟩); go_simp; refine hK _ ?_; clear hK K)
 (refine Text.purek rfl rfl (fun K hK => ⟨_, fun w' => by go_simp <;> rfl, ?_⟩); go_simp; refine hK _ ?_; clear hK K)
 refine Text.done ?_
 clear p1 p2
 have q0 : w1.drew.cell? ⟨g, 12 + u * 3 + u, none⟩ = some (.bool true) := by rw [HT1.out.drew.cw hu hu, HWR.out]
 have q1 : w1.drew.cell? ⟨w.heap.size, 0, none⟩ = some (.int .i64 0) := HA1.out.drew.get (j := 0) rfl
 go_wp2_with (first
  | (go_at_call 52; refine (view_any w0 g T v u w1.drew HT1.out.drew HI.out (Nat.le_trans HL.out (by decide)) hu).mono ?_; rintro e w2 ⟨A2, c2, rfl, x1, x2⟩; have HV2 := Lib.hid (x1.mono fun _ _ h => h.1); have HT2 := Lib.hid (HT1.out.drew.kept x2); have HA2 := Lib.hid (HA1.out.drew.kept x2); clear x1 x2)
  | (go_at_call 12; refine (condemned_any A2 _ c2 (T.view u) 0 (u : Int) w2 HV2.out (Nat.le_trans (view_len T u) HL.out) (wf_small (by omega) (by omega))).mono ?_; rintro e w3 ⟨A3, c3, rfl, x1, x3, x2⟩; have HC3 := Lib.hid x1; have HOW := Lib.hid x3; have HGL := Lib.hid HT2.out.bl.lt; have HT3 := Lib.hid (HT2.out.kept x2); have HA3 := Lib.hid (HA2.out.kept x2); clear x1 x2 x3))
 obtain ⟨C, hC⟩ : ∃ C, C = condL (dd (T.view u)) 0 (u : Int) := ⟨_, rfl⟩
 rw [← hC] at HC3 ⊢
 have HCD := Lib.hid hC
 clear hC
 have HFAR : Hid (∀ a, A3 = some a → ¬ a.block = g) := Lib.hid (fun a e => by have h7 := HOW.out a e; have h8 := HGL.out; omega)
 clear q0 q1
 go_loopw [8] (fun iv wr => ∃ s : Nat, s ≤ 8 ∧ iv = .int .i64 (s : Int) ∧ Hid (TM w0 wr g (T.needK u (mB st) C s) v) ∧ Hid (BL wr w.heap.size 55 (acC ⟨0, (u : Int), ao, st⟩)) ∧ Hid (LS rStr 1 16 wr A3 C.length c3 C)) (fun iv _ => 8 - (intOf iv).toNat)
 case atStart => exact ⟨0, by omega, rfl, by rw [needK_0]; exact HT3, HA3, HC3⟩
 case round =>
  obtain ⟨s, hs, rfl, ht, ha, hc⟩ := hrel
  obtain ⟨wx, hwx⟩ : ∃ x, x = wr := ⟨_, rfl⟩
  rw [← hwx] at ht ha hc ⊢
  clear hwx
  by_cases hlt : s < 8
  ·
   have p3 := ha.out.get (j := 3) rfl
   cases hm : mB st s with
   | false =>
    have fb : (bits BinOp.and IntKind.u8 (bv st / 2 ^ s) 1 == 1) = false := hm
    have HN : Hid (T.needK u (mB st) C (s + 1) = T.needK u (mB st) C s) := Lib.hid (needK_no (by rw [hm]; rfl))
    go_wp2_with fail
    go_roundw
    case rel => exact ⟨s + 1, by omega, by go_num, by rw [HN.out]; exact ht, ha, hc⟩
    case measure => simp [intOf]; omega
   | true =>
    have fb : (bits BinOp.and IntKind.u8 (bv st / 2 ^ s) 1 == 1) = true := hm
    cases hh : hasB C (sid s) with
    | true =>
     have HN : Hid (T.needK u (mB st) C (s + 1) = T.needK u (mB st) C s) := Lib.hid (needK_no (by rw [hm, hh]; rfl))
     go_wp2_with (first
      | ((with_reducible show wpList _ _ _ (⟨some 55, _, _, _, _, _⟩ :: _) _ _); refine wpList_convNg _ rfl (.tmp 54) 3 5 rfl _ .i64 .u8 Tryz.underlying3 Tryz.underlying5 (97 + s) _ rfl (by push_cast; go_num) (by show ((97 + s : Nat) : Int) % 256 = _; omega) ?_; rw [byte_sid hlt])
      | (go_at_call 37; refine (id_any (sc s) wx).mono ?_; rintro e w6 ⟨rfl, b1⟩; rw [sc_sid]; have HT6 := Lib.hid (ht.out.kept b1); have HA6 := Lib.hid (ha.out.kept b1); have HC6 := Lib.hid (hc.out.kept stay_str b1); clear b1)
      | (go_at_call 17; refine (has_any A3 C.length c3 C (sid s) w6 HC6.out).mono ?_; rintro e w9 ⟨rfl, hw⟩; rw [hw, hh]; clear hw w9)
      | fail)
     refine ⟨⟨s + 1, by omega, by go_num, by rw [HN.out]; exact HT6, HA6, HC6⟩, ?_⟩
     simp [intOf]
     omega
    | false =>
     have HN := Lib.hid (needK_yes (T := T) (u := u) (s := s) (m := mB st) (C := C) (by rw [hm, hh]; rfl))
     go_wp2_with (first
      | ((with_reducible show wpList _ _ _ (⟨some 55, _, _, _, _, _⟩ :: _) _ _); refine wpList_convNg _ rfl (.tmp 54) 3 5 rfl _ .i64 .u8 Tryz.underlying3 Tryz.underlying5 (97 + s) _ rfl (by push_cast; go_num) (by show ((97 + s : Nat) : Int) % 256 = _; omega) ?_; rw [byte_sid hlt])
      | (go_at_call 37; refine (id_any (sc s) wx).mono ?_; rintro e w6 ⟨rfl, b1⟩; rw [sc_sid]; have HT6 := Lib.hid (ht.out.kept b1); have HA6 := Lib.hid (ha.out.kept b1); have HC6 := Lib.hid (hc.out.kept stay_str b1); clear b1)
      | (go_at_call 17; refine (has_any A3 C.length c3 C (sid s) w6 HC6.out).mono ?_; rintro e w9 ⟨rfl, hw⟩; rw [hw, hh]; clear hw w9)
      | ((with_reducible show wpList _ _ _ (⟨none, _, _, _, _, _⟩ :: _) _ _); refine wpList_store1 _ rfl 4 (.tmp 66) (.const (.bool true)) rfl (sz1 _ (by kernel_rfl) _) g (21 + u * 8 + s) _ _ (.bool true) rfl rfl HT6.out.bl rfl rfl (by rw [tCs_len]; omega) ?_; intro w7 y1 y2 y3; rw [set_nd hu hlt] at y1; have HT7 := Lib.hid (HT6.out.put y1 y2 rfl); have HA7 := Lib.hid (y2.bl HA6.out (HA6.out.ne HT6.out.bl (by decide))); have HC7 := Lib.hid (HC6.out.kpn (w' := w7) (S := (· = g)) (fun _ _ h => h) y2 HFAR.out); clear y1 y2 y3))
     go_roundw
     case rel => exact ⟨s + 1, by omega, by go_num, by rw [← HN.out]; exact HT7, HA7, HC7⟩
     case measure => simp [intOf]; omega
  ·
   obtain rfl : s = 8 := by omega
   go_wp2_with fail
   go_ret
   refine ⟨rfl, v, ?_⟩
   unfold Tn.need
   rw [← HCD.out]
   exact ht.out
end
end Go.Proofs.YtfonbliomokffaaGreat
