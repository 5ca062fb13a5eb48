/- The town's acts: propose. -/
import Derived.Test.YtfonbliomokffaaGreatZkm
import Derived.Test.YtfonbliomokffaaGreatZmm
import Derived.Deep.DeepCutAuto
namespace Go.Proofs.YtfonbliomokffaaGreat
open Go Go.RowKit Gf Sha

theorem bldPp3 (a b : Int) (A : Option Addr) (n c : Nat) (w : World) : (Instr.build 42 #[(0, .int .i64 a), (1, .int .i64 b), (3, .slice A n c)]).run Tryz.prog w = .ok (.agg [.int .i64 a, .int .i64 b, .int .i64 0, .slice A n c, .slice none 0 0].toArray) w := by kernel_rfl
/-- The town, an act and a proposal under construction. -/
structure PS (w0 w1 w : World) (g : Nat) (T : Tn) (v : Nat → Value) (ga : Nat) (a : Ac) (gp : Nat) (x y : Int) (A : Option Addr) (n c : Nat) (W : List Int) (z : Value) (L : List (List UInt8)) : Prop where
 t : TM w0 w g T v
 a : BL w ga 55 (acC a)
 p : BL w gp 42 [.int .i64 x, .int .i64 y, .int .i64 0, .slice A n c, z]
 k : LS rInt 1 8 w A n c W
 ty : ∀ b, A = some b → ∃ l, BL w b.block 3 l
 o : OL rStr 1 9 w1 w z L
 low : Below w1.heap.size w1 w
 hp : w1.heap.size ≤ gp
section
variable {w0 w1 w w' : World} {g : Nat} {T : Tn} {v : Nat → Value} {ga : Nat} {a : Ac} {gp : Nat} {x y : Int} {A : Option Addr} {n c : Nat} {W : List Int} {z : Value} {L : List (List UInt8)}
theorem PS.kept (h : PS w0 w1 w g T v ga a gp x y A n c W z L) (hb : Below w.heap.size w w') : PS w0 w1 w' g T v ga a gp x y A n c W z L :=
 ⟨h.t.kept hb, h.a.kept hb, h.p.kept hb, h.k.kept stay_int hb, fun b e => let ⟨l, hl⟩ := h.ty b e; ⟨l, hl.kept hb⟩, h.o.kept hb, below_thenB h.low h.low.size hb, h.hp⟩
/-- What other blocks' turning leaves of the town. -/
theorem TM.far {S : Nat → Prop} (h : TM w0 w g T v) (hk : Kp S w w') (h1 : ¬ S g) (h2 : ∀ i t l, BL w i t l → t = 5 ∨ t = 33 → ¬ S i) (h3 : ∀ i, i < w0.heap.size → ¬ S i) : TM w0 w' g T v :=
 ⟨hk.bl h.bl h1, fun d hd => by
  obtain ⟨css, k1, k2, k3, k4, k5⟩ := h.lg d hd
  exact (h.lg d hd).kpE hk (fun b hb => by obtain ⟨l, hl⟩ := k4.ty hb; exact h2 b _ l hl (.inr rfl)) (fun i l hl => h2 i _ l hl (.inl rfl)), h.ne, low_kp h.low hk h3, h.hg⟩
/-- A stripe is appended and the field stored. -/
theorem PS.app (h : PS w0 w1 w g T v ga a gp x y A n c W z L) (hw : w0.heap.size ≤ w1.heap.size) {k : Nat} {l xs : List Value} {z' : Value} {L' : List (List UInt8)} (hrow : RW w 9 1 z k l) (ap : AppR w 9 1 z k 1 l xs z' w') (ho : OL rStr 1 9 w1 w' z' L')
  {w9 : World} (hb : BL w9 gp 42 [.int .i64 x, .int .i64 y, .int .i64 0, .slice A n c, z']) (hk : Kp (· = gp) w' w9) : PS w0 w1 w9 g T v ga a gp x y A n c W z' L' := by
 have hS : ∀ i t l', BL w i t l' → t ≠ 9 → ¬ z.ownBlock = some i := fun i t l' hl ht => own_ty hrow hl ht
 have ht1 : TM w0 w' g T v := h.t.far ap.kp (hS _ _ _ h.t.bl (by decide)) (fun i t l' hl ht => hS _ _ _ hl (by rcases ht with rfl | rfl <;> decide)) (fun i hi e => by have := h.o.own i e; omega)
 have hp1 : BL w' gp 42 [.int .i64 x, .int .i64 y, .int .i64 0, .slice A n c, z] := ap.kp.bl h.p (hS _ _ _ h.p (by decide))
 have ha1 : BL w' ga 55 (acC a) := ap.kp.bl h.a (hS _ _ _ h.a (by decide))
 have hk1 : LS rInt 1 8 w' A n c W := h.k.kpn (w' := w') (fun _ _ h => h) ap.kp (fun b e => by obtain ⟨l', hl⟩ := h.ty b e; exact hS _ _ _ hl (by decide))
 have hty1 : ∀ b, A = some b → ∃ l, BL w' b.block 3 l := fun b e => by obtain ⟨l', hl⟩ := h.ty b e; exact ⟨l', ap.kp.bl hl (hS _ _ _ hl (by decide))⟩
 have hl1 : Below w1.heap.size w1 w' := low_kp h.low ap.kp (fun i hi e => by have := h.o.own i e; omega)
 obtain ⟨_, r1⟩ := ho.row
 refine ⟨ht1.far hk (ht1.bl.ne hp1 (by decide)) (fun i t l' hl ht => hl.ne hp1 (by rcases ht with rfl | rfl <;> decide)) (fun i hi e => by have := h.hp; omega), hk.bl ha1 (ha1.ne hp1 (by decide)), hb, hk1.kpn (w' := w9) (fun _ _ h => h) hk (fun b e => by obtain ⟨l', hl⟩ := hty1 b e; exact hl.ne hp1 (by decide)), fun b e => by obtain ⟨l', hl⟩ := hty1 b e; exact ⟨l', hk.bl hl (hl.ne hp1 (by decide))⟩, ho.kp hk (r1.ne_bl hp1 (by decide)), low_kp hl1 hk (fun i hi e => by have := h.hp; omega), h.hp⟩
end
section
variable {P : Program} {w : World} {o : Oper} {a : Act}
/-- A number in another kind that holds it, at the operation. -/
theorem exec_convN (x : Operand) (t t2 : TypeId) (hop : o.op = .convert t t2 x) (d : TypeDesc) (k k2 : IntKind) (ht : P.underlying t = some d) (ht2 : P.underlying t2 = some (.int k2)) (X : Nat) (zx : Int) (hx : a.eval x = .int k zx) (hX : zx = (X : Int)) (hw : k2.wrap (X : Int) = (X : Int)) : (execOp a.eval o).run P w = .ok (.value (.int k2 (X : Int))) w := by
 subst hX
 unfold execOp
 simp only [hop, hx]
 simp [convert, run_underlying ht, run_underlying ht2, Conv.intToInt, Result.andThen, hw]
end
theorem PS.new {w0 w1 w w' : World} {g : Nat} {T : Tn} {v : Nat → Value} {ga : Nat} {a : Ac} {gp : Nat} {x y : Int} {A : Option Addr} {n c : Nat} {W : List Int} {l : List Value} (ht : TM w0 w g T v) (ha : BL w ga 55 (acC a)) (hp : BL w gp 42 l) (hk : LS rInt 1 8 w A n c W) (hty : ∀ b, A = some b → ∃ l, BL w b.block 3 l) (hl : Below w1.heap.size w1 w) (hg : w1.heap.size ≤ gp) (hw : w0.heap.size ≤ w1.heap.size)
  (hb : BL w' gp 42 [.int .i64 x, .int .i64 y, .int .i64 0, .slice A n c, .slice none 0 0]) (k : Kp (· = gp) w w') : PS w0 w1 w' g T v ga a gp x y A n c W (.slice none 0 0) [] :=
 ⟨ht.far k (ht.bl.ne hp (by decide)) (fun i t l' hl ht => hl.ne hp (by rcases ht with rfl | rfl <;> decide)) (fun i hi e => by omega), k.bl ha (ha.ne hp (by decide)), hb, hk.kpn (w' := w') (fun _ _ h => h) k (fun b e => by obtain ⟨l', hl⟩ := hty b e; exact hl.ne hp (by decide)), fun b e => by obtain ⟨l', hl⟩ := hty b e; exact ⟨l', k.bl hl (hl.ne hp (by decide))⟩, OL.nil _ _ _ _ _, low_kp hl k (fun i hi e => by omega), hg⟩
set_option maxRecDepth 100000 in
set_option maxHeartbeats 4000000 in
theorem do_propose (w0 : World) (g : Nat) (T : Tn) (v : Nat → Value) (u : Nat) (ao : Int) (st : UInt8) (w : World) (h : TM w0 w g T v) (hi : InvL T) (hl : T.all.length ≤ 2000) (hu : u < 3) (hwr : T.wr (3 * u + u) = true) :
  Calls Tryz.prog 21 #[.pointer (some ⟨g, 0, none⟩), .agg (acC ⟨2, (u : Int), ao, st⟩).toArray] w fun e w' => e = .returned (.bool true) ∧ ∃ v', TM w0 w' g (T.propC u (mB st)) v' := by
 have H := Lib.hid h
 have HI := Lib.hid hi
 have HL := Lib.hid hl
 have HWR := Lib.hid hwr
 have hu' : (u : Int) < 3 := by omega
 obtain ⟨m, hm⟩ : ∃ m, m = (T.lg u).length := ⟨_, rfl⟩
 have HM : Hid ((T.lg u).length = m) := Lib.hid hm.symm
 have hml : m ≤ 2000 := by rw [hm]; exact Nat.le_trans (lg_len hu) hl
 obtain ⟨Au, cu, hv, _⟩ := h.ls hu (by rw [← hm]; omega)
 rw [← hm] at hv
 have HV := Lib.hid hv
 have hw1 : IntKind.i64.wrap ((m : Int) + 1) = (m : Int) + 1 := IntWalk.i64_in _ (by omega)
 clear h hi hl hwr hm hv
 go_enter Tryz.func21, Tryz.ntmps21
 go_wp2_with (first
  | ((with_reducible show wpList _ _ _ (⟨some 3, _, _, _, _, _⟩ :: _) _ _); refine wpList_box _ rfl 55 (.tmp 1) rfl (acC ⟨2, (u : Int), ao, st⟩) rfl ?_; intro w1 y1 y2 y3; have HA1 := Lib.hid y1; have HT1 := Lib.hid (H.out.kept y2); have HB1 := Lib.hid y2; clear y1 y2 y3)
  | fail)
 have p1 := HA1.out.get (j := 1) rfl
 have p2 := HA1.out.get (j := 2) rfl
 refine Text.wp_region_text (fun _ => True) [(0, 4), (2, 4), (1, 1), (4, 4), (3, 1), (5, 4)] (by kernel_rfl) (by kernel_rfl) (fun _ _ _ _ _ h => h) (trivial) ?_
 iterate 2 (refine Text.purek rfl rfl (fun K hK => ⟨_, fun w' => by go_simp <;> rfl, ?_⟩); go_simp; refine hK _ ?_; clear hK K)
 (refine Text.readk rfl rfl (fun K hK => ⟨_, by go_simp <;> rfl, ?_⟩); go_simp; refine hK _ ?_; clear hK K)
 (refine Text.purek rfl rfl (fun K hK => ⟨_, fun w' => by go_simp <;> rfl, ?_⟩); go_simp; refine hK _ ?_; clear hK K)
 (refine Text.readk rfl rfl (fun K hK => ⟨_, by go_simp <;> rfl, ?_⟩); go_simp; refine hK _ ?_; clear hK K)
 (refine Text.purek rfl rfl (fun K hK => ⟨_, fun w' => by go_simp <;> rfl, ?_⟩); go_simp; refine hK _ ?_; clear hK K)
 refine Text.done ?_
 clear p1 p2
 have q0 : w1.drew.cell? ⟨g, 12 + u * 3 + u, none⟩ = some (.bool true) := by rw [HT1.out.drew.cw hu hu, HWR.out]
 have q1 : w1.drew.cell? ⟨w.heap.size, 0, none⟩ = some (.int .i64 2) := HA1.out.drew.get (j := 0) rfl
 have HT0 : Hid (TM w0 w1.drew.drew g T v) := Lib.hid HT1.out.drew.drew
 have HA0 : Hid (BL w1.drew.drew w.heap.size 55 (acC ⟨2, (u : Int), ao, st⟩)) := Lib.hid HA1.out.drew.drew
 have HB0 : Hid (Below w.heap.size w w1.drew.drew) := Lib.hid HB1.out.drew.drew
 have HB : Hid (w0.heap.size ≤ w.heap.size) := Lib.hid H.out.low.size
 go_upto_region 18 with fail
 go_cut [10] (fun s10 wx => ∃ (gp : Nat) (A2 : Option Addr) (c2 : Nat), s10 = .pointer (some ⟨gp, 0, none⟩) ∧ Hid (PS w0 w wx g T v w.heap.size ⟨2, (u : Int), ao, st⟩ gp (u : Int) ((m : Int) + 1) A2 (T.known u).length c2 (T.known u) (.slice none 0 0) []))
 case first => as_aux_lemma =>
  refine Text.wp_region_bt (fun w' => w'.cell? ⟨g, u, none⟩ = some (.slice Au m cu)) (.still 0 4 (.still 1 4 (.still 2 4 (.still 3 4 (.still 4 4 (.still 5 4 (.still 6 0 (.still 7 4 (.still 8 4 (.still 9 4 (.still 10 4 (.br 11 (.still 12 4 (.eff 13 (.eff 14 .leaf))) 13 (.eff 11 (.still 12 4 (.eff 14 .leaf))))))))))))))) (by kernel_rfl) (by kernel_rfl) (fun _ _ _ _ _ h => h) ((by have := HT1.out.drew.drew.cl hu; rwa [HV.out] at this)) ?_
  iterate 6 (refine Text.bpurek rfl rfl (fun K hK => ⟨_, fun w' => by go_simp <;> rfl, ?_⟩); go_simp; refine hK _ ?_; clear hK K)
  (refine Text.bheldk rfl rfl (fun K hK => ⟨_, fun w' hw' => by go_simp <;> rfl, ?_⟩); go_simp; refine hK _ ?_; clear hK K)
  iterate 4 (refine Text.bpurek rfl rfl (fun K hK => ⟨_, fun w' => by go_simp <;> rfl, ?_⟩); go_simp; refine hK _ ?_; clear hK K)
  refine Text.bfork ?_ ?_
  ·
   refine Text.beff rfl rfl (fun K hK => ?_)
   go_simp
   refine (known_any w0 g T v u _ (HT0).out hu).mono ?_
   rintro e w2 ⟨A2, c2, rfl, x1, x3, x2⟩
   have HKw2 := Lib.hid x1
   have HYw2 := Lib.hid x3
   have HXw2 := Lib.hid x2
   have HT2 := Lib.hid (HT0.out.kept HXw2.out)
   have HA2 := Lib.hid (HA0.out.kept HXw2.out)
   refine hK _ _ (by have := HT2.out.cl hu; rwa [HV.out] at this) ?_
   clear hK K x1 x2 x3
   refine Text.bpurek rfl rfl (fun K hK => ⟨_, fun w' => exec_buildT rfl (ps := #[(0, .int .i64 (u : Int)), (1, .int .i64 ((m : Int) + 1)), (3, .slice A2 (T.known u).length c2)]) (by rw [List.map_toArray]; rfl) (bldPp3 _ _ _ _ _ _), ?_⟩)
   go_simp
   refine hK _ ?_
   clear hK K
   refine Text.beff rfl rfl (fun K hK => ?_)
   refine wp_alloc 42 rfl ppZ ppZero ?_
   intro w3 y1 y2 y3
   have HT3 := Lib.hid (HT2.out.kept y2)
   have HA3 := Lib.hid (HA2.out.kept y2)
   have HK3 := Lib.hid (HKw2.out.kept stay_int y2)
   have HY3 : Hid (∀ b, A2 = some b → ∃ l, BL w3 b.block 3 l) := Lib.hid (fun b e => by obtain ⟨l, hl⟩ := HYw2.out b e; exact ⟨l, hl.kept y2⟩)
   have HP3 := Lib.hid y1
   have HB3 : Hid (Below w.heap.size w w3) := Lib.hid (below_then (below_thenB HB0.out HB0.out.size HXw2.out) y2)
   have HGP : Hid (w.heap.size ≤ w2.heap.size) := Lib.hid (Nat.le_trans HB0.out.size HXw2.out.size)
   refine hK _ _ (by have := HT3.out.cl hu; rwa [HV.out] at this) ?_
   clear hK K y1 y2 y3
   refine Text.beff rfl rfl (fun K hK => ?_)
   refine wp_storev 42 (.tmp 10) (.tmp 110) rfl 5 (by kernel_rfl) (w2.heap.size) 0 _ ppZ [.int .i64 (u : Int), .int .i64 ((m : Int) + 1), .int .i64 0, .slice A2 (T.known u).length c2, .slice none 0 0] rfl rfl HP3.out rfl (one_val _ rfl) (by decide) ?_
   intro w4 y1 y2 y3
   rw [splice_pp ppZ _ (by rfl)] at y1
   have HPS := Lib.hid (PS.new HT3.out HA3.out HP3.out HK3.out HY3.out HB3.out HGP.out HB.out y1 y2)
   refine hK _ _ (by have := HPS.out.t.cl hu; rwa [HV.out] at this) ?_
   clear hK K y1 y2 y3
   refine Text.bdone ?_
   go_wp2_with fail
   go_meet
   exact ⟨_, _, _, rfl, HPS⟩
  ·
   refine Text.beff rfl rfl (fun K hK => ?_)
   refine wp_alloc 42 rfl ppZ ppZero ?_
   intro w2 y1 y2 y3
   have HT2 := Lib.hid (HT0.out.kept y2)
   have HA2 := Lib.hid (HA0.out.kept y2)
   have HP2 := Lib.hid y1
   have HB2 : Hid (Below w.heap.size w w2) := Lib.hid (below_thenB HB0.out HB0.out.size y2)
   refine hK _ _ (by have := HT2.out.cl hu; rwa [HV.out] at this) ?_
   clear hK K y1 y2 y3
   refine Text.beff rfl rfl (fun K hK => ?_)
   go_simp
   refine (known_any w0 g T v u _ (HT2).out hu).mono ?_
   rintro e w3 ⟨A2, c2, rfl, x1, x3, x2⟩
   have HKw3 := Lib.hid x1
   have HYw3 := Lib.hid x3
   have HXw3 := Lib.hid x2
   have HT3 := Lib.hid (HT2.out.kept HXw3.out)
   have HA3 := Lib.hid (HA2.out.kept HXw3.out)
   have HK3 := HKw3
   have HY3 := HYw3
   have HP3 := Lib.hid (HP2.out.kept HXw3.out)
   have HB3 : Hid (Below w.heap.size w w3) := Lib.hid (below_then HB2.out HXw3.out)
   have HGP : Hid (w.heap.size ≤ w1.drew.drew.heap.size) := Lib.hid HB0.out.size
   refine hK _ _ (by have := HT3.out.cl hu; rwa [HV.out] at this) ?_
   clear hK K x1 x2 x3
   refine Text.bpurek rfl rfl (fun K hK => ⟨_, fun w' => exec_buildT rfl (ps := #[(0, .int .i64 (u : Int)), (1, .int .i64 ((m : Int) + 1)), (3, .slice A2 (T.known u).length c2)]) (by rw [List.map_toArray]; rfl) (bldPp3 _ _ _ _ _ _), ?_⟩)
   go_simp
   refine hK _ ?_
   clear hK K
   refine Text.beff rfl rfl (fun K hK => ?_)
   refine wp_storev 42 (.tmp 10) (.tmp 110) rfl 5 (by kernel_rfl) (w1.drew.drew.heap.size) 0 _ ppZ [.int .i64 (u : Int), .int .i64 ((m : Int) + 1), .int .i64 0, .slice A2 (T.known u).length c2, .slice none 0 0] rfl rfl HP3.out rfl (one_val _ rfl) (by decide) ?_
   intro w4 y1 y2 y3
   rw [splice_pp ppZ _ (by rfl)] at y1
   have HPS := Lib.hid (PS.new HT3.out HA3.out HP3.out HK3.out HY3.out HB3.out HGP.out HB.out y1 y2)
   refine hK _ _ (by have := HPS.out.t.cl hu; rwa [HV.out] at this) ?_
   clear hK K y1 y2 y3
   refine Text.bdone ?_
   go_wp2_with fail
   go_meet
   exact ⟨_, _, _, rfl, HPS⟩
 case rest =>
 obtain ⟨gp, A2, c2, rfl, hps⟩ := hcut
 go_wp2_with fail
 go_loopw [11] (fun iv wr => ∃ (k : Nat) (z : Value), k ≤ 8 ∧ iv = .int .i64 (k : Int) ∧ Hid (PS w0 w wr g T v w.heap.size ⟨2, (u : Int), ao, st⟩ gp (u : Int) ((m : Int) + 1) A2 (T.known u).length c2 (T.known u) z (propK T u (mB st) k))) (fun iv _ => 8 - (intOf iv).toNat)
 case atStart => exact ⟨0, _, by omega, rfl, hps⟩
 case round =>
  obtain ⟨k, z, hk, rfl, hs⟩ := hrel
  obtain ⟨wx, hwx⟩ : ∃ x, x = wr := ⟨_, rfl⟩
  rw [← hwx] at hs ⊢
  clear hwx
  by_cases hlt : k < 8
  ·
   have p3 := hs.out.a.get (j := 3) rfl
   have p4 := hs.out.t.cn hu hlt
   have HST := Lib.hid (propK_step T u (mB st) k)
   have HLN := Lib.hid (propK_len T u (mB st) k)
   cases hm : mB st k with
   | false =>
    have fb : (bits BinOp.and IntKind.u8 (bv st / 2 ^ k) 1 == 1) = false := hm
    rw [hm] at HST
    go_wp2_with fail
    go_roundw
    case rel => exact ⟨k + 1, z, by omega, by go_num, by rw [HST.out]; simpa using hs⟩
    case measure => simp [intOf]; omega
   | true =>
    have fb : (bits BinOp.and IntKind.u8 (bv st / 2 ^ k) 1 == 1) = true := hm
    rw [hm] at HST
    cases hn : T.nd (8 * u + k) with
    | true =>
     rw [hn] at p4 HST
     go_wp2_with fail
     go_roundw
     case rel => exact ⟨k + 1, z, by omega, by go_num, by rw [HST.out]; simpa using hs⟩
     case measure => simp [intOf]; omega
    | false =>
     rw [hn] at p4 HST
     have HS := Lib.hid (sid_len k)
     have hw2 : IntKind.i64.wrap (97 + (k : Int)) = 97 + (k : Int) := IntWalk.i64_in _ (by omega)
     go_wp2_with fail
     clear p3 p4
     refine Text.wp_region_text (fun w' => w'.cell? ⟨gp, 4, none⟩ = some z) [(0, 4), (2, 4), (3, 4), (1, 0), (4, 0), (5, 2), (6, 2), (7, 2), (8, 4), (9, 3)] (by kernel_rfl) (by kernel_rfl) (fun _ _ _ _ _ h => h) (hs.out.p.drew.get (j := 4) rfl) ?_
     iterate 3 (refine Text.purek rfl rfl (fun K hK => ⟨_, fun w' => by go_simp <;> rfl, ?_⟩); go_simp; refine hK _ ?_; clear hK K)
     (refine Text.heldk rfl rfl (fun K hK => ⟨_, fun w' hw' => by go_simp <;> rfl, ?_⟩); go_simp; refine hK _ ?_; clear hK K)
     refine Text.heldk rfl rfl (fun K hK => ?_)
     refine ⟨_, fun w' _ => exec_convN (.tmp 135) 3 5 rfl _ .i64 .u8 Tryz.underlying3 Tryz.underlying5 (97 + k) _ rfl (by push_cast; go_num) (by show ((97 + k : Nat) : Int) % 256 = _; omega), ?_⟩
     rw [byte_sid hlt]
     go_simp
     refine hK _ ?_
     clear hK K
     refine Text.eff rfl rfl (fun K hK => ?_)
     go_simp
     refine (id_any (sc k) _).mono ?_
     rintro e w6 ⟨rfl, b1⟩
     rw [sc_sid]
     have HP6 := Lib.hid ((hs.out.kept (Below.refl _ _).drew).kept b1)
     refine hK _ _ (HP6.out.p.get (j := 4) rfl) ?_
     clear hK K b1
     refine Text.eff rfl rfl (fun K hK => ?_)
     refine wp_bslice 27 9 1 _ rfl #[(0, .string (strB (sid k)))] (by rw [List.map_toArray]; rfl) [.string (strB (sid k))] (bslStr _ _) ?_
     intro w7 y1 y2 y3
     have HP7 := Lib.hid (HP6.out.kept y2)
     have HG7 := Lib.hid y1
     clear y1 y2 y3
     refine hK _ _ (HP7.out.p.get (j := 4) rfl) ?_
     clear hK K
     refine Text.eff rfl rfl (fun K hK => ?_)
     obtain ⟨iS, i1, i2, i3, i4⟩ := info_some infoStr
     obtain ⟨css, hC1, hC2, hC3, hC4, hC5⟩ := HP7.out.o
     refine wp_appRW _ (.tmp 133) (.tmp 138) 27 9 1 iS _ rfl Tryz.underlying27 i1 i2 i3 rfl z _ _ rfl hC4 w6.heap.size [.string (strB (sid k))] rfl HG7.out rfl (one_val _ rfl) (by rw [i4]; have := HLN.out; omega) (by have := HLN.out; omega) ?_
     intro v' w8 ap
     have HO8 := Lib.hid (OL.push hC1 hC2 hC3 hC5 rfl rfl ⟨rfl, by rw [HS.out]; decide⟩ HP7.out.low.size ap)
     have HRW := Lib.hid hC4
     have HAP := Lib.hid ap
     have HB8 := Lib.hid (ap.kp.bl HP7.out.p (own_ty hC4 HP7.out.p (by decide)))
     obtain ⟨A8, c8, e8, _⟩ := ap.row.form
     subst e8
     refine hK _ _ (HB8.out.get (j := 4) rfl) ?_
     clear hK K i1 i2 i3 i4 hC1 hC2 hC3 hC4 hC5 ap
     (refine Text.purek rfl rfl (fun K hK => ⟨_, fun w' => by go_simp <;> rfl, ?_⟩); go_simp; refine hK _ ?_; clear hK K)
     refine Text.last rfl rfl (fun K hK => ?_)
     refine wp_store1 _ 27 (.tmp 140) (.tmp 139) rfl (sz1 _ (by kernel_rfl) _) gp 4 _ _ (.slice A8 ((propK T u (mB st) k).length + 1) c8) rfl rfl HB8.out rfl rfl (by simp) ?_
     intro w9 y1 y2 y3
     have HP9 := Lib.hid (HP7.out.app HB.out HRW.out HAP.out HO8.out y1 y2)
     clear y1 y2 y3
     refine hK _ _ ?_
     clear hK K
     refine Text.done ?_
     go_wp2_with fail
     go_roundw
     case rel => exact ⟨k + 1, _, by omega, by go_num, by rw [HST.out]; exact HP9⟩
     case measure => simp [intOf]; omega
  ·
   obtain rfl : k = 8 := by omega
   have HLN := Lib.hid (propK_len T u (mB st) 8)
   obtain ⟨L, hL⟩ : ∃ L, L = propK T u (mB st) 8 := ⟨_, rfl⟩
   have HLD := Lib.hid hL
   rw [← hL] at hs HLN
   clear hL
   obtain ⟨B8, d8, rfl, hls⟩ := hs.out.o.ls stay_str hs.out.low (b := 16) (by have := HLN.out; unfold lim; omega)
   have HLS := Lib.hid hls
   clear hls
   have p4 := hs.out.p.get (j := 4) rfl
   by_cases hz : L = []
   ·
    have e0 : ((L.length : Int) == 0) = true := by rw [hz]; rfl
    have HC : Hid (T.propC u (mB st) = T) := Lib.hid (if_pos (by rw [← HLD.out]; exact hz))
    clear hz
    go_wp2_with fail
    go_ret
    refine ⟨rfl, v, ?_⟩
    rw [HC.out]
    exact hs.out.t
   ·
    have e0 : ((L.length : Int) == 0) = false := by
     rw [beq_eq_false_iff_ne]
     have := List.length_pos_iff.2 hz
     omega
    have HC : Hid (T.propC u (mB st) = T.log u 3 (bodyL (propP T u (mB st)))) := Lib.hid (if_neg (by rw [← HLD.out]; exact hz))
    have HVP : Hid (validB (propP T u (mB st)) = true) := Lib.hid (prop_valid hu HWR.out _ (by rw [← HLD.out]; exact hz))
    have HRP : Hid (rPp wx [.int .i64 (u : Int), .int .i64 ((m : Int) + 1), .int .i64 0, .slice A2 (T.known u).length c2, .slice B8 L.length d8] (propP T u (mB st))) := Lib.hid (by
     refine ⟨A2, _, c2, B8, L.length, d8, ?_, hs.out.k, ?_, ?_, ?_, wfI0⟩
     ·
      unfold propP ppC
      rw [HM.out]
     ·
      show LS rStr 1 16 wx B8 L.length d8 (propK T u (mB st) 8)
      rw [← HLD.out]; exact HLS.out
     ·
      exact wf_small (by show (0 : Int) ≤ (u : Int); omega) (by show (u : Int) < 1000000; omega)
     ·
      show wfI (((T.lg u).length : Int) + 1)
      rw [HM.out]; exact wf_small (by omega) (by omega))
    clear hz
    go_wp2_with (first
     | ((with_reducible show wpList _ _ _ (⟨some 146, _, _, _, _, _⟩ :: _) _ _); refine wpList_loadv _ rfl 42 (.tmp 10) rfl 5 (by kernel_rfl) gp 0 _ rfl (BL.all hs.out.p) rfl ?_)
     | (go_at_call 27; refine (encp_t _ (propP T u (mB st)) wx HRP.out HVP.out).mono ?_; rintro e w6 ⟨A6, n6, c6, rfl, x1, x2, x3⟩; have HS6 := Lib.hid x1; have HY6 := Lib.hid x2; have HT6 := Lib.hid (hs.out.t.kept x3); clear x1 x2 x3)
     | (go_at_call 54; refine (log_any w0 g T v u 3 A6 n6 c6 _ w6 HT6.out HI.out (Nat.le_trans HL.out (by decide)) hu (by rfl) HS6.out HY6.out).mono ?_; rintro e w7 ⟨rfl, ⟨v7, x1⟩, _⟩; have HT7 := Lib.hid x1; clear x1))
    go_ret
    refine ⟨rfl, v7, ?_⟩
    rw [HC.out]
    exact HT7.out
end Go.Proofs.YtfonbliomokffaaGreat
