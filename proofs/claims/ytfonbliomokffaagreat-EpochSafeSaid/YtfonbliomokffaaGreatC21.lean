/- Several texts in one: Aw. -/
import Derived.Test.YtfonbliomokffaaGreatC20
/- law47: awake. -/
namespace Go.Proofs.YtfonbliomokffaaGreat
open Go Go.RowKit Gf Sha

attribute [local go_sem] strB_app
theorem ot_rw {α : Type} {R : Rdg α} {s : Nat} {te : TypeId} {w : World} {v : Value} {L : List α} {n : Nat} (css : List (List Value)) (hn : L.length = n) (h : RW w te s v n css.flatten) (h1 : css.length = L.length) (h2 : ∀ cs ∈ css, cs.length = s) (h3 : ∀ p ∈ css.zip L, R w p.1 p.2) : OT R s te 0 w v L := by
  subst hn
  refine ⟨css, h1, h2, fun k hk hk' => ?_, h, fun _ _ => Nat.zero_le _⟩
  have hz : k < (css.zip L).length := by rw [List.length_zip]; omega
  have := h3 _ (List.getElem_mem hz)
  rw [List.getElem_zip] at this
  exact this
theorem rw_ls {α : Type} {R : Rdg α} {s b : Nat} {te : TypeId} {w : World} {A : Option Addr} {c : Nat} {L : List α} {n : Nat} (css : List (List Value)) (hn : L.length = n) (h : RW w te s (.slice A n c) n css.flatten) (h1 : css.length = L.length) (h2 : ∀ cs ∈ css, cs.length = s) (h3 : ∀ p ∈ css.zip L, R w p.1 p.2) (hl : n * b ≤ lim) : LS R s b w A n c L := by
  obtain ⟨A', c', e, h9⟩ := (ot_rw css hn h h1 h2 h3).ls (b := b) (by rw [hn]; exact hl)
  subst hn
  cases e
  exact h9
theorem bslI3 (w : World) : (Instr.buildSlice 23 3 #[(0, .int .i64 0), (1, .int .i64 1), (2, .int .i64 2)]).run Tryz.prog w = .ok (.slice (some ⟨w.heap.size, 0, none⟩) 3 3) (w.alloc (.cells [Value.int .i64 0, .int .i64 1, .int .i64 2].toArray 3)) := by kernel_rfl
theorem bldPq (A1 : Option Addr) (n1 c1 : Nat) (A2 : Option Addr) (n2 c2 : Nat) (w : World) : (Instr.build 42 #[(0, .int .i64 0), (1, .int .i64 5), (2, .int .i64 3), (3, .slice A1 n1 c1), (4, .slice A2 n2 c2)]).run Tryz.prog w = .ok (.agg (ppC exP A1 n1 c1 A2 n2 c2).toArray) w := by kernel_rfl
theorem bldEq (d s k : Int) (A : Option Addr) (n c : Nat) (b : List UInt8) (w : World) : (Instr.build 33 #[(0, .int .i64 d), (1, .int .i64 s), (2, .int .i64 k), (4, .slice A n c)]).run Tryz.prog w = .ok (.agg (enC ⟨d, s, k, 0, b, []⟩ A n c).toArray) w := by kernel_rfl
theorem bslE2 (x y : En) (A : Option Addr) (n c : Nat) (A' : Option Addr) (n' c' : Nat) (w : World) : (Instr.buildSlice 22 2 #[(0, .agg (enC x A n c).toArray), (1, .agg (enC y A' n' c').toArray)]).run Tryz.prog w = .ok (.slice (some ⟨w.heap.size, 0, none⟩) 2 2) (w.alloc (.cells (enC x A n c ++ enC y A' n' c').toArray 33)) := by kernel_rfl
theorem bslE1 (x : En) (A : Option Addr) (n c : Nat) (w : World) : (Instr.buildSlice 22 1 #[(0, .agg (enC x A n c).toArray)]).run Tryz.prog w = .ok (.slice (some ⟨w.heap.size, 0, none⟩) 1 1) (w.alloc (.cells (enC x A n c).toArray 33)) := by kernel_rfl
theorem id_at (c : UInt8) (v : Value) (hv : v = B c) (w : World) : Calls Tryz.prog 37 #[v] w fun e w' => e = .returned (.string (strB (idC c))) ∧ Below w.heap.size w w' := by
  subst hv; exact id_any c w
theorem wc83 : Value.int .u8 83 = B 83 := rfl
section
variable {P : Program} (w : World) {ops : Array Oper} {rest : List Oper} {o : Oper} {a : Act} {Q : Exit → Act → World → Prop}
/-- x[:k], guarded. -/
theorem wpList_preVg (hw : Region.wanted o (yielded ops a.tmps) = true) (s hi : Operand) (ty te : TypeId) (m : Nat) (hop : o.op = .slice ty s none (some hi) none) (hu : P.underlying ty = some (.slice te)) (hs : (sizeOf te).run P w = .ok m w)
    (g p n c k : Nat) (hv : a.eval s = .slice (some ⟨g, p, none⟩) n c) (hlo : a.eval hi = .int .i64 (k : Int)) (hk : k ≤ n) (hc : n ≤ c) (hc0 : 0 < c)
    (h : wpList P ops Q rest (a.put o.dst (.slice (some ⟨g, p, none⟩) k c)) w) : wpList P ops Q (o :: rest) a w :=
  wpList_want w hw fun K hK => by
    unfold Oper.wp execOp
    simp only [hop, Option.map_some, Option.map_none, hv, hlo]
    have h1 : k ≤ c := by omega
    have h2 : ¬ c = 0 := by omega
    simp [Instr.sliceAt, Instr.slice, run_underlying hu, Instr.sliceBounds, Instr.sliceBound, asIntOf, hs, Result.andThen, addr_add, h1, h2]
    exact hK _ _ h
end
theorem en_rd {w : World} {A : Option Addr} {n c : Nat} {d s k : Int} {b : List UInt8} (h : BS w A n c b) (hd : wfI d) (hs : wfI s) (hk : wfI k) : rEn w (enC ⟨d, s, k, 0, b, []⟩ A n c) ⟨d, s, k, 0, b, []⟩ := ⟨A, n, c, rfl, h, hd, hs, hk, by rfl, Nat.zero_le _⟩
set_option maxRecDepth 100000
set_option maxHeartbeats 8000000
theorem ls_i3 {w : World} {g : Nat} (h : BL w g 3 [.int .i64 0, .int .i64 1, .int .i64 2]) : LS rInt 1 8 w (some ⟨g, 0, none⟩) 3 3 [0, 1, 2] :=
  rw_ls [[.int .i64 0], [.int .i64 1], [.int .i64 2]] rfl (RW.of_blk h (by decide) (by decide)) rfl (by simp) (by simp [rInt, Lit.wf]; decide) (by decide)
theorem ls_i1 {w : World} {g : Nat} (z : Int) (hz : wfI z) (h : BL w g 3 [.int .i64 z]) : LS rInt 1 8 w (some ⟨g, 0, none⟩) 1 1 [z] :=
  rw_ls [[.int .i64 z]] rfl (RW.of_blk h rfl (by decide)) rfl (by simp) (by intro p hp; simp at hp; subst hp; exact ⟨rfl, hz⟩) (by decide)
theorem ls_s1 {w : World} {g : Nat} (s : List UInt8) (hs : s.length ≤ reachBytes) (h : BL w g 9 [.string (strB s)]) : LS rStr 1 16 w (some ⟨g, 0, none⟩) 1 1 [s] :=
  rw_ls [[.string (strB s)]] rfl (RW.of_blk h rfl (by decide)) rfl (by simp) (by intro p hp; simp at hp; subst hp; exact ⟨rfl, hs⟩) (by decide)
def hdOk (w : World) (es : List En) (v : Value) : Prop := ∃ A c, v = .slice A es.length c ∧ LS rEn 6 72 w A es.length c es
theorem awake_any (w : World) : Calls Tryz.prog 9 #[] w fun e w' => e = .returned (.bool true) ∧ Below w.heap.size w w' := by
  have l1 : ({ data := #[3, 3, 0, 1, 2, 1] } : ByteArray) = strB [3, 3, 0, 1, 2, 1] := rfl
  have l2 : ({ data := #[0, 5] } : ByteArray) = strB [0, 5] := rfl
  have ec := cat_ok [3, 3, 0, 1, 2, 1] (idC 83) (by simp [idC])
  go_enter Tryz.func9, Tryz.ntmps9
  rw [l1, l2]
  clear l1 l2
  go_wp2_with (first
    | ((with_reducible show wpList _ _ _ (⟨some 15, _, _, _, _, _⟩ :: _) _ _); refine wpList_bslice _ rfl 23 3 3 _ rfl #[(0, .int .i64 0), (1, .int .i64 1), (2, .int .i64 2)] (by rw [List.map_toArray]; rfl) [.int .i64 0, .int .i64 1, .int .i64 2] (bslI3 _) ?_; intro w1 a1 a2 a3; have HI1 := Lib.hid (ls_i3 a1); have HB1 := Lib.hid a2; clear a1 a2 a3)
    | (go_at_call 37; refine (id_at 83 _ wc83 _).mono ?_; rintro e w2 ⟨rfl, b1⟩; have HI2 := Lib.hid (HI1.out.kept stay_int b1); have HB2 := Lib.hid (below_then HB1.out b1); clear b1)
    | ((with_reducible show wpList _ _ _ (⟨some 17, _, _, _, _, _⟩ :: _) _ _); refine wpList_bslice _ rfl 27 9 1 _ rfl #[(0, .string (strB (idC 83)))] (by rw [List.map_toArray]; rfl) [.string (strB (idC 83))] (bslStr _ _) ?_; intro w3 a1 a2 a3; have HS3 := Lib.hid (ls_s1 (idC 83) (by simp [idC, reachBytes]) a1); have HI3 := Lib.hid (HI2.out.kept stay_int a2); have HB3 := Lib.hid (below_then HB2.out a2); clear a1 a2 a3)
    | ((with_reducible show wpList _ _ _ (⟨some 18, _, _, _, _, _⟩ :: _) _ _); refine wpList_build _ rfl 42 _ rfl #[(0, .int .i64 0), (1, .int .i64 5), (2, .int .i64 3), (3, .slice (some ⟨w.heap.size, 0, none⟩) 3 3), (4, .slice (some ⟨w2.heap.size, 0, none⟩) 1 1)] (by rw [List.map_toArray]; rfl) (.agg (ppC exP (some ⟨w.heap.size, 0, none⟩) 3 3 (some ⟨w2.heap.size, 0, none⟩) 1 1).toArray) (bldPq _ _ _ _ _ _ _) ?_)
    | ((with_reducible show wpList _ _ _ (⟨some 1, _, _, _, _, _⟩ :: _) _ _); refine wpList_alloc _ rfl 42 rfl ppZ ppZero ?_; intro w4 a1 a2 a3; have HV4 := Lib.hid a1; have HX4 := Lib.hid a2; clear a1 a2 a3)
    | ((with_reducible show wpList _ _ _ (⟨none, _, _, _, _, _⟩ :: _) _ _); refine wpList_storev _ rfl 42 (.tmp 1) (.tmp 18) rfl 5 (by kernel_rfl) w3.heap.size 0 _ ppZ (ppC exP (some ⟨w.heap.size, 0, none⟩) 3 3 (some ⟨w2.heap.size, 0, none⟩) 1 1) rfl rfl HV4.out rfl (one_val _ rfl) (by decide) ?_; intro w5 a1 a2 a3; have b4 := low_kp HX4.out a2 (fun i hi e => by omega); have HV5 : Hid (BL w5 w3.heap.size 42 (ppC exP (some ⟨w.heap.size, 0, none⟩) 3 3 (some ⟨w2.heap.size, 0, none⟩) 1 1)) := Lib.hid a1; have HP5 : Hid (rPp w5 (ppC exP (some ⟨w.heap.size, 0, none⟩) 3 3 (some ⟨w2.heap.size, 0, none⟩) 1 1) exP) := Lib.hid ⟨_, _, _, _, _, _, rfl, HI3.out.kept stay_int b4, HS3.out.kept stay_str b4, by rfl, by rfl, by rfl⟩; have HB5 := Lib.hid (below_then HB3.out b4); clear a1 a2 a3 b4)
    | ((with_reducible show wpList _ _ _ (⟨some 20, _, _, _, _, _⟩ :: _) _ _); refine wpList_loadv _ rfl 42 (.tmp 1) rfl 5 (by kernel_rfl) w3.heap.size 0 _ rfl (BL.all HV5.out) rfl ?_)
    | (go_at_call 27; refine (encp_ok _ exP w5 HP5.out ex_valid).mono ?_; rintro e w6 ⟨A6, n6, c6, rfl, x1, x2⟩; have HE6 := Lib.hid x1; have HX6 := Lib.hid x2; have HV6 := Lib.hid (HV5.out.kept x2); clear x1 x2)
    | ((with_reducible show wpList _ _ _ (⟨some 25, _, _, _, _, _⟩ :: _) _ _); refine wpList_loadv _ rfl 42 (.tmp 1) rfl 5 (by kernel_rfl) w3.heap.size 0 _ rfl (BL.all HV6.out) rfl ?_)
    | (go_at_call 29; refine (encr_ok _ exP w6 (stay_pp _ _ _ _ HP5.out HX6.out) ex_valid).mono ?_; rintro e w7 ⟨A7, n7, c7, rfl, x1, x2⟩; have HE7 := Lib.hid (HE6.out.kept x2); have HR7 := Lib.hid x1; have HX7 := Lib.hid (below_then HX6.out x2); clear x1 x2))
  clear HI1 HI2 HI3 HS3 HB1 HB2 HB3 HV4 HX4
  refine Text.wp_region_text (fun w' => (convert 31 9 (.slice A6 n6 c6)).run Tryz.prog w' = .ok (.string (strB (bodyL exP))) w' ∧ (convert 31 9 (.slice A7 n7 c7)).run Tryz.prog w' = .ok (.string (strB (rbL exP))) w') [(0, 4), (1, 4), (2, 4), (3, 4), (4, 4), (5, 4), (6, 4), (7, 4), (8, 0), (9, 2), (10, 4), (11, 0), (12, 4), (13, 4), (14, 4), (15, 0), (16, 0), (17, 4)] (by kernel_rfl) (by kernel_rfl) (fun _ _ _ _ _ h => h) (⟨conv_str (HE7.out.kept (Below.refl _ _).drew), conv_str (HR7.out.kept (Below.refl _ _).drew)⟩) ?_
  iterate 8 (refine Text.purek rfl rfl (fun K hK => ⟨_, fun w' => by go_simp <;> rfl, ?_⟩); go_simp; refine hK _ ?_; clear hK K)
  (refine Text.heldk rfl rfl (fun K hK => ⟨_, fun w' hw' => by go_simp <;> rfl, ?_⟩); go_simp; refine hK _ ?_; clear hK K)
  refine Text.effw rfl rfl (fun K hK => ?_)
  go_simp
  refine (id_at 83 _ wc83 _).mono ?_
  rintro e w8 ⟨rfl, b0⟩
  have b1 : Below w7.heap.size w7 w8 := below_then (Below.refl _ _).drew b0
  have HX8 : Hid (Below w5.heap.size w5 w8) := Lib.hid (below_then HX7.out b1)
  have HE8 := Lib.hid (HE7.out.kept (w' := w8) b1)
  have HR8 := Lib.hid (HR7.out.kept (w' := w8) b1)
  refine hK _ _ ⟨conv_str HE8.out, conv_str HR8.out⟩ ?_
  clear hK K b1 b0
  (refine Text.purek rfl rfl (fun K hK => ⟨_, fun w' => by go_simp <;> rfl, ?_⟩); go_simp; refine hK _ ?_; clear hK K)
  refine Text.heldk rfl rfl (fun K hK => ?_)
  refine ⟨.bool false, fun w' hw' => by first | (go_simp; done) | (go_simp; rw [ex_body]; rfl), ?_⟩
  go_simp
  refine hK _ ?_
  clear hK K
  iterate 3 (refine Text.purek rfl rfl (fun K hK => ⟨_, fun w' => by go_simp <;> rfl, ?_⟩); go_simp; refine hK _ ?_; clear hK K)
  (refine Text.heldk rfl rfl (fun K hK => ⟨_, fun w' hw' => by go_simp <;> rfl, ?_⟩); go_simp; refine hK _ ?_; clear hK K)
  refine Text.heldk rfl rfl (fun K hK => ?_)
  refine ⟨.bool false, fun w' hw' => by first | (go_simp; done) | (go_simp; rw [ex_rb]), ?_⟩
  go_simp
  refine hK _ ?_
  clear hK K
  (refine Text.purek rfl rfl (fun K hK => ⟨_, fun w' => by go_simp <;> rfl, ?_⟩); go_simp; refine hK _ ?_; clear hK K)
  refine Text.done ?_
  have HX1 : Hid (rEn w8 (enC exX1 A6 n6 c6) exX1) := Lib.hid (en_rd (by rw [← ex_body]; exact HE8.out) (by rfl) (by rfl) (by rfl))
  have HX2 : Hid (rEn w8 (enC exX2 A7 n7 c7) exX2) := Lib.hid (en_rd (by rw [← ex_rb]; exact HR8.out) (by rfl) (by rfl) (by rfl))
  have HX3 : Hid (rEn w8 (enC exX3 A7 n7 c7) exX3) := Lib.hid (en_rd (by rw [← ex_rb]; exact HR8.out) (by rfl) (by rfl) (by rfl))
  go_wp2_with (first
    | ((with_reducible show wpList _ _ _ (⟨some 48, _, _, _, _, _⟩ :: _) _ _); refine wpList_build _ rfl 33 _ rfl #[(0, .int .i64 0), (1, .int .i64 5), (2, .int .i64 3), (4, .slice A6 n6 c6)] (by rw [List.map_toArray]; rfl) (.agg (enC exX1 A6 n6 c6).toArray) (bldEq 0 5 3 _ _ _ exB _) ?_)
    | ((with_reducible show wpList _ _ _ (⟨some 50, _, _, _, _, _⟩ :: _) _ _); refine wpList_build _ rfl 33 _ rfl #[(0, .int .i64 1), (1, .int .i64 1), (2, .int .i64 4), (4, .slice A7 n7 c7)] (by rw [List.map_toArray]; rfl) (.agg (enC exX2 A7 n7 c7).toArray) (bldEq 1 1 4 _ _ _ [0, 5] _) ?_)
    | ((with_reducible show wpList _ _ _ (⟨some 51, _, _, _, _, _⟩ :: _) _ _); refine wpList_bslice _ rfl 22 33 2 _ rfl #[(0, .agg (enC exX1 A6 n6 c6).toArray), (1, .agg (enC exX2 A7 n7 c7).toArray)] (by rw [List.map_toArray]; rfl) (enC exX1 A6 n6 c6 ++ enC exX2 A7 n7 c7) (bslE2 _ _ _ _ _ _ _ _ _) ?_; intro w9 a1 a2 a3; have HRW9 : Hid (RW w9 33 6 (.slice (some ⟨w8.heap.size, 0, none⟩) 2 2) 2 (enC exX1 A6 n6 c6 ++ enC exX2 A7 n7 c7)) := Lib.hid (RW.of_blk a1 rfl (by decide)); have HX9 := Lib.hid (below_thenB HX8.out HX8.out.size a2); have HL9 : Hid (LS rEn 6 72 w9 (some ⟨w8.heap.size, 0, none⟩) 2 2 [exX1, exX2]) := Lib.hid (rw_ls [enC exX1 A6 n6 c6, enC exX2 A7 n7 c7] rfl HRW9.out rfl (by intro cs hcs; simp at hcs; rcases hcs with rfl | rfl <;> rfl) (by intro p hp; simp at hp; rcases hp with rfl | rfl; exact stay_en _ _ _ _ HX1.out a2; exact stay_en _ _ _ _ HX2.out a2) (by decide)); have HY9 := Lib.hid a2; clear a1 a2 a3)
    | ((with_reducible show wpList _ _ _ (⟨some 54, _, _, _, _, _⟩ :: _) _ _); refine wpList_loadv _ rfl 42 (.tmp 1) rfl 5 (by kernel_rfl) w3.heap.size 0 _ rfl (BL.all (HV5.out.kept HX9.out)) rfl ?_)
    | (go_at_call 24; (with_reducible show Calls _ _ _ w9 _); refine (State_any _ 2 2 [exX1, exX2] _ exP none 0 0 [] w9 HL9.out (by decide) (stay_pp _ _ _ _ HP5.out HX9.out) LS.nil).mono ?_; rw [ex_s2]; rintro e w10 ⟨rfl, bl⟩; have HX10 := Lib.hid (below_thenB HX9.out HX9.out.size bl); have HRW10 := Lib.hid (HRW9.out.kept bl); have HY10 := Lib.hid (below_then HY9.out bl); clear bl)
    | ((with_reducible show wpList _ _ _ (⟨some 60, _, _, _, _, _⟩ :: _) _ _); refine wpList_build _ rfl 33 _ rfl #[(0, .int .i64 2), (1, .int .i64 9), (2, .int .i64 5), (4, .slice A7 n7 c7)] (by rw [List.map_toArray]; rfl) (.agg (enC exX3 A7 n7 c7).toArray) (bldEq 2 9 5 _ _ _ [0, 5] _) ?_)
    | ((with_reducible show wpList _ _ _ (⟨some 61, _, _, _, _, _⟩ :: _) _ _); refine wpList_bslice _ rfl 22 33 1 _ rfl #[(0, .agg (enC exX3 A7 n7 c7).toArray)] (by rw [List.map_toArray]; rfl) (enC exX3 A7 n7 c7) (bslE1 _ _ _ _ _) ?_; intro w11 a1 a2 a3; have HG11 := Lib.hid a1; have HRW11 := Lib.hid (HRW10.out.kept a2); have HX11 := Lib.hid (below_thenB HX10.out HX10.out.size a2); have HY11 := Lib.hid (below_then HY10.out a2); clear a1 a2 a3)
    | ((with_reducible show wpList _ _ _ (⟨some 62, _, _, _, _, _⟩ :: _) _ _); obtain ⟨iS, i1, i2, i3, i4⟩ := info_some infoEn; refine wpList_appRW _ rfl (.tmp 58) (.tmp 61) 22 33 6 iS _ rfl Tryz.underlying22 i1 i2 i3 rfl (.slice (some ⟨w8.heap.size, 0, none⟩) 2 2) 2 _ rfl HRW11.out w10.heap.size (enC exX3 A7 n7 c7) rfl HG11.out rfl (one_en _ _ _ _) (by rw [i4]; decide) (by decide) ?_; intro v' w12 ap; obtain ⟨g12, o12, c12, e12, hc12, _⟩ := ap.row.at_ (by decide); subst e12; have HC12 := Lib.hid hc12; have HX12 : Hid (Below w5.heap.size w5 w12) := Lib.hid (low_kp HX11.out ap.kp (fun i hi e => by have e' : w8.heap.size = i := Option.some.inj e; have := HX8.out.size; omega)); have HY12 : Hid (Below w8.heap.size w8 w12) := Lib.hid (low_kp HY11.out ap.kp (fun i hi e => by have e' : w8.heap.size = i := Option.some.inj e; omega)); have HL12 : Hid (LS rEn 6 72 w12 (some ⟨g12, o12, none⟩) 3 c12 [exX1, exX2, exX3]) := Lib.hid (rw_ls [enC exX1 A6 n6 c6, enC exX2 A7 n7 c7, enC exX3 A7 n7 c7] rfl ap.row rfl (by intro cs hcs; simp at hcs; rcases hcs with rfl | rfl | rfl <;> rfl) (by intro p hp; simp at hp; rcases hp with rfl | rfl | rfl; exact stay_en _ _ _ _ HX1.out HY12.out; exact stay_en _ _ _ _ HX2.out HY12.out; exact stay_en _ _ _ _ HX3.out HY12.out) (by decide)); clear ap i1 i2 i3 i4 hc12)
    | ((with_reducible show wpList _ _ _ (⟨some 65, _, _, _, _, _⟩ :: _) _ _); refine wpList_loadv _ rfl 42 (.tmp 1) rfl 5 (by kernel_rfl) w3.heap.size 0 _ rfl (BL.all (HV5.out.kept HX12.out)) rfl ?_)
    | (go_at_call 24; (with_reducible show Calls _ _ _ w12 _); refine (State_any _ 3 c12 [exX1, exX2, exX3] _ exP none 0 0 [] w12 HL12.out (by decide) (stay_pp _ _ _ _ HP5.out HX12.out) LS.nil).mono ?_; rw [ex_s3]; rintro e w13 ⟨rfl, bl⟩; have HX13 := Lib.hid (below_thenB HX12.out HX12.out.size bl); have HL13 := Lib.hid (HL12.out.kept stay_en bl); clear bl)
    | ((with_reducible show wpList _ _ _ (⟨some 71, _, _, _, _, _⟩ :: _) _ _); refine wpList_loadv _ rfl 42 (.tmp 1) rfl 5 (by kernel_rfl) w3.heap.size 0 _ rfl (BL.all (HV5.out.kept HX13.out)) rfl ?_)
    | ((with_reducible show wpList _ _ _ (⟨some 72, _, _, _, _, _⟩ :: _) _ _); refine wpList_bslice _ rfl 23 3 1 _ rfl #[(0, .int .i64 2)] (by rw [List.map_toArray]; rfl) [.int .i64 2] (bslI _ _) ?_; intro w14 a1 a2 a3; have HI14 := Lib.hid (ls_i1 2 (by rfl) a1); have HX14 := Lib.hid (below_thenB HX13.out HX13.out.size a2); have HL14 := Lib.hid (HL13.out.kept stay_en a2); clear a1 a2 a3)
    | (go_at_call 24; (with_reducible show Calls _ _ _ w14 _); refine (State_any _ 3 c12 [exX1, exX2, exX3] _ exP _ 1 1 [2] w14 HL14.out (by decide) (stay_pp _ _ _ _ HP5.out HX14.out) HI14.out).mono ?_; rw [ex_s4]; rintro e w15 ⟨rfl, bl⟩; have HX15 := Lib.hid (below_thenB HX14.out HX14.out.size bl); have HL15 := Lib.hid (HL14.out.kept stay_en bl); clear bl)
    | ((with_reducible show wpList _ _ _ (⟨some 77, _, _, _, _, _⟩ :: _) _ _); refine wpList_loadv _ rfl 42 (.tmp 1) rfl 5 (by kernel_rfl) w3.heap.size 0 _ rfl (BL.all (HV5.out.kept HX15.out)) rfl ?_)
    | (go_at_call 24; (with_reducible show Calls _ _ _ w15 _); refine (State_any none 0 0 [] _ exP none 0 0 [] w15 LS.nil (by decide) (stay_pp _ _ _ _ HP5.out HX15.out) LS.nil).mono ?_; rw [ex_s0]; rintro e w16 ⟨rfl, bl⟩; have HX16 := Lib.hid (below_thenB HX15.out HX15.out.size bl); have HL16 := Lib.hid (HL15.out.kept stay_en bl); clear bl)
    | (go_at_call 12; refine (condemned_any _ 3 c12 [exX1, exX2, exX3] 3 0 w16 HL16.out (by decide) (by rfl)).mono ?_; unfold StrN; rw [ex_cond]; rintro e w17 ⟨A17, c17, rfl, _, _, bl⟩; have HX17 := Lib.hid (below_thenB HX16.out HX16.out.size bl); have HL17 := Lib.hid (HL16.out.kept stay_en bl); clear bl)
    | ((with_reducible show wpList _ _ _ (⟨some 115, _, _, _, _, _⟩ :: _) _ _); refine wpList_bsliceg _ rfl 23 3 1 _ rfl #[(0, .int .i64 2)] (by rw [List.map_toArray]; rfl) [.int .i64 2] (bslI _ _) ?_; intro w18 a1 a2 a3; have HI18 := Lib.hid (ls_i1 2 (by rfl) a1); have HX18 := Lib.hid (below_thenB HX17.out HX17.out.size a2); have HL18 := Lib.hid (HL17.out.kept stay_en a2); clear a1 a2 a3)
    | (go_at_call 14; refine (dropped_any _ 3 c12 [exX1, exX2, exX3] 3 _ 1 1 [2] w18 HL18.out (by decide) HI18.out).mono ?_; unfold StrN; rw [ex_drop]; rintro e w19 ⟨A19, c19, rfl, _, _, bl⟩; have HX19 := Lib.hid (below_thenB HX18.out HX18.out.size bl); have HL19 := Lib.hid (HL18.out.kept stay_en bl); clear bl)
    | ((with_reducible show wpList _ _ _ (⟨some 122, _, _, _, _, _⟩ :: _) _ _); refine wpList_preVg _ rfl (.tmp 121) (.const (.int .i64 1)) 22 33 6 rfl Tryz.underlying22 (agg_size (P := Tryz.prog) _ (t := 33) (by kernel_rfl)) g12 o12 3 c12 1 rfl rfl (by decide) HC12.out (by have := HC12.out; omega) ?_)
    | (go_at_call 18; refine (pending_any _ 1 c12 [exX1] 3 1 w19 (HL19.out.pre (k := 1) (by decide)) (by decide) (by rfl)).mono ?_; rintro e w20 ⟨A20, n20, c20, rfl, x1, _, bl⟩; obtain rfl : n20 = 1 := x1.1.1.symm.trans ex_pend; have HX20 := Lib.hid (below_thenB HX19.out HX19.out.size bl); clear x1 bl)
    | ((with_reducible show wpList _ _ _ (⟨some 128, _, _, _, _, _⟩ :: _) _ _); refine wpList_loadvg _ rfl 42 (.tmp 1) rfl 5 (by kernel_rfl) w3.heap.size 0 _ rfl (BL.all (HV5.out.kept HX20.out)) rfl ?_)
    | ((with_reducible show wpList _ _ _ (⟨some 129, _, _, _, _, _⟩ :: _) _ _); refine wpList_bsliceg _ rfl 23 3 1 _ rfl #[(0, .int .i64 4)] (by rw [List.map_toArray]; rfl) [.int .i64 4] (bslI _ _) ?_; intro w21 a1 a2 a3; have HI21 := Lib.hid (ls_i1 4 (by rfl) a1); have HX21 := Lib.hid (below_thenB HX20.out HX20.out.size a2); clear a1 a2 a3)
    | (go_at_call 38; (with_reducible show Calls _ _ _ w21 _); refine (reply_kind _ exP none 0 0 [] _ 1 1 [4] w21 (stay_pp _ _ _ _ HP5.out HX21.out) LS.nil HI21.out).mono ?_; rw [ex_r5]; rintro e w22 ⟨rfl, bl⟩; have HX22 := Lib.hid (below_thenB HX21.out HX21.out.size bl); clear bl)
    | ((with_reducible show wpList _ _ _ (⟨some 134, _, _, _, _, _⟩ :: _) _ _); refine wpList_loadvg _ rfl 42 (.tmp 1) rfl 5 (by kernel_rfl) w3.heap.size 0 _ rfl (BL.all (HV5.out.kept HX22.out)) rfl ?_)
    | (go_at_call 38; (with_reducible show Calls _ _ _ w22 _); refine (reply_kind _ exP none 0 0 [] none 0 0 [] w22 (stay_pp _ _ _ _ HP5.out HX22.out) LS.nil LS.nil).mono ?_; rw [ex_r4]; rintro e w23 ⟨rfl, bl⟩; have HX23 := Lib.hid (below_thenB HX22.out HX22.out.size bl); clear bl))
  go_ret
  exact ⟨rfl, below_then HB5.out HX23.out⟩
end Go.Proofs.YtfonbliomokffaaGreat
