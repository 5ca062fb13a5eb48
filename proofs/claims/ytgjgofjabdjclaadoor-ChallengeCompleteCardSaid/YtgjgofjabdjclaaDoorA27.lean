/- Several texts in one: Mt3, Mt4. -/
import Derived.Test.YtgjgofjabdjclaaDoorA26
import Derived.Test.YtgjgofjabdjclaaDoorA21
import Derived.Test.YtgjgofjabdjclaaDoorA18
/- Contracts of merkle.New, Tree.Len, Tree.Add. -/
namespace Go.Proofs.YtgjgofjabdjclaaDoor
open Go Go.RowKit Gf Sha

theorem bslN (w : World) : (Instr.buildSlice 130 1 #[(0, .slice none 0 0)]).run Tryd.prog w = .ok (.slice (some ⟨w.heap.size, 0, none⟩) 1 1) (w.alloc (.cells [Value.slice none 0 0].toArray 61)) := by kernel_rfl
theorem infoSl : (Tryd.prog.info? 61).map (fun i => (i.zero, i.size, i.bytes)) = some (some (.slice none 0 0), 1, 24) := by kernel_rfl
theorem lvA_nil : lvA [] = [[]] := rfl
theorem RW.frz {w : World} {te : TypeId} {n s g o c : Nat} {l : List Value} (h : RW w te s (.slice (some ⟨g, o, none⟩) n c) n l) (i : Nat) : w.frozen? ⟨g, i, none⟩ = false := by
  rcases h.2 with ⟨e, _⟩ | ⟨g', o', c', cs, e, hb, _⟩
  · cases e
  · cases e; exact hb.frozen i
theorem one_sl (A : Option Addr) (n c : Nat) : ∀ v ∈ ([.slice A n c] : List Value), v.oneCell' = true := by
  intro v hv; simp only [List.mem_singleton] at hv; subst hv; rfl
theorem one_st (s : List UInt8) : ∀ v ∈ ([.string (strB s)] : List Value), v.oneCell' = true := by
  intro v hv; simp only [List.mem_singleton] at hv; subst hv; rfl

set_option maxRecDepth 100000 in
set_option maxHeartbeats 1000000 in
theorem mnew_any (w : World) : Calls Tryd.prog 65 #[] w fun e w' => e = .returned (.pointer (some ⟨w.heap.size + 1, 0, none⟩)) ∧ (∃ v vs, TreeM w' (w.heap.size + 1) w.heap.size (lvA []) v vs) ∧ Below w.heap.size w w' := by
  go_enter Tryd.func65, Tryd.ntmps65
  go_wp2_with (first
    | ((with_reducible show wpList _ _ _ (⟨some 1, _, _, _, _, _⟩ :: _) _ _); refine wpList_bslice _ rfl 130 61 1 _ rfl #[(0, .slice none 0 0)] (by rw [List.map_toArray]; rfl) [.slice none 0 0] (bslN _) ?_; intro w1 a1 a2 a3; have HG1 := Lib.hid a1; have HB1 := Lib.hid a2; have HZ1 := Lib.hid a3; clear a1 a2 a3)
    | ((with_reducible show wpList _ _ _ (⟨some 3, _, _, _, _, _⟩ :: _) _ _); refine wpList_box _ rfl 132 (.tmp 2) rfl [.slice (some ⟨w.heap.size, 0, none⟩) 1 1] rfl ?_; intro w2 a1 a2 a3; have HG2 := Lib.hid a1; have HB2 := Lib.hid a2; clear a1 a2 a3))
  go_ret
  have e1 := HZ1.out
  refine ⟨by rw [e1]; rfl, ⟨.slice (some ⟨w.heap.size, 0, none⟩) 1 1, [.slice none 0 0], ?_⟩, below_then HB1.out HB2.out⟩
  rw [lvA_nil]
  have hb := HG2.out
  rw [e1] at hb
  refine ⟨hb, RW.of_blk (HG1.out.kept HB2.out) rfl (by decide), rfl, fun j h1 h2 => ?_, by omega, fun b hb' => ?_, fun j h2 b hb' => ?_, fun i j hi hj hne b hb' => ?_⟩
  · obtain rfl : j = 0 := by simpa using h1
    exact RW.nil _ _ _
  · have e : w.heap.size = b := by cases hb'; rfl
    exact ⟨by omega, by omega⟩
  · obtain rfl : j = 0 := by simpa using h2
    cases hb'
  · obtain rfl : j = 0 := by simpa using hj
    obtain rfl : i = 0 := by simpa using hi
    exact absurd rfl hne

theorem tree_cells {w : World} {g base : Nat} {lv : List (List (List UInt8))} {v : Value} {vs : List Value} (h : TreeM w g base lv v vs) {l : Nat} (hl : l < lv.length) :
    ∃ gv o c A c', v = .slice (some ⟨gv, o, none⟩) lv.length c ∧ lv.length ≤ c ∧ w.cell? ⟨g, 0, none⟩ = some (.slice (some ⟨gv, o, none⟩) lv.length c) ∧ w.cell? ⟨gv, o + l, none⟩ = some (.slice A lv[l].length c') ∧
      vs[l]? = some (.slice A lv[l].length c') ∧ RW w 9 1 (.slice A lv[l].length c') lv[l].length (lv[l].map usC) ∧ w.frozen? ⟨g, 0, none⟩ = false ∧ w.frozen? ⟨gv, o + l, none⟩ = false := by
  have hl' : l < vs.length := by rw [h.len]; exact hl
  obtain ⟨gv, o, c, e, hc, hat⟩ := h.row.at_ (by omega)
  have hx := h.lvs l hl hl'
  obtain ⟨A, c', e2, _⟩ := hx.form
  refine ⟨gv, o, c, A, c', e, hc, ?_, ?_, ?_, ?_, h.box.frozen 0, ?_⟩
  · have := h.box.get (j := 0) rfl
    rw [e] at this; exact this
  · have := hat l _ (List.getElem?_eq_getElem hl')
    rw [e2] at this; exact this
  · rw [List.getElem?_eq_getElem hl', e2]
  · rw [e2] at hx; exact hx
  · have := h.row
    rw [e] at this
    exact this.frz _

theorem nl_pos (n : Nat) (h0 : n < 256) : 1 ≤ nl n ∧ nl n ≤ 8 := by
  have : ∀ n : Fin 256, 1 ≤ nl n.val ∧ nl n.val ≤ 8 := by decide +kernel
  exact this ⟨n, h0⟩
theorem lvA_get {L : List (List UInt8)} {j : Nat} (_ : j < nl L.length) (h' : j < (lvA L).length) : (lvA L)[j] = lvl L j := by simp [lvA]

set_option maxHeartbeats 1000000 in
theorem tlen_any (w : World) (g base : Nat) (L : List (List UInt8)) (v : Value) (vs : List Value) (h : TreeM w g base (lvA L) v vs) (hL : L.length ≤ 250) :
    Calls Tryd.prog 89 #[.pointer (some ⟨g, 0, none⟩)] w fun e w' => e = .returned (.int .i64 (L.length : Int)) ∧ w' = w := by
  obtain ⟨n1, n2⟩ := nl_pos L.length (by omega)
  have hl : 0 < (lvA L).length := by rw [lvA_length]; omega
  obtain ⟨gv, o, c, A, c', -, -, q0, q1, -, -, -, -⟩ := tree_cells h hl
  have e0 : (lvA L)[0].length = L.length := by rw [lvA_get (by omega), lvl_length, Nat.pow_zero, Nat.div_one]
  rw [e0, Nat.add_zero] at q1
  rw [lvA_length] at q0
  obtain ⟨m, hm⟩ : ∃ m, m = nl L.length := ⟨_, rfl⟩
  rw [← hm] at n1 n2 q0
  have e1 : ((m : Int) == 0) = false := by rw [beq_eq_false_iff_ne]; omega
  clear h hl e0 hm
  go_enter Tryd.func89, Tryd.ntmps89
  go_wp2_with fail
  go_ret
  exact ⟨rfl, rfl⟩

section
variable {P : Program} (w : World) {ops : Array Oper} {rest : List Oper} {o : Oper} {a : Act} {Q : Exit → Act → World → Prop}
/-- x % y for ints that are casts. -/
theorem wpList_remI (hg : o.guard = none) (x y : Operand) (t t2 : TypeId) (hop : o.op = .binOp .rem t x y t2) (X Y : Nat) (zx zy : Int) (hx : a.eval x = .int .i64 zx) (hy : a.eval y = .int .i64 zy) (hX : zx = (X : Int)) (hY : zy = (Y : Int)) (hY0 : 0 < Y)
    (h : wpList P ops Q rest (a.put o.dst (.int .i64 ((X % Y : Nat) : Int))) w) : wpList P ops Q (o :: rest) a w :=
  wpList_plain hg fun K hK => by
    subst hX hY
    have e : ∀ w', (binOp .rem t (.int .i64 (X : Int)) (.int .i64 (Y : Int))).run P w' = .ok (.int .i64 ((X % Y : Nat) : Int)) w' := fun w' => by
      have hne : ¬ Y = 0 := by omega
      show (Op.intDiv .rem .i64 (X : Int) (Y : Int)).run P w' = _
      unfold Op.intDiv
      simp [hne]
      exact Int.tmod_eq_emod_of_nonneg (by omega)
    unfold Oper.wp execOp
    simp only [hop, hx, hy]
    simp [eqGuard, Result.andThen, e]
    exact hK _ _ (by simpa using h)
end
/-- What Add leaves. -/
def AddT (g base : Nat) (L : List (List UInt8)) (x : List UInt8) (w : World) (e : Ending) (w' : World) : Prop :=
  e = .returned (.tuple #[.int .i64 (L.length : Int), .int .i64 0]) ∧ (∃ v vs, TreeM w' g base (lvA (L ++ [x])) v vs) ∧ Below base w w'

/-- What lies below a base stays. -/
theorem Kp.of_base {w w' : World} {B : Nat} (h : Below B w w') : Kp (fun b => B ≤ b) w w' := ⟨h.os, h.tape, h.output, h.size, fun i _ hn => h.block i (by omega)⟩

set_option maxRecDepth 100000 in
set_option maxHeartbeats 8000000 in
theorem tadd_any (w : World) (g base : Nat) (L : List (List UInt8)) (x : List UInt8) (v : Value) (vs : List Value) (h : TreeM w g base (lvA L) v vs) (hL : L.length ≤ 250) (hx : x.length = 32) (hv : Lv L) (hT : Tabs w) (hb3 : 2 < base) (hB : base ≤ w.heap.size) :
    Calls Tryd.prog 66 #[.pointer (some ⟨g, 0, none⟩), .string (strB x)] w (AddT g base L x w) := by
  have H := Lib.hid h
  have HT := Lib.hid hT
  have HV : Hid (Lv (L ++ [x])) := Lib.hid (fun y hy => by
    rcases List.mem_append.1 hy with h | h
    · exact hv y h
    · rw [List.mem_singleton.1 h]; exact hx)
  have d1 := decide_eq_true hx
  have HX := Lib.hid hx
  have HL := Lib.hid hL
  have HB := Lib.hid hB
  have H3 := Lib.hid hb3
  have d2 : decide ((1048576 : Int) ≤ (L.length : Int)) = false := decide_eq_false (by omega)
  obtain ⟨N, hN⟩ : ∃ N, N = L.length := ⟨_, rfl⟩
  have HN := Lib.hid hN
  rw [← hN] at d2
  have HRZ : Hid (rt (sg (L ++ [x]) (L.length + 1 - 2 ^ 0) (2 ^ 0)) = x) := Lib.hid (by rw [Nat.pow_zero, Nat.add_sub_cancel, rt_one (sg_length (by simp)), sg, gR_eq (by simp)]; simp)
  clear h hT hv hx hL hB hb3 hN
  go_enter Tryd.func66, Tryd.ntmps66
  go_wp2_with (first
    | (go_at_call 88; refine (isSum_any x _).mono ?_; rintro e w1 ⟨rfl, hw⟩; rw [hw]; clear hw w1; rw [d1])
    | (go_at_call 89; refine (tlen_any w g base L v vs H.out HL.out).mono ?_; rintro e w1 ⟨rfl, hw⟩; rw [hw]; clear hw w1; rw [← HN.out]))
  go_loopw [7, 8] (fun rv iv wr => ∃ (l : Nat) (v : Value) (vs : List Value), iv = .int .i64 (l : Int) ∧ l ≤ 8 ∧ rv = .string (strB (rt (sg (L ++ [x]) (L.length + 1 - 2 ^ l) (2 ^ l)))) ∧ Hid (TreeM wr g base (lvX L x l (nl L.length)) v vs) ∧ Hid ((L.length + 1) % 2 ^ l = 0 ∧ 2 ^ l ≤ L.length + 1) ∧ Hid (Below base w wr)) (fun _ iv _ => 10 - (intOf iv).toNat)
  case atStart => exact ⟨0, v, vs, rfl, by omega, by rw [HRZ.out], Lib.hid (by rw [lvX_zero]; exact H.out), Lib.hid ⟨Nat.mod_one _, by rw [Nat.pow_zero]; omega⟩, Lib.hid (Below.refl _ _)⟩
  case round =>
    obtain ⟨l, v1, vs1, rfl, hl8, rfl, hT1, hl2, hb⟩ := hrel
    obtain ⟨wx, hwx⟩ : ∃ x, x = wr := ⟨_, rfl⟩
    rw [← hwx] at hT1 hb ⊢
    clear hwx
    obtain ⟨p1, p2, p3, p4, p5⟩ := nl_parts (n := L.length) (by have := HL.out; omega) (by omega) hl2.out.1
    have P4 := Lib.hid p4
    have P5 := Lib.hid p5
    obtain ⟨R, hR⟩ : ∃ R, R = rt (sg (L ++ [x]) (L.length + 1 - 2 ^ l) (2 ^ l)) := ⟨_, rfl⟩
    have HR := Lib.hid hR.symm
    rw [← hR]
    obtain ⟨m, hm⟩ : ∃ m, m = nl L.length := ⟨_, rfl⟩
    rw [← hm] at p1 p2 p3 hT1
    have HM := Lib.hid hm.symm
    clear p4 p5 hR hm
    by_cases hlm0 : l = m
    · subst hlm0
      have et : ((l : Int) == (l : Int)) = true := by simp
      have hl1 : 1 ≤ l := by rw [← HM.out]; exact (nl_pos _ (by have := HL.out; omega)).1
      have qz : wx.cell? ⟨g, 0, none⟩ = some v1 := hT1.out.box.get (j := 0) rfl
      obtain ⟨gv0, o0, c0, ev0, _, _⟩ := hT1.out.row.at_ (by rw [lvX_length]; omega)
      have HRV := Lib.hid hT1.out.row
      rw [ev0, lvX_length] at qz HRV
      have HGL : Hid (g < wx.heap.size) := Lib.hid hT1.out.box.lt
      have HEV0 := Lib.hid ev0
      have HVG : Hid (∀ b, (Value.slice (some ⟨gv0, o0, none⟩) l c0).ownBlock = some b → b ≠ g) := Lib.hid (fun b hb2 => (hT1.out.vb b (by rw [ev0, lvX_length]; exact hb2)).2)
      have HEMP : Hid (lvl L l = []) := Lib.hid (List.eq_nil_of_length_eq_zero (by rw [lvl_length]; exact p3))
      clear ev0 p3
      go_wp2_with (first
        | ((with_reducible show wpList _ _ _ (⟨some 32, _, _, _, _, _⟩ :: _) _ _); refine wpList_bslice _ rfl 130 61 1 _ rfl #[(0, .slice none 0 0)] (by rw [List.map_toArray]; rfl) [.slice none 0 0] (bslN _) ?_; intro w4 a1 a2 a3; have HG4 := Lib.hid a1; have HX4 := Lib.hid a2; clear a1 a2 a3)
        | ((with_reducible show wpList _ _ _ (⟨some 33, _, _, _, _, _⟩ :: _) _ _); obtain ⟨iS, i1, i2, i3, i4⟩ := info_some infoSl; refine wpList_appRW _ rfl (.tmp 31) (.tmp 32) 130 61 1 iS _ rfl Tryd.underlying130 i1 i2 i3 rfl _ l _ rfl (HRV.out.kept HX4.out) wx.heap.size [.slice none 0 0] rfl HG4.out rfl (one_sl _ _ _) (by rw [i4]; omega) (by omega) ?_; intro v5 w5 a1; obtain ⟨A5, c5, rfl, _⟩ := a1.row.form; have HAP5 := Lib.hid a1; have q5 := a1.kp.cell (cell_kept HX4.out qz) (fun e => HVG.out g e rfl); have f5 : w5.frozen? ⟨g, 0, none⟩ = false := ((hT1.out.box.kept HX4.out).kp a1.kp (fun e => HVG.out g e rfl)).frozen 0; clear a1 i1 i2 i3 i4))
      obtain ⟨w7, hw7⟩ : ∃ W, W = w5.setCell ⟨g, 0, none⟩ (.slice A5 (l + 1) c5) := ⟨_, rfl⟩
      rw [← hw7]
      have hpush := TreeM.push (hT1.out.kept HX4.out) (Nat.lt_of_lt_of_le HGL.out HX4.out.size) (Nat.le_trans HB.out (Nat.le_trans hb.out.size HX4.out.size)) (by rw [HEV0.out, lvX_length]; exact HAP5.out) hw7
      rw [← lvX_push L x l HEMP.out] at hpush
      have HT7 := Lib.hid hpush.1
      have HB7 : Hid (Below base w w7) := Lib.hid (hb.out.trans ((HX4.out.mono (Nat.le_trans HB.out hb.out.size)).trans hpush.2))
      clear hpush hw7 qz q5 f5 et
      have hls : l < l + 1 := Nat.lt_succ_self l
      have hlm : l < (lvX L x l (l + 1)).length := by rw [lvX_length]; exact hls
      obtain ⟨gv, o, c, Al, cl, ev, hcc, q0, q1, q3, q4, q5, q6⟩ := tree_cells HT7.out hlm
      have elv : (lvX L x l (l + 1))[l] = lvl L l := by
        have := lvX_get (L := L) (x := x) (l := l) (m := (l + 1)) hls
        rw [List.getElem?_eq_getElem hlm] at this
        rw [Option.some.inj this, if_neg (by omega)]
      rw [elv, lvl_length] at q1 q3 q4
      rw [lvX_length] at ev q0 hcc
      have hl' : l < (vs1 ++ [Value.slice none 0 0]).length := (List.getElem?_eq_some_iff.1 q3).1
      have evl : (vs1 ++ [Value.slice none 0 0])[l] = .slice Al (L.length / 2 ^ l) cl := by rw [List.getElem?_eq_getElem hl'] at q3; exact Option.some.inj q3
      obtain ⟨kk, hkk⟩ : ∃ k, k = L.length / 2 ^ l := ⟨_, rfl⟩
      rw [← hkk] at q1 q4 evl
      have hkN : kk ≤ 250 := by have := HL.out; have := Nat.div_le_self L.length (2 ^ l); omega
      have HTw : Hid (TreeM w7 g base (lvX L x l (l + 1)) (.slice A5 (l + 1) c5) (vs1 ++ [Value.slice none 0 0])) := Lib.hid HT7.out
      have HEV := Lib.hid ev
      have HEVL := Lib.hid evl
      have HELV := Lib.hid elv
      have HQ4 := Lib.hid q4


      have HKK := Lib.hid hkk
      have HgV : Hid (gv ≠ g) := Lib.hid ((HT7.out).vb gv (by rw [ev]; rfl)).2
      have HgA : Hid (∀ b, (Value.slice Al kk cl).ownBlock = some b → b ≠ g ∧ b ≠ gv) := Lib.hid (fun b hb => by
        have := (HT7.out).lb l hl' b (by rw [evl]; exact hb)
        exact ⟨this.2.1, fun e => this.2.2 (by rw [ev, e]; rfl)⟩)
      have hlc : (l : Int) < ((l + 1) : Int) := by have := hls; omega
      have HM8 : Hid ((l + 1) ≤ 9) := Lib.hid (by omega)
      clear ev q3 q4 q5 q6 elv evl hkk
      refine Text.wp_region_text (fun w' => w'.cell? ⟨g, 0, none⟩ = some (.slice (some ⟨gv, o, none⟩) (l + 1) c) ∧ w'.cell? ⟨gv, o + l, none⟩ = some (.slice Al kk cl)) [(0, 4), (1, 4), (2, 4), (4, 4), (5, 4), (6, 4), (7, 4), (9, 4), (12, 4), (3, 0), (8, 0), (10, 4), (11, 0), (13, 2), (14, 2), (15, 4), (16, 3)] (by kernel_rfl) (by kernel_rfl) (fun _ _ _ _ _ h => h) (⟨q0, q1⟩) ?_
      iterate 9 (refine Text.purek rfl rfl (fun K hK => ⟨_, fun w' => by go_simp <;> rfl, ?_⟩); go_simp; refine hK _ ?_; clear hK K)
      iterate 2 (refine Text.heldk rfl rfl (fun K hK => ⟨_, fun w' hw' => by go_simp <;> rfl, ?_⟩); go_simp; refine hK _ ?_; clear hK K)
      (refine Text.purek rfl rfl (fun K hK => ⟨_, fun w' => by go_simp <;> rfl, ?_⟩); go_simp; refine hK _ ?_; clear hK K)
      (refine Text.heldk rfl rfl (fun K hK => ⟨_, fun w' hw' => by go_simp <;> rfl, ?_⟩); go_simp; refine hK _ ?_; clear hK K)
      refine Text.eff rfl rfl (fun K hK => ?_)
      refine wp_bslice 61 9 1 _ rfl #[(0, .string (strB R))] (by rw [List.map_toArray]; rfl) [.string (strB R)] (bslS R _) ?_
      intro w8 a1 a2 a3
      have HG8 := Lib.hid a1
      have HX8 : Hid (Below (w7).heap.size w7 w8) := Lib.hid (below_ofDrew a2)
      have q08 := cell_kept HX8.out q0
      have q18 := cell_kept HX8.out q1
      refine hK _ _ ⟨q08, q18⟩ ?_
      clear hK K a1 a2 a3
      refine Text.eff rfl rfl (fun K hK => ?_)
      obtain ⟨iS, i1, i2, i3, i4⟩ := info_some infoStr
      refine wp_appRW _ (.tmp 47) (.tmp 49) 61 9 1 iS _ rfl Tryd.underlying61 i1 i2 i3 rfl (.slice Al kk cl) kk _ rfl (HQ4.out.kept HX8.out) (w7).heap.size [.string (strB R)] rfl HG8.out rfl (one_st R) (by rw [i4]; omega) (by omega) ?_
      intro v9 w9 ap
      obtain ⟨A9, c9, rfl, _⟩ := ap.row.form
      have HAP := Lib.hid ap
      have q09 : w9.cell? ⟨g, 0, none⟩ = some (.slice (some ⟨gv, o, none⟩) (l + 1) c) := ap.kp.cell q08 (fun e => (HgA.out g e).1 rfl)
      have q19 : w9.cell? ⟨gv, o + l, none⟩ = some (.slice Al kk cl) := ap.kp.cell q18 (fun e => (HgA.out gv e).2 rfl)
      have f19 : w9.frozen? ⟨gv, o + l, none⟩ = false := by
        have h9 := (HTw.out.row.kept HX8.out).kp ap.kp (fun b hb e => (HgA.out b e).2 (by rw [HEV.out] at hb; cases hb; rfl))
        rw [HEV.out, lvX_length] at h9
        exact h9.frz _
      refine hK _ _ ⟨q09, q19⟩ ?_
      clear hK K ap i1 i2 i3 i4 q0 q1 q08 q18
      (refine Text.purek rfl rfl (fun K hK => ⟨_, fun w' => by go_simp <;> rfl, ?_⟩); go_simp; refine hK _ ?_; clear hK K)
      refine Text.last rfl rfl (fun K hK => ?_)
      go_simp
      obtain ⟨w10, hw10⟩ : ∃ W, W = w9.setCell ⟨gv, o + l, none⟩ (.slice A9 (kk + 1) c9) := ⟨_, rfl⟩
      rw [← hw10]
      have hput := TreeM.put (HTw.out.kept HX8.out) (Nat.le_trans HB.out (Nat.le_trans (HB7.out).size HX8.out.size)) hlm hl' (r := R) (by rw [HELV.out, HEVL.out, lvl_length, ← HKK.out]; exact HAP.out) (by rw [HEV.out, lvX_length]) hw10
      rw [HELV.out, ← HR.out, ← lvl_push hl2.out.1, lvX_set] at hput
      have HT10 := Lib.hid hput.1
      have HB10 : Hid (Below base w w10) := Lib.hid ((HB7.out).trans ((HX8.out.mono (Nat.le_trans HB.out (HB7.out).size)).trans hput.2))
      have hlm2 : l < (lvX L x (l + 1) (l + 1)).length := by rw [lvX_length]; exact hls
      obtain ⟨gv2, o2, c2, Al2, cl2, _, _, r0, r1, _, r4, _, _⟩ := tree_cells HT10.out hlm2
      have elv2 : (lvX L x (l + 1) (l + 1))[l] = lvl (L ++ [x]) l := by
        have := lvX_get (L := L) (x := x) (l := l + 1) (m := (l + 1)) hls
        rw [List.getElem?_eq_getElem hlm2] at this
        rw [Option.some.inj this, if_pos (by omega)]
      rw [elv2, lvl_length, List.length_append, List.length_singleton] at r1 r4
      rw [lvX_length] at r0
      obtain ⟨k1, hk1⟩ : ∃ k, k = (L.length + 1) / 2 ^ l := ⟨_, rfl⟩
      rw [← hk1] at r1 r4 P4 P5
      have HK1 := Lib.hid hk1
      have hk1N : k1 ≤ 251 := by have := HL.out; have := Nat.div_le_self (L.length + 1) (2 ^ l); omega
      refine hK _ _ ?_
      clear hK K hput hw10 elv2 q09 q19 f19 hcc hk1
      refine Text.done ?_
      by_cases hodd : k1 % 2 = 1
      · have HFIN : Hid (lvX L x (l + 1) (l + 1) = lvA (L ++ [x])) := Lib.hid (lvX_done (by rw [P4.out hodd, HM.out, if_pos rfl]) (fun j hj => odd_same (by rw [← HK1.out]; exact hodd) hj))
        clear P4 P5
        go_wp2_with ((with_reducible show wpList _ _ _ (⟨some 61, _, _, _, _, _⟩ :: _) _ _); refine wpList_remI _ rfl (.tmp 60) _ _ _ rfl k1 2 _ _ rfl rfl rfl rfl (by decide) ?_; rw [hodd])
        go_ret2
        have h9 := HT10.out
        rw [HFIN.out] at h9
        exact ⟨by rw [HN.out]; rfl, ⟨_, _, h9⟩, HB10.out⟩
      · have heven : k1 % 2 = 0 := by omega
        obtain ⟨s1, s2, s3⟩ := P5.out heven
        rw [HM.out] at s1
        have h2p : 0 < 2 ^ l := Nat.two_pow_pos l
        have hm1 : k1 * 2 ^ l = L.length + 1 := by rw [HK1.out]; exact Nat.div_mul_cancel (Nat.dvd_of_mod_eq_zero hl2.out.1)
        have hk0 : 1 ≤ k1 := by
          rcases Nat.eq_zero_or_pos k1 with h0 | h0
          · rw [h0, Nat.zero_mul] at hm1; omega
          · exact h0
        obtain ⟨k2, hk2⟩ : ∃ k2, k1 = k2 + 2 := ⟨k1 - 2, by omega⟩
        have e2k : k2 * 2 ^ l = (L ++ [x]).length - 2 ^ (l + 1) := by
          rw [List.length_append, List.length_singleton, ← hm1, hk2, Nat.add_mul, Nat.pow_succ]; omega
        obtain ⟨g3, o3, c3, e3, _, hat⟩ := r4.at_ (by omega)
        cases e3
        have hk2l : k2 < (lvl (L ++ [x]) l).length := by rw [lvl_length, List.length_append, List.length_singleton, ← HK1.out]; omega
        have c4 := hat k2 _ (by rw [List.getElem?_map, List.getElem?_eq_getElem hk2l]; rfl)
        obtain ⟨R2, hR2⟩ : ∃ R2, R2 = rt (sg (L ++ [x]) ((L ++ [x]).length - 2 ^ (l + 1)) (2 ^ l)) := ⟨_, rfl⟩
        have eR2 : (lvl (L ++ [x]) l)[k2] = R2 := by rw [hR2, ← e2k]; simp [lvl]
        rw [eR2] at c4
        have c4 : w10.cell? ⟨g3, o3 + k2, none⟩ = some (.string (strB R2)) := c4
        have hj := rt_join (L := L ++ [x]) (l := l) (by omega) (by rw [List.length_append, List.length_singleton]; exact s3)
        rw [← hR2, show (L ++ [x]).length - 2 ^ l = L.length + 1 - 2 ^ l by simp, HR.out] at hj
        have HJ : Hid (rt (sg (L ++ [x]) (L.length + 1 - 2 ^ (l + 1)) (2 ^ (l + 1))) = mnode R2 R) := Lib.hid (by
          rw [← hj, List.length_append, List.length_singleton])
        have h256 : 2 ^ l ≤ 2 ^ 8 := Nat.pow_le_pow_right (by decide) (by omega)
        have e2l : 2 ^ (l + 1) = 2 ^ l + 2 ^ l := by rw [Nat.pow_succ]; omega
        have hLL : (L ++ [x]).length = L.length + 1 := by simp
        have HR32 : Hid (R.length ≤ 1048576) := Lib.hid (by
          rw [← HR.out, rt_length (HV.out.sg _ _) (by rw [sg_length (by have := hl2.out.2; omega)]; exact h2p) (by rw [sg_length (by have := hl2.out.2; omega)]; omega)]
          decide)
        have HR232 : Hid (R2.length ≤ 1048576) := Lib.hid (by
          rw [hR2, rt_length (HV.out.sg _ _) (by rw [sg_length (by omega)]; exact h2p) (by rw [sg_length (by omega)]; omega)]
          decide)
        have HN2 : Hid ((L.length + 1) % 2 ^ (l + 1) = 0 ∧ 2 ^ (l + 1) ≤ L.length + 1) := Lib.hid ⟨s2, s3⟩
        have HMM : Hid ((l + 1) = nl L.length) := Lib.hid (absurd s1 (Nat.lt_irrefl l))
        have hk12 : (k1 : Int) - 2 = (k2 : Int) := by omega
        have hk21 : (k2 : Int) < (k1 : Int) := by omega
        have hl7 : l + 1 ≤ 8 := by omega
        clear P4 P5 s1 s2 s3 h2p hm1 hk0 e2k hat hk2l eR2 hR2 hj h256 e2l hLL hk2 hodd
        go_wp2_with (first
          | ((with_reducible show wpList _ _ _ (⟨some 61, _, _, _, _, _⟩ :: _) _ _); refine wpList_remI _ rfl (.tmp 60) _ _ _ rfl k1 2 _ _ rfl rfl rfl rfl (by decide) ?_; rw [heven])
          | (go_at_call 90; refine (node_any R2 R _ (HT.out.kp (Kp.of_base HB10.out) (fun k hk => Nat.lt_of_lt_of_le H3.out hk)) HR232.out HR32.out).mono ?_; rintro e w11 ⟨rfl, b1⟩; have HX11 := Lib.hid b1; clear b1))
        go_roundw
        case rel => exact ⟨l + 1, _, _, by go_num, hl7, by rw [HJ.out], Lib.hid (by rw [← HMM.out]; exact HT10.out.kept HX11.out), HN2, Lib.hid (HB10.out.trans (HX11.out.mono (Nat.le_trans HB.out HB10.out.size)))⟩
        case measure => simp [intOf]; omega
    · have hlm1 : l < m := by omega
      have et : ((l : Int) == (m : Int)) = false := by rw [beq_eq_false_iff_ne]; omega
      have qz : wx.cell? ⟨g, 0, none⟩ = some v1 := hT1.out.box.get (j := 0) rfl
      obtain ⟨gv0, o0, c0, ev0, _, _⟩ := hT1.out.row.at_ (by rw [lvX_length]; omega)
      rw [ev0, lvX_length] at qz
      clear ev0 p3
      go_wp2_with fail
      clear qz et
      have hlm : l < (lvX L x l m).length := by rw [lvX_length]; exact hlm1
      obtain ⟨gv, o, c, Al, cl, ev, hcc, q0, q1, q3, q4, q5, q6⟩ := tree_cells hT1.out hlm
      have elv : (lvX L x l m)[l] = lvl L l := by
        have := lvX_get (L := L) (x := x) (l := l) (m := m) hlm1
        rw [List.getElem?_eq_getElem hlm] at this
        rw [Option.some.inj this, if_neg (by omega)]
      rw [elv, lvl_length] at q1 q3 q4
      rw [lvX_length] at ev q0 hcc
      have hl' : l < vs1.length := (List.getElem?_eq_some_iff.1 q3).1
      have evl : vs1[l] = .slice Al (L.length / 2 ^ l) cl := by rw [List.getElem?_eq_getElem hl'] at q3; exact Option.some.inj q3
      obtain ⟨kk, hkk⟩ : ∃ k, k = L.length / 2 ^ l := ⟨_, rfl⟩
      rw [← hkk] at q1 q4 evl
      have hkN : kk ≤ 250 := by have := HL.out; have := Nat.div_le_self L.length (2 ^ l); omega
      have HTw : Hid (TreeM wx g base (lvX L x l m) v1 vs1) := Lib.hid hT1.out
      have HEV := Lib.hid ev
      have HEVL := Lib.hid evl
      have HELV := Lib.hid elv
      have HQ4 := Lib.hid q4


      have HKK := Lib.hid hkk
      have HgV : Hid (gv ≠ g) := Lib.hid ((hT1.out).vb gv (by rw [ev]; rfl)).2
      have HgA : Hid (∀ b, (Value.slice Al kk cl).ownBlock = some b → b ≠ g ∧ b ≠ gv) := Lib.hid (fun b hb => by
        have := (hT1.out).lb l hl' b (by rw [evl]; exact hb)
        exact ⟨this.2.1, fun e => this.2.2 (by rw [ev, e]; rfl)⟩)
      have hlc : (l : Int) < (m : Int) := by have := hlm1; omega
      have HM8 : Hid (m ≤ 9) := Lib.hid (by omega)
      clear ev q3 q4 q5 q6 elv evl hkk
      refine Text.wp_region_text (fun w' => w'.cell? ⟨g, 0, none⟩ = some (.slice (some ⟨gv, o, none⟩) m c) ∧ w'.cell? ⟨gv, o + l, none⟩ = some (.slice Al kk cl)) [(0, 4), (1, 4), (2, 4), (4, 4), (5, 4), (6, 4), (7, 4), (9, 4), (12, 4), (3, 0), (8, 0), (10, 4), (11, 0), (13, 2), (14, 2), (15, 4), (16, 3)] (by kernel_rfl) (by kernel_rfl) (fun _ _ _ _ _ h => h) (⟨q0, q1⟩) ?_
      iterate 9 (refine Text.purek rfl rfl (fun K hK => ⟨_, fun w' => by go_simp <;> rfl, ?_⟩); go_simp; refine hK _ ?_; clear hK K)
      iterate 2 (refine Text.heldk rfl rfl (fun K hK => ⟨_, fun w' hw' => by go_simp <;> rfl, ?_⟩); go_simp; refine hK _ ?_; clear hK K)
      (refine Text.purek rfl rfl (fun K hK => ⟨_, fun w' => by go_simp <;> rfl, ?_⟩); go_simp; refine hK _ ?_; clear hK K)
      (refine Text.heldk rfl rfl (fun K hK => ⟨_, fun w' hw' => by go_simp <;> rfl, ?_⟩); go_simp; refine hK _ ?_; clear hK K)
      refine Text.eff rfl rfl (fun K hK => ?_)
      refine wp_bslice 61 9 1 _ rfl #[(0, .string (strB R))] (by rw [List.map_toArray]; rfl) [.string (strB R)] (bslS R _) ?_
      intro w8 a1 a2 a3
      have HG8 := Lib.hid a1
      have HX8 : Hid (Below (wx).heap.size wx w8) := Lib.hid (below_ofDrew a2)
      have q08 := cell_kept HX8.out q0
      have q18 := cell_kept HX8.out q1
      refine hK _ _ ⟨q08, q18⟩ ?_
      clear hK K a1 a2 a3
      refine Text.eff rfl rfl (fun K hK => ?_)
      obtain ⟨iS, i1, i2, i3, i4⟩ := info_some infoStr
      refine wp_appRW _ (.tmp 47) (.tmp 49) 61 9 1 iS _ rfl Tryd.underlying61 i1 i2 i3 rfl (.slice Al kk cl) kk _ rfl (HQ4.out.kept HX8.out) (wx).heap.size [.string (strB R)] rfl HG8.out rfl (one_st R) (by rw [i4]; omega) (by omega) ?_
      intro v9 w9 ap
      obtain ⟨A9, c9, rfl, _⟩ := ap.row.form
      have HAP := Lib.hid ap
      have q09 : w9.cell? ⟨g, 0, none⟩ = some (.slice (some ⟨gv, o, none⟩) m c) := ap.kp.cell q08 (fun e => (HgA.out g e).1 rfl)
      have q19 : w9.cell? ⟨gv, o + l, none⟩ = some (.slice Al kk cl) := ap.kp.cell q18 (fun e => (HgA.out gv e).2 rfl)
      have f19 : w9.frozen? ⟨gv, o + l, none⟩ = false := by
        have h9 := (HTw.out.row.kept HX8.out).kp ap.kp (fun b hb e => (HgA.out b e).2 (by rw [HEV.out] at hb; cases hb; rfl))
        rw [HEV.out, lvX_length] at h9
        exact h9.frz _
      refine hK _ _ ⟨q09, q19⟩ ?_
      clear hK K ap i1 i2 i3 i4 q0 q1 q08 q18
      (refine Text.purek rfl rfl (fun K hK => ⟨_, fun w' => by go_simp <;> rfl, ?_⟩); go_simp; refine hK _ ?_; clear hK K)
      refine Text.last rfl rfl (fun K hK => ?_)
      go_simp
      obtain ⟨w10, hw10⟩ : ∃ W, W = w9.setCell ⟨gv, o + l, none⟩ (.slice A9 (kk + 1) c9) := ⟨_, rfl⟩
      rw [← hw10]
      have hput := TreeM.put (HTw.out.kept HX8.out) (Nat.le_trans HB.out (Nat.le_trans (hb.out).size HX8.out.size)) hlm hl' (r := R) (by rw [HELV.out, HEVL.out, lvl_length, ← HKK.out]; exact HAP.out) (by rw [HEV.out, lvX_length]) hw10
      rw [HELV.out, ← HR.out, ← lvl_push hl2.out.1, lvX_set] at hput
      have HT10 := Lib.hid hput.1
      have HB10 : Hid (Below base w w10) := Lib.hid ((hb.out).trans ((HX8.out.mono (Nat.le_trans HB.out (hb.out).size)).trans hput.2))
      have hlm2 : l < (lvX L x (l + 1) m).length := by rw [lvX_length]; exact hlm1
      obtain ⟨gv2, o2, c2, Al2, cl2, _, _, r0, r1, _, r4, _, _⟩ := tree_cells HT10.out hlm2
      have elv2 : (lvX L x (l + 1) m)[l] = lvl (L ++ [x]) l := by
        have := lvX_get (L := L) (x := x) (l := l + 1) (m := m) hlm1
        rw [List.getElem?_eq_getElem hlm2] at this
        rw [Option.some.inj this, if_pos (by omega)]
      rw [elv2, lvl_length, List.length_append, List.length_singleton] at r1 r4
      rw [lvX_length] at r0
      obtain ⟨k1, hk1⟩ : ∃ k, k = (L.length + 1) / 2 ^ l := ⟨_, rfl⟩
      rw [← hk1] at r1 r4 P4 P5
      have HK1 := Lib.hid hk1
      have hk1N : k1 ≤ 251 := by have := HL.out; have := Nat.div_le_self (L.length + 1) (2 ^ l); omega
      refine hK _ _ ?_
      clear hK K hput hw10 elv2 q09 q19 f19 hcc hk1
      refine Text.done ?_
      by_cases hodd : k1 % 2 = 1
      · have HFIN : Hid (lvX L x (l + 1) m = lvA (L ++ [x])) := Lib.hid (lvX_done (by rw [P4.out hodd, HM.out, if_neg hlm0]) (fun j hj => odd_same (by rw [← HK1.out]; exact hodd) hj))
        clear P4 P5
        go_wp2_with ((with_reducible show wpList _ _ _ (⟨some 61, _, _, _, _, _⟩ :: _) _ _); refine wpList_remI _ rfl (.tmp 60) _ _ _ rfl k1 2 _ _ rfl rfl rfl rfl (by decide) ?_; rw [hodd])
        go_ret2
        have h9 := HT10.out
        rw [HFIN.out] at h9
        exact ⟨by rw [HN.out]; rfl, ⟨_, _, h9⟩, HB10.out⟩
      · have heven : k1 % 2 = 0 := by omega
        obtain ⟨s1, s2, s3⟩ := P5.out heven
        rw [HM.out] at s1
        have h2p : 0 < 2 ^ l := Nat.two_pow_pos l
        have hm1 : k1 * 2 ^ l = L.length + 1 := by rw [HK1.out]; exact Nat.div_mul_cancel (Nat.dvd_of_mod_eq_zero hl2.out.1)
        have hk0 : 1 ≤ k1 := by
          rcases Nat.eq_zero_or_pos k1 with h0 | h0
          · rw [h0, Nat.zero_mul] at hm1; omega
          · exact h0
        obtain ⟨k2, hk2⟩ : ∃ k2, k1 = k2 + 2 := ⟨k1 - 2, by omega⟩
        have e2k : k2 * 2 ^ l = (L ++ [x]).length - 2 ^ (l + 1) := by
          rw [List.length_append, List.length_singleton, ← hm1, hk2, Nat.add_mul, Nat.pow_succ]; omega
        obtain ⟨g3, o3, c3, e3, _, hat⟩ := r4.at_ (by omega)
        cases e3
        have hk2l : k2 < (lvl (L ++ [x]) l).length := by rw [lvl_length, List.length_append, List.length_singleton, ← HK1.out]; omega
        have c4 := hat k2 _ (by rw [List.getElem?_map, List.getElem?_eq_getElem hk2l]; rfl)
        obtain ⟨R2, hR2⟩ : ∃ R2, R2 = rt (sg (L ++ [x]) ((L ++ [x]).length - 2 ^ (l + 1)) (2 ^ l)) := ⟨_, rfl⟩
        have eR2 : (lvl (L ++ [x]) l)[k2] = R2 := by rw [hR2, ← e2k]; simp [lvl]
        rw [eR2] at c4
        have c4 : w10.cell? ⟨g3, o3 + k2, none⟩ = some (.string (strB R2)) := c4
        have hj := rt_join (L := L ++ [x]) (l := l) (by omega) (by rw [List.length_append, List.length_singleton]; exact s3)
        rw [← hR2, show (L ++ [x]).length - 2 ^ l = L.length + 1 - 2 ^ l by simp, HR.out] at hj
        have HJ : Hid (rt (sg (L ++ [x]) (L.length + 1 - 2 ^ (l + 1)) (2 ^ (l + 1))) = mnode R2 R) := Lib.hid (by
          rw [← hj, List.length_append, List.length_singleton])
        have h256 : 2 ^ l ≤ 2 ^ 8 := Nat.pow_le_pow_right (by decide) (by omega)
        have e2l : 2 ^ (l + 1) = 2 ^ l + 2 ^ l := by rw [Nat.pow_succ]; omega
        have hLL : (L ++ [x]).length = L.length + 1 := by simp
        have HR32 : Hid (R.length ≤ 1048576) := Lib.hid (by
          rw [← HR.out, rt_length (HV.out.sg _ _) (by rw [sg_length (by have := hl2.out.2; omega)]; exact h2p) (by rw [sg_length (by have := hl2.out.2; omega)]; omega)]
          decide)
        have HR232 : Hid (R2.length ≤ 1048576) := Lib.hid (by
          rw [hR2, rt_length (HV.out.sg _ _) (by rw [sg_length (by omega)]; exact h2p) (by rw [sg_length (by omega)]; omega)]
          decide)
        have HN2 : Hid ((L.length + 1) % 2 ^ (l + 1) = 0 ∧ 2 ^ (l + 1) ≤ L.length + 1) := Lib.hid ⟨s2, s3⟩
        have HMM : Hid (m = nl L.length) := Lib.hid (HM.out.symm)
        have hk12 : (k1 : Int) - 2 = (k2 : Int) := by omega
        have hk21 : (k2 : Int) < (k1 : Int) := by omega
        have hl7 : l + 1 ≤ 8 := by omega
        clear P4 P5 s1 s2 s3 h2p hm1 hk0 e2k hat hk2l eR2 hR2 hj h256 e2l hLL hk2 hodd
        go_wp2_with (first
          | ((with_reducible show wpList _ _ _ (⟨some 61, _, _, _, _, _⟩ :: _) _ _); refine wpList_remI _ rfl (.tmp 60) _ _ _ rfl k1 2 _ _ rfl rfl rfl rfl (by decide) ?_; rw [heven])
          | (go_at_call 90; refine (node_any R2 R _ (HT.out.kp (Kp.of_base HB10.out) (fun k hk => Nat.lt_of_lt_of_le H3.out hk)) HR232.out HR32.out).mono ?_; rintro e w11 ⟨rfl, b1⟩; have HX11 := Lib.hid b1; clear b1))
        go_roundw
        case rel => exact ⟨l + 1, _, _, by go_num, hl7, by rw [HJ.out], Lib.hid (by rw [← HMM.out]; exact HT10.out.kept HX11.out), HN2, Lib.hid (HB10.out.trans (HX11.out.mono (Nat.le_trans HB.out HB10.out.size)))⟩
        case measure => simp [intOf]; omega
end Go.Proofs.YtgjgofjabdjclaaDoor
/- Contracts of Tree.part, merkle.path, Tree.Path. -/
namespace Go.Proofs.YtgjgofjabdjclaaDoor
open Go Go.RowKit Gf Sha

/-- A part that the division of a tree makes. -/
def Al (s n : Nat) : Prop := ∃ j, n ≤ 2 ^ j ∧ s % 2 ^ j = 0
theorem Al.all (n : Nat) : Al 0 n := ⟨n, Nat.le_of_lt Nat.lt_two_pow_self, Nat.zero_mod _⟩
theorem Al.left {s n k : Nat} (h : Al s n) (hk : k ≤ n) : Al s k := let ⟨j, h1, h2⟩ := h; ⟨j, by omega, h2⟩
theorem pow_dvd_mod {s a b : Nat} (h : s % 2 ^ b = 0) (hab : a ≤ b) : s % 2 ^ a = 0 :=
  Nat.mod_eq_zero_of_dvd (Nat.dvd_trans (Nat.pow_dvd_pow 2 hab) (Nat.dvd_of_mod_eq_zero h))
theorem pow_le_exp {a b : Nat} (h : 2 ^ a ≤ 2 ^ b) : a ≤ b := (Nat.pow_le_pow_iff_right (by decide)).1 h
theorem Al.right {s n : Nat} (h : Al s n) (h2 : 2 ≤ n) (hn : n ≤ 256) : Al (s + spl n) (n - spl n) := by
  obtain ⟨j, h3, h4⟩ := h
  obtain ⟨s1, s2, s3, _, _⟩ := spl_parts h2 hn
  have e : spl n = 2 ^ (Lib.bitLen (n - 1) - 1) := rfl
  refine ⟨Lib.bitLen (n - 1) - 1, by omega, ?_⟩
  rw [e, Nat.add_mod_right]
  exact pow_dvd_mod h4 (pow_le_exp (by omega))
theorem Al.pow {s l : Nat} (h : Al s (2 ^ l)) : s % 2 ^ l = 0 := by
  obtain ⟨j, h3, h4⟩ := h
  exact pow_dvd_mod h4 (pow_le_exp h3)
theorem pw_dec : ∀ n : Fin 257, 1 ≤ n.val → 1 ≤ Lib.bitLen n.val ∧ Lib.bitLen n.val ≤ 9 ∧ 2 ^ (Lib.bitLen n.val - 1) ≤ n.val ∧ (n.val ≠ 2 ^ (Lib.bitLen n.val - 1) → 3 ≤ n.val) := by decide +kernel
theorem pw_nl : ∀ n : Fin 251, ∀ l : Fin 9, 2 ^ l.val ≤ n.val → l.val < nl n.val := by decide +kernel

set_option maxRecDepth 100000 in
set_option maxHeartbeats 4000000 in
theorem part_any (g base : Nat) (L : List (List UInt8)) (v : Value) (vs : List Value) (hL : L.length ≤ 250) (hv : Lv L) : ∀ (q s n : Nat) (w : World), n ≤ q → TreeM w g base (lvA L) v vs → Tabs w → 1 ≤ n → s + n ≤ L.length → Al s n →
    Calls Tryd.prog 92 #[.pointer (some ⟨g, 0, none⟩), .int .i64 (s : Int), .int .i64 (n : Int)] w fun e w' => e = .returned (.string (strB (rt (sg L s n)))) ∧ Below w.heap.size w w' := by
  intro q
  induction q with
  | zero => intro s n w hq _ _ h1; omega
  | succ q ih =>
    intro s n w hq h hT h1 hsn hal
    have H := Lib.hid h
    have HT := Lib.hid hT
    have IH := Lib.hid ih
    have HAL := Lib.hid hal
    have HLL := Lib.hid hL
    obtain ⟨b1, b2, b3, b4⟩ := pw_dec ⟨n, by omega⟩ h1
    have e0 : ((n : Int) == 0) = false := by rw [beq_eq_false_iff_ne]; omega
    simp only at b1 b2 b3 b4
    obtain ⟨b, hbd⟩ : ∃ b, b = Lib.bitLen n := ⟨_, rfl⟩
    have HB : Hid ((Lib.bitLen ((n : Int)).toNat : Int) = (b : Int)) := Lib.hid (by rw [Int.toNat_natCast, hbd])
    rw [← hbd] at b1 b2 b3 b4
    obtain ⟨l, hl⟩ : ∃ l, l = b - 1 := ⟨_, rfl⟩
    rw [← hl] at b3 b4
    have hr : (b : Int) - 1 = (l : Int) := by omega
    have hl8 : l ≤ 8 := by omega
    have HL8 : Hid (l ≤ 62) := Lib.hid (by omega)
    obtain ⟨pw, hpw⟩ : ∃ pw, pw = 2 ^ l := ⟨_, rfl⟩
    have HPW := Lib.hid hpw.symm
    rw [← hpw] at b3 b4
    have hnN : n ≤ 250 := by omega
    have hsN : s ≤ 250 := by omega
    clear b1 b2 hbd hl ih hal h hT
    by_cases hp : n = pw
    · have ep : ((n : Int) == (2 : Int) ^ l) = true := by rw [hp, hpw, Int.natCast_pow]; simp
      have hlN : l < nl L.length := pw_nl ⟨L.length, by omega⟩ ⟨l, by omega⟩ (by simp only; omega)
      have hlm : l < (lvA L).length := by rw [lvA_length]; exact hlN
      obtain ⟨gv, o, c, A, c', -, hcc, q0, q1, -, q4, -, -⟩ := tree_cells H.out hlm
      rw [lvA_get hlN, lvl_length] at q1 q4
      rw [lvA_length] at q0 hcc
      have hsp : s % 2 ^ l = 0 := Al.pow (by rw [← hpw, ← hp]; exact HAL.out)
      have hp0 : 0 < 2 ^ l := Nat.two_pow_pos l
      obtain ⟨i, hi⟩ : ∃ i, i = s / 2 ^ l := ⟨_, rfl⟩
      have his : i * 2 ^ l = s := by rw [hi]; exact Nat.div_mul_cancel (Nat.dvd_of_mod_eq_zero hsp)
      have hil : i < L.length / 2 ^ l := by
        rw [hi]
        have : s + 2 ^ l ≤ L.length := by omega
        have h2 := Nat.div_le_div_right (c := 2 ^ l) this
        rw [Nat.add_div_right _ hp0] at h2
        omega
      obtain ⟨kk, hkk⟩ : ∃ k, k = L.length / 2 ^ l := ⟨_, rfl⟩
      have hil' : i < (lvl L l).length := by rw [lvl_length]; exact hil
      rw [← hkk] at q1 q4 hil
      obtain ⟨g3, o3, c3, e3, _, hat⟩ := q4.at_ (by omega)
      cases e3
      have c4 := hat i _ (by rw [List.getElem?_map, List.getElem?_eq_getElem hil']; rfl)
      have ev : (lvl L l)[i] = rt (sg L s n) := by rw [hp, hpw]; simp [lvl, his]
      rw [ev] at c4
      obtain ⟨R, hR⟩ : ∃ R, R = rt (sg L s n) := ⟨_, rfl⟩
      rw [← hR] at c4 ⊢
      have c4 : w.cell? ⟨g3, o3 + i, none⟩ = some (.string (strB R)) := c4
      have hlm2 : (l : Int) < (nl L.length : Int) := by omega
      obtain ⟨m, hm⟩ : ∃ m, m = nl L.length := ⟨_, rfl⟩
      rw [← hm] at q0 hcc hlm2 hlN
      have hkk2 : kk ≤ 250 := by rw [hkk]; have := Nat.div_le_self L.length (2 ^ l); omega
      have hm9 : m ≤ 8 := by rw [hm]; exact (nl_pos _ (by omega)).2
      have hii : (i : Int) < (kk : Int) := by omega
      have hsh : (s : Int) / (2 : Int) ^ l = (i : Int) := by rw [hi, Int.natCast_ediv, Int.natCast_pow]; rfl
      clear hat q4 hil' ev hR hkk hsp hp0 hlm hm hp hpw hi his
      go_enter Tryd.func92, Tryd.ntmps92
      go_wp2_with (first
        | (go_at_call 78; refine (Tryd.bits_Len _ w (by omega) (by omega)).mono ?_; rintro e w1 ⟨rfl, hw⟩; rw [hw]; clear hw w1; rw [HB.out])
        | ((with_reducible show wpList _ _ _ (⟨some 18, _, _, _, _, _⟩ :: _) _ _); refine wpList_shlI _ rfl _ (.tmp 17) _ _ rfl l _ rfl rfl rfl HL8.out ?_))
      refine Text.wp_region_text (fun _ => True) [(0, 4), (1, 4), (2, 4), (4, 4), (7, 4), (8, 4), (9, 4), (3, 1), (5, 4), (6, 1), (10, 4), (11, 1), (12, 4)] (by kernel_rfl) (by kernel_rfl) (fun _ _ _ _ _ h => h) (trivial) ?_
      iterate 7 (refine Text.purek rfl rfl (fun K hK => ⟨_, fun w' => by go_simp <;> rfl, ?_⟩); go_simp; refine hK _ ?_; clear hK K)
      (refine Text.readk rfl rfl (fun K hK => ⟨_, by go_simp <;> rfl, ?_⟩); go_simp; refine hK _ ?_; clear hK K)
      (refine Text.purek rfl rfl (fun K hK => ⟨_, fun w' => by go_simp <;> rfl, ?_⟩); go_simp; refine hK _ ?_; clear hK K)
      (refine Text.readk rfl rfl (fun K hK => ⟨_, by go_simp <;> rfl, ?_⟩); go_simp; refine hK _ ?_; clear hK K)
      (refine Text.purek rfl rfl (fun K hK => ⟨_, fun w' => by go_simp <;> rfl, ?_⟩); go_simp; refine hK _ ?_; clear hK K)
      (refine Text.readk rfl rfl (fun K hK => ⟨_, by go_simp <;> rfl, ?_⟩); go_simp; refine hK _ ?_; clear hK K)
      (refine Text.purek rfl rfl (fun K hK => ⟨_, fun w' => by go_simp <;> rfl, ?_⟩); go_simp; refine hK _ ?_; clear hK K)
      refine Text.done ?_
      go_wp2_with fail
      go_ret
      exact ⟨rfl, (Below.refl _ _).drew⟩
    · have ep : ((n : Int) == (2 : Int) ^ l) = false := by
        rw [beq_eq_false_iff_ne]
        intro e9
        refine hp ?_
        rw [hpw]
        have : ((2 ^ l : Nat) : Int) = (2 : Int) ^ l := Int.natCast_pow 2 l
        omega
      have h3 := b4 hp
      obtain ⟨s1, s2, s3, _, _⟩ := spl_parts (n := n) (by omega) (by omega)
      have HSG := Lib.hid (sg_split (L := L) (s := s) (n := n) hsn (by omega) (by omega))
      have HA2 := Lib.hid (HAL.out.right (by omega) (by omega))
      obtain ⟨k, hk⟩ : ∃ k, k = spl n := ⟨_, rfl⟩
      rw [← hk] at s1 s2 s3 HSG HA2
      have HKS := Lib.hid hk.symm
      obtain ⟨sk, hsk⟩ : ∃ sk, sk = s + k := ⟨_, rfl⟩
      obtain ⟨nk, hnk⟩ : ∃ nk, nk = n - k := ⟨_, rfl⟩
      rw [← hsk, ← hnk] at HSG HA2
      have esk : (s : Int) + (k : Int) = (sk : Int) := by omega
      have enk : (n : Int) - (k : Int) = (nk : Int) := by omega
      have HA1 : Hid (Al s k) := Lib.hid (HAL.out.left (by omega))
      have HC1 : Hid (k ≤ q ∧ 1 ≤ k ∧ s + k ≤ L.length) := Lib.hid (by omega)
      have HC2 : Hid (nk ≤ q ∧ 1 ≤ nk ∧ sk + nk ≤ L.length) := Lib.hid (by omega)
      obtain ⟨R1, hR1⟩ : ∃ R, R = rt (sg L s k) := ⟨_, rfl⟩
      obtain ⟨R2, hR2⟩ : ∃ R, R = rt (sg L sk nk) := ⟨_, rfl⟩
      have HL1 : Hid (R1.length ≤ 1048576) := Lib.hid (by
        rw [hR1, rt_length (hv.sg _ _) (by rw [sg_length (by omega)]; omega) (by rw [sg_length (by omega)]; omega)]; decide)
      have HL2 : Hid (R2.length ≤ 1048576) := Lib.hid (by
        rw [hR2, rt_length (hv.sg _ _) (by rw [sg_length (by omega)]; omega) (by rw [sg_length (by omega)]; omega)]; decide)
      rw [← hR1, ← hR2] at HSG
      have HR1 := Lib.hid hR1.symm
      have HR2 := Lib.hid hR2.symm
      rw [HSG.out]
      clear hk hsk hnk hR1 hR2 hp hpw b3 b4
      go_enter Tryd.func92, Tryd.ntmps92
      go_wp2_with (first
        | (go_at_call 78; refine (Tryd.bits_Len _ w (by omega) (by omega)).mono ?_; rintro e w1 ⟨rfl, hw⟩; rw [hw]; clear hw w1; rw [HB.out])
        | ((with_reducible show wpList _ _ _ (⟨some 18, _, _, _, _, _⟩ :: _) _ _); refine wpList_shlI _ rfl _ (.tmp 17) _ _ rfl l _ rfl rfl rfl HL8.out ?_)
        | (go_at_call 96; refine (split_any n _ (by omega) (by omega)).mono ?_; rintro e w1 ⟨rfl, hw⟩; rw [hw]; clear hw w1; rw [HKS.out])
        | (go_at_call 92; (with_reducible show Calls _ _ _ w _); refine (IH.out s k w HC1.out.1 H.out HT.out HC1.out.2.1 HC1.out.2.2 HA1.out).mono ?_; rintro e w2 ⟨rfl, b1⟩; rw [HR1.out]; have HB2 := Lib.hid b1; clear b1)
        | (go_at_call 92; (with_reducible show Calls _ _ _ w2 _); refine (IH.out sk nk w2 HC2.out.1 (H.out.kept HB2.out) (HT.out.kept HB2.out) HC2.out.2.1 HC2.out.2.2 HA2.out).mono ?_; rintro e w3 ⟨rfl, b1⟩; rw [HR2.out]; have HB3 := Lib.hid (below_then HB2.out b1); clear b1)
        | (go_at_call 90; refine (node_any R1 R2 w3 (HT.out.kept HB3.out) HL1.out HL2.out).mono ?_; rintro e w4 ⟨rfl, b1⟩; have HB4 := Lib.hid (below_then HB3.out b1); clear b1))
      go_ret
      exact ⟨rfl, HB4.out⟩

/-- What path leaves: a list of strings of its own. -/
def PthR (l : List (List UInt8)) (w : World) (e : Ending) (w' : World) : Prop := ∃ v, e = .returned v ∧ OwnS w' w.heap.size v l.length l ∧ Below w.heap.size w w'

set_option maxRecDepth 100000 in
set_option maxHeartbeats 4000000 in
theorem path_any (g base : Nat) (L : List (List UInt8)) (v : Value) (vs : List Value) (hL : L.length ≤ 250) (hv : Lv L) : ∀ (q s n i : Nat) (w : World), n ≤ q → i < n → TreeM w g base (lvA L) v vs → Tabs w → 1 ≤ n → s + n ≤ L.length → Al s n →
    Calls Tryd.prog 91 #[.func (.func 92) #[.pointer (some ⟨g, 0, none⟩)] #[], .int .i64 (s : Int), .int .i64 (i : Int), .int .i64 (n : Int)] w (PthR (pth (sg L s n) i).reverse w) := by
  intro q
  induction q with
  | zero => intro s n i w hq _ _ _ h1; omega
  | succ q ih =>
    intro s n i w hq hi h hT h1 hsn hal
    have H := Lib.hid h
    have HT := Lib.hid hT
    have IH := Lib.hid ih
    have HAL := Lib.hid hal
    clear ih h hT hal
    by_cases hn1 : n = 1
    · subst hn1
      have hlen := sg_length (L := L) (s := s) (n := 1) hsn
      rw [pth_one hlen]
      clear hlen
      go_enter Tryd.func91, Tryd.ntmps91
      go_wp2_with fail
      go_ret
      exact ⟨_, rfl, ⟨RW.nil _ _ _, fun b hb => by cases hb⟩, Below.refl _ _⟩
    · have e1 : ((n : Int) == 1) = false := by rw [beq_eq_false_iff_ne]; omega
      obtain ⟨s1, s2, s3, _, _⟩ := spl_parts (n := n) (by omega) (by omega)
      rw [sg_pth hsn (by omega) (by omega)]
      have HA2 := Lib.hid (HAL.out.right (by omega) (by omega))
      obtain ⟨k, hk⟩ : ∃ k, k = spl n := ⟨_, rfl⟩
      rw [← hk] at s1 s2 s3 HA2 ⊢
      have HKS := Lib.hid hk.symm
      obtain ⟨sk, hsk⟩ : ∃ sk, sk = s + k := ⟨_, rfl⟩
      obtain ⟨nk, hnk⟩ : ∃ nk, nk = n - k := ⟨_, rfl⟩
      rw [← hsk, ← hnk] at HA2 ⊢
      have esk : (s : Int) + (k : Int) = (sk : Int) := by omega
      have enk : (n : Int) - (k : Int) = (nk : Int) := by omega
      have HA1 : Hid (Al s k) := Lib.hid (HAL.out.left (by omega))
      by_cases hlt : i < k
      · rw [if_pos hlt]
        have HC1 : Hid (k ≤ q ∧ i < k ∧ 1 ≤ k ∧ s + k ≤ L.length) := Lib.hid (by omega)
        have HC2 : Hid (1 ≤ nk ∧ sk + nk ≤ L.length) := Lib.hid (by omega)
        obtain ⟨P, hP⟩ : ∃ P, P = pth (sg L s k) i := ⟨_, rfl⟩
        have HLP : Hid (P.length ≤ 250) := Lib.hid (by
          rw [hP]
          have hlen := sg_length (L := L) (s := s) (n := k) (by omega)
          have h9 := pth_length (L := sg L s k) (by omega) (by omega) i (by omega)
          omega)
        rw [← hP]
        have HP := Lib.hid hP.symm
        obtain ⟨R, hR⟩ : ∃ R, R = rt (sg L sk nk) := ⟨_, rfl⟩
        rw [← hR]
        have HR := Lib.hid hR.symm
        clear hP hR hk hsk hnk s3
        go_enter Tryd.func91, Tryd.ntmps91
        go_wp2_with (first
          | (go_at_call 96; refine (split_any n _ (by omega) (by omega)).mono ?_; rintro e w1 ⟨rfl, hw⟩; rw [hw]; clear hw w1; rw [HKS.out])
          | (go_at_call 91; refine (IH.out s k i w HC1.out.1 HC1.out.2.1 H.out HT.out HC1.out.2.2.1 HC1.out.2.2.2 HA1.out).mono ?_; rintro e w2 ⟨v2, rfl, o2, b1⟩; rw [HP.out] at o2; rw [List.length_reverse] at o2; have HO2 := Lib.hid o2; have HB2 := Lib.hid b1; clear o2 b1)
          | (go_at_call 92; refine (part_any g base L v vs hL hv nk sk nk w2 (Nat.le_refl _) (H.out.kept HB2.out) (HT.out.kept HB2.out) HC2.out.1 HC2.out.2 HA2.out).mono ?_; rintro e w3 ⟨rfl, b1⟩; rw [HR.out]; have HX3 := Lib.hid b1; have HB3 := Lib.hid (below_then HB2.out b1); clear b1)
          | ((with_reducible show wpList _ _ _ (⟨some 30, _, _, _, _, _⟩ :: _) _ _); refine wpList_bslice _ rfl 61 9 1 _ rfl #[(0, .string (strB R))] (by rw [List.map_toArray]; rfl) [.string (strB R)] (bslS R _) ?_; intro w4 a1 a2 a3; have HG4 := Lib.hid a1; have HX4 := Lib.hid (below_then HX3.out a2); have HB4 := Lib.hid (below_then HB3.out a2); clear a1 a2 a3)
          | ((with_reducible show wpList _ _ _ (⟨some 31, _, _, _, _, _⟩ :: _) _ _); obtain ⟨iS, i1, i2, i3, i4⟩ := info_some infoStr; refine wpList_appRW _ rfl (.tmp 21) (.tmp 30) 61 9 1 iS _ rfl Tryd.underlying61 i1 i2 i3 rfl v2 P.length _ rfl (HO2.out.1.kept HX4.out) w3.heap.size [.string (strB R)] rfl HG4.out rfl (one_st R) (by rw [i4]; have := HLP.out; omega) (by have := HLP.out; omega) ?_; intro v5 w5 a1; have HAP := Lib.hid a1; clear a1 i1 i2 i3 i4))
        go_ret
        refine ⟨v5, rfl, ⟨?_, fun b hb => (HAP.out.own b hb).elim (fun h1 => HO2.out.2 b h1) (fun h1 => Nat.le_trans HB4.out.size h1)⟩, ?_⟩
        · have h9 := HAP.out.row
          rw [List.length_reverse, List.length_cons, List.reverse_cons, List.map_append]
          exact h9
        · exact ((Kp.of_below (S := fun _ => False) HB4.out).after HAP.out.kp (fun i hi e => by have := HO2.out.2 i e; omega)).below (Nat.le_refl _) (fun _ h => h.elim)
      · rw [if_neg hlt]
        obtain ⟨ik, hik⟩ : ∃ ik, ik = i - k := ⟨_, rfl⟩
        rw [← hik]
        have eik : (i : Int) - (k : Int) = (ik : Int) := by omega
        have HC1 : Hid (nk ≤ q ∧ ik < nk ∧ 1 ≤ nk ∧ sk + nk ≤ L.length) := Lib.hid (by omega)
        have HC2 : Hid (1 ≤ k ∧ s + k ≤ L.length) := Lib.hid (by omega)
        have hikn : ik < nk := by omega
        clear hik
        obtain ⟨P, hP⟩ : ∃ P, P = pth (sg L sk nk) ik := ⟨_, rfl⟩
        have HLP : Hid (P.length ≤ 250) := Lib.hid (by
          rw [hP]
          have hlen := sg_length (L := L) (s := sk) (n := nk) (by omega)
          have h9 := pth_length (L := sg L sk nk) (by omega) (by omega) ik (by omega)
          omega)
        rw [← hP]
        have HP := Lib.hid hP.symm
        obtain ⟨R, hR⟩ : ∃ R, R = rt (sg L s k) := ⟨_, rfl⟩
        rw [← hR]
        have HR := Lib.hid hR.symm
        clear hP hR hk hsk hnk s3
        go_enter Tryd.func91, Tryd.ntmps91
        go_wp2_with (first
          | (go_at_call 96; refine (split_any n _ (by omega) (by omega)).mono ?_; rintro e w1 ⟨rfl, hw⟩; rw [hw]; clear hw w1; rw [HKS.out])
          | (go_at_call 91; refine (IH.out sk nk ik w HC1.out.1 HC1.out.2.1 H.out HT.out HC1.out.2.2.1 HC1.out.2.2.2 HA2.out).mono ?_; rintro e w2 ⟨v2, rfl, o2, b1⟩; rw [HP.out] at o2; rw [List.length_reverse] at o2; have HO2 := Lib.hid o2; have HB2 := Lib.hid b1; clear o2 b1)
          | (go_at_call 92; refine (part_any g base L v vs hL hv k s k w2 (Nat.le_refl _) (H.out.kept HB2.out) (HT.out.kept HB2.out) HC2.out.1 HC2.out.2 HA1.out).mono ?_; rintro e w3 ⟨rfl, b1⟩; rw [HR.out]; have HX3 := Lib.hid b1; have HB3 := Lib.hid (below_then HB2.out b1); clear b1)
          | ((with_reducible show wpList _ _ _ (⟨some 47, _, _, _, _, _⟩ :: _) _ _); refine wpList_bslice _ rfl 61 9 1 _ rfl #[(0, .string (strB R))] (by rw [List.map_toArray]; rfl) [.string (strB R)] (bslS R _) ?_; intro w4 a1 a2 a3; have HG4 := Lib.hid a1; have HX4 := Lib.hid (below_then HX3.out a2); have HB4 := Lib.hid (below_then HB3.out a2); clear a1 a2 a3)
          | ((with_reducible show wpList _ _ _ (⟨some 48, _, _, _, _, _⟩ :: _) _ _); obtain ⟨iS, i1, i2, i3, i4⟩ := info_some infoStr; refine wpList_appRW _ rfl (.tmp 42) (.tmp 47) 61 9 1 iS _ rfl Tryd.underlying61 i1 i2 i3 rfl v2 P.length _ rfl (HO2.out.1.kept HX4.out) w3.heap.size [.string (strB R)] rfl HG4.out rfl (one_st R) (by rw [i4]; have := HLP.out; omega) (by have := HLP.out; omega) ?_; intro v5 w5 a1; have HAP := Lib.hid a1; clear a1 i1 i2 i3 i4))
        go_ret
        refine ⟨v5, rfl, ⟨?_, fun b hb => (HAP.out.own b hb).elim (fun h1 => HO2.out.2 b h1) (fun h1 => Nat.le_trans HB4.out.size h1)⟩, ?_⟩
        · have h9 := HAP.out.row
          rw [List.length_reverse, List.length_cons, List.reverse_cons, List.map_append]
          exact h9
        · exact ((Kp.of_below (S := fun _ => False) HB4.out).after HAP.out.kp (fun i hi e => by have := HO2.out.2 i e; omega)).below (Nat.le_refl _) (fun _ h => h.elim)

set_option maxRecDepth 100000 in
set_option maxHeartbeats 4000000 in
theorem tpath_any (g base : Nat) (L : List (List UInt8)) (v : Value) (vs : List Value) (i : Nat) (w : World) (hL : L.length ≤ 250) (hv : Lv L) (hi : i < L.length) (h : TreeM w g base (lvA L) v vs) (hT : Tabs w) :
    Calls Tryd.prog 67 #[.pointer (some ⟨g, 0, none⟩), .int .i64 (i : Int), .int .i64 (L.length : Int)] w fun e w' => ∃ v', e = .returned (.tuple #[v', .int .i64 0]) ∧ OwnS w' w.heap.size v' (pth L i).length (pth L i).reverse ∧ Below w.heap.size w w' := by
  have H := Lib.hid h
  have HT := Lib.hid hT
  have HPA := Lib.hid (path_any g base L v vs hL hv L.length 0 L.length i w (Nat.le_refl _) hi h hT (by omega) (by omega) (Al.all _))
  rw [sg_all] at HPA
  have HLL := Lib.hid hL
  have HLN := Lib.hid (tlen_any w g base L v vs h hL)
  obtain ⟨N, hN⟩ : ∃ N, N = L.length := ⟨_, rfl⟩
  rw [← hN] at hi HPA HLN ⊢
  have d1 : 1 ≤ (N : Int) := by omega
  clear h hT hN hL
  go_enter Tryd.func67, Tryd.ntmps67
  go_wp2_with (first
    | (go_at_call 89; refine HLN.out.mono ?_; rintro e w1 ⟨rfl, hw⟩; rw [hw]; clear hw w1)
    | (go_at_call 91; refine HPA.out.mono ?_; rintro e w2 ⟨v2, rfl, o2, b1⟩; rw [List.length_reverse] at o2; have HO2 := Lib.hid o2; have HB2 := Lib.hid b1; clear o2 b1))
  go_ret2
  exact ⟨_, rfl, HO2.out, HB2.out⟩
end Go.Proofs.YtgjgofjabdjclaaDoor
