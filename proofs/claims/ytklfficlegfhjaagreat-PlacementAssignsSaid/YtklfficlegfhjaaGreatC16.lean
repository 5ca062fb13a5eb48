/- Several texts in one: Jh, Ji, Jj, Kc, Kd, Ke. -/
import Derived.Test.YtklfficlegfhjaaGreatC15
import Derived.Test.YtklfficlegfhjaaGreatC5
import Derived.Test.YtklfficlegfhjaaGreatC11
/- A new search, as look wants it. -/
namespace Go.Proofs.YtklfficlegfhjaaGreat
open Go Go.RowKit Go.Shelf Go.WideMaps Go.ChangeMaps Gf Sha

def T0 (x : SX) (b : Nat) : Prop := b = x.g ∨ x.vl.ownBlock = some b ∨ b = x.gc
theorem wo_ok {w : Wt} {ps : List Pl} (hw : wtB w = true) : (∀ x ∈ withoutL w ps, wfI x) ∧ (withoutL w ps).length ≤ 16 := by
 simp [wtB] at hw
 refine ⟨fun x hx => ?_, ?_⟩
 ·
  have := upI_mem.1 (List.mem_filter.1 hx).1
  exact wfI_of (by omega) (by omega)
 ·
  refine Nat.le_trans (List.length_filter_le _ _) ?_
  rw [upI_length]; omega
section
variable {W W1 W3 : World} {x : SX} {gm : Nat} {csv : List Value} {A : Option Addr} {n c : Nat} {ws : List Wt} {m : Nat} {hs : List Hd} {ps : List Pl}
theorem NewS.laid (h : NewS W W1 x gm csv A n c ws m hs ps) (hw : LS rWt 4 40 W A n c ws) (hok : ∀ x ∈ hs, okHd x) (hm : m ≤ 12) (hn : n ≤ 8) (hl : hs.length = m) (hwt : ∀ w ∈ ws, wtB w = true) (hk : Kp (T0 x) W1 W3) :
  LS rWt 4 40 W3 x.Aw ws.length x.cw ws ∧ LS rHd 3 24 W3 x.Ah (prefL hs).length x.ch (prefL hs) ∧ MG Tryz.prog 90 odV (.bool false) W3 x.bm (fun y => .bool (hasAt ps y.1 y.2)) ∧ LS rIs 1 24 W3 x.Am ws.length x.cm (ws.map (fun w => withoutL w ps)) := by
 have hpl : (prefL hs).length = m := ((prefL_perm hs).length_eq).trans hl
 obtain ⟨ea, ec, _, _, em, ecm, _⟩ := h.xa
 have hbelow : Below W.heap.size W W3 := (h.b.trans (hk.below h.b.size (fun b hb => by
  rcases hb with rfl | hb | rfl
  ·
   exact h.z.1
  ·
   exact h.l.2 b hb
  ·
   exact h.z.2.2.2)))
 obtain rfl : ws.length = n := hw.1
 refine ⟨?_, ?_, h.m.kp hk (fun e => ?_), ?_⟩
 ·
  rw [ea, ec]; exact hw.kept stay_wt hbelow
 ·
  rw [hpl]
  refine hd_ls (h.h.kp hk (fun b hb e => ?_)) hpl (fun x hx => hok x ((prefL_perm hs).mem_iff.1 hx)) (by unfold lim; omega)
  rcases e with e | e | e
  ·
   exact h.h.ne_bl h.bg (by decide) b hb e
  ·
   obtain ⟨c1, b1⟩ := h.h.ty hb
   obtain ⟨c2, b2⟩ := h.l.1.ty e
   exact absurd (b1.ty b2) (by decide)
  ·
   exact h.h.ne_bl h.c (by decide) b hb e
 ·
  rcases e with e | e | e
  ·
   exact map_ne_bl h.m h.bg e
  ·
   obtain ⟨c2, b2⟩ := h.l.1.ty e
   exact map_ne_bl h.m b2 rfl
  ·
   exact map_ne_bl h.m h.c e
 ·
  rw [em, ecm]
  refine ⟨by rw [List.length_map], Nat.le_refl _, by unfold lim; omega, fun k hk' => ?_⟩
  rw [List.length_map] at hk'
  obtain ⟨v, e1, e2⟩ := h.mi.d k ws[k] hk' (List.getElem?_eq_getElem hk')
  have hgm : BL W3 gm 39 csv := hk.bl h.mi.b (fun e => by
   rcases e with e | e | e
   ·
    exact absurd (h.mi.b.ty (by rw [e]; exact h.bg)) (by decide)
   ·
    obtain ⟨c2, b2⟩ := h.l.1.ty e
    exact absurd (h.mi.b.ty b2) (by decide)
   ·
    exact h.ne e)
  have hv : RW W3 3 1 v (withoutL ws[k] ps).length (iL (withoutL ws[k] ps)) := e2.1.kp hk (fun b hb e => by
   rcases e with e | e | e
   ·
    exact e2.1.ne_bl h.bg (by decide) b hb e
   ·
    exact h.nl k ws[k] v b (List.getElem?_eq_getElem hk') e1 hb e
   ·
    exact e2.1.ne_bl h.c (by decide) b hb e)
  refine ⟨gm, 0, [v], rfl, fun j u hj => ?_, ?_⟩
  ·
   cases j with
   | zero =>
    have e9 : u = v := by simpa using hj.symm
    subst e9
    have := hgm.get e1
    simpa using this
   | succ j => simp at hj
  ·
   have hwo := wo_ok (ps := ps) (hwt ws[k] (List.getElem_mem hk'))
   obtain ⟨A9, c9, e9, _⟩ := hv.form
   subst e9
   refine ⟨A9, _, c9, rfl, ?_⟩
   rw [List.getElem_map]
   exact ints_ls hv rfl hwo.1 (by unfold lim; omega)
theorem NewS.src (h : NewS W W1 x gm csv A n c ws m hs ps) (hw : LS rWt 4 40 W A n c ws) (hok : ∀ x ∈ hs, okHd x) (hm : m ≤ 12) (hn : n ≤ 8) (hl : hs.length = m) (hwt : ∀ w ∈ ws, wtB w = true) {W2 : World} {T : Nat → Prop} (hk : Kp (· = x.g) W1 W2) (vs vf : Value) (hT0 : ∀ b, T0 x b → T b) (hT1 : ∀ b, T b → T0 x b ∨ W1.heap.size ≤ b) (hT2 : ∀ b, T b → b < W2.heap.size) :
  SrC W2 T { x with vs := vs, vf := vf } ws (prefL hs) ps := by
 have hk' : ∀ W3, Kp T W2 W3 → Kp (T0 x) W1 W3 := fun W3 h3 => (hk.mono (fun b _ e => .inl e)).after h3 (fun b hb e => by
  rcases hT1 b e with h9 | h9
  ·
   exact h9
  ·
   omega)
 exact ⟨fun W3 h3 => (h.laid hw hok hm hn hl hwt (hk' W3 h3)).1, fun W3 h3 => (h.laid hw hok hm hn hl hwt (hk' W3 h3)).2.1, fun W3 h3 => (h.laid hw hok hm hn hl hwt (hk' W3 h3)).2.2.1, fun W3 h3 => (h.laid hw hok hm hn hl hwt (hk' W3 h3)).2.2.2, hT0 _ (.inl rfl), hT0 _ (.inr (.inr rfl)), fun b hb => hT0 _ (.inr (.inl hb)), hT2⟩
theorem NewS.srv (h : NewS W W1 x gm csv A n c ws m hs ps) (hw : ws.length = n) (hl : hs.length = m) {W2 : World} {T : Nat → Prop} (hk : Kp (· = x.g) W1 W2) (vs vf : Value) (hb : BL W2 x.g 100 (sxL { x with vs := vs, vf := vf } n m 0)) :
  SrV W2 W2 T { x with vs := vs, vf := vf } ws (prefL hs) ((prefL hs).map (fun h => h.qt - usedI ws ps h.dv)) 0 := by
 have hpl : (prefL hs).length = m := ((prefL_perm hs).length_eq).trans hl
 refine ⟨Kp.refl _ _, by rw [hw, hpl]; exact hb, ?_⟩
 have h1 := h.l.1.kp hk (fun b hb e => h.l.1.ne_bl h.bg (by decide) b hb e)
 rw [List.length_map] at h1
 exact h1
end
end Go.Proofs.YtklfficlegfhjaaGreat
/- Possible. -/
namespace Go.Proofs.YtklfficlegfhjaaGreat
open Go Go.RowKit Go.Shelf Go.WideMaps Go.ChangeMaps Gf Sha

theorem budget_any (b : Int) (w : World) : Calls Tryz.prog 50 #[.int .i64 b] w fun e w' => e = .returned (.bool (budB b)) ∧ Below w.heap.size w w' := by
 unfold budB
 cases f1 : decide (1 ≤ b) with
 | false =>
  have f2 : decide (b ≥ 1) = false := f1
  go_enter Tryz.func50, Tryz.ntmps50
  go_wp2_with fail
  go_ret
  exact ⟨rfl, Below.refl _ _⟩
 | true =>
  have f2 : decide (b ≥ 1) = true := f1
  cases f3 : decide (b ≤ 1048576) with
  | false =>
   go_enter Tryz.func50, Tryz.ntmps50
   go_wp2_with fail
   go_ret
   exact ⟨rfl, Below.refl _ _⟩
  | true =>
   go_enter Tryz.func50, Tryz.ntmps50
   go_wp2_with fail
   go_ret
   exact ⟨rfl, Below.refl _ _⟩
section
set_option maxRecDepth 100000
set_option maxHeartbeats 4000000
theorem psizes_any (bw bx : Nat) (A : Option Addr) (n c : Nat) (ws : List Wt) (ex : Int) (i : Nat) (w : Wt) (hi : ws[i]? = some w) (fr : Int) (ps : List Pl) (W : World) (h : LS rWt 4 40 W A n c ws) (hbw : BL W bw 22 [.slice A n c]) (hbx : BL W bx 3 [.int .i64 ex]) (hw : wtB w = true) (hx : 0 ≤ ex ∧ ex ≤ 16) :
  Calls Tryz.prog 51 #[.int .i64 (i : Int), .int .i64 fr, .pointer (some ⟨bw, 0, none⟩), .pointer (some ⟨bx, 0, none⟩)] W fun e W' => e = .returned (.tuple #[.int .i64 (sizesP ps (some ex) w fr).1, .int .i64 (sizesP ps (some ex) w fr).2]) ∧ Below W.heap.size W W' := by
 obtain ⟨g, o, ea, hin, hat⟩ := h.wt_at (Below.refl _ _) hi
 subst ea
 have hin' : (i : Int) < (n : Int) := by omega
 have hd := hat 2 _ rfl
 have ht := hat 3 _ rfl
 have hb1 := hbw.get (j := 0) rfl
 have hb2 := hbx.get (j := 0) rfl
 have hwr : IntKind.i64.wrap (w.da + ex) = w.da + ex := by
  simp [wtB] at hw
  exact IntWalk.i64_in _ (by omega)
 have d1 : W.drew.cell? ⟨g, o + i * 4 + 2, none⟩ = some (.int .i64 w.da) := hd
 have d2 : W.drew.cell? ⟨g, o + i * 4 + 3, none⟩ = some (.int .i64 w.to) := ht
 have d3 : W.drew.cell? ⟨bw, 0, none⟩ = some (.slice (some ⟨g, o, none⟩) n c) := hb1
 have d4 : W.drew.cell? ⟨bx, 0, none⟩ = some (.int .i64 ex) := hb2
 clear hat hd ht hb1 hb2 h hbw hbx
 obtain ⟨S, hS⟩ : ∃ S, S = w.da + ex := ⟨_, rfl⟩
 have HS := Lib.hid hS
 have hwr2 : IntKind.i64.wrap (w.da + ex) = S := by rw [hwr, hS]
 clear hS hwr
 cases f1 : decide (S > w.to) with
 | true =>
  have HR : Hid (sizesP ps (some ex) w fr = (0, -1)) := Lib.hid (by show (if w.to < w.da + ex then ((0 : Int), (-1 : Int)) else (w.da + ex, w.da + ex)) = _; rw [if_pos (by have := of_decide_eq_true f1; have := HS.out; omega)])
  go_enter Tryz.func51, Tryz.ntmps51
  go_wp2_with fail
  refine Text.wp_region_text (fun _ => True) [(1, 4), (0, 1), (2, 4), (3, 4), (4, 1), (5, 1), (6, 4), (7, 4)] (by kernel_rfl) (by kernel_rfl) (fun _ _ _ _ _ h => h) (trivial) ?_
  (refine Text.purek rfl rfl (fun K hK => ⟨_, fun w' => by go_simp <;> rfl, ?_⟩); go_simp; refine hK _ ?_; clear hK K)
  (refine Text.readk rfl rfl (fun K hK => ⟨_, by go_simp <;> rfl, ?_⟩); go_simp; refine hK _ ?_; clear hK K)
  iterate 2 (refine Text.purek rfl rfl (fun K hK => ⟨_, fun w' => by go_simp <;> rfl, ?_⟩); go_simp; refine hK _ ?_; clear hK K)
  iterate 2 (refine Text.readk rfl rfl (fun K hK => ⟨_, by go_simp <;> rfl, ?_⟩); go_simp; refine hK _ ?_; clear hK K)
  iterate 2 (refine Text.purek rfl rfl (fun K hK => ⟨_, fun w' => by go_simp <;> rfl, ?_⟩); go_simp; refine hK _ ?_; clear hK K)
  refine Text.done ?_
  go_wp2_with fail
  go_ret2
  exact ⟨by rw [HR.out]; rfl, (Below.refl _ _).drew⟩
 | false =>
  have HR : Hid (sizesP ps (some ex) w fr = (S, S)) := Lib.hid (by show (if w.to < w.da + ex then ((0 : Int), (-1 : Int)) else (w.da + ex, w.da + ex)) = _; rw [if_neg (by have := of_decide_eq_false f1; have := HS.out; omega), HS.out])
  go_enter Tryz.func51, Tryz.ntmps51
  go_wp2_with fail
  refine Text.wp_region_text (fun _ => True) [(1, 4), (0, 1), (2, 4), (3, 4), (4, 1), (5, 1), (6, 4), (7, 4)] (by kernel_rfl) (by kernel_rfl) (fun _ _ _ _ _ h => h) (trivial) ?_
  (refine Text.purek rfl rfl (fun K hK => ⟨_, fun w' => by go_simp <;> rfl, ?_⟩); go_simp; refine hK _ ?_; clear hK K)
  (refine Text.readk rfl rfl (fun K hK => ⟨_, by go_simp <;> rfl, ?_⟩); go_simp; refine hK _ ?_; clear hK K)
  iterate 2 (refine Text.purek rfl rfl (fun K hK => ⟨_, fun w' => by go_simp <;> rfl, ?_⟩); go_simp; refine hK _ ?_; clear hK K)
  iterate 2 (refine Text.readk rfl rfl (fun K hK => ⟨_, by go_simp <;> rfl, ?_⟩); go_simp; refine hK _ ?_; clear hK K)
  iterate 2 (refine Text.purek rfl rfl (fun K hK => ⟨_, fun w' => by go_simp <;> rfl, ?_⟩); go_simp; refine hK _ ?_; clear hK K)
  refine Text.done ?_
  go_wp2_with fail
  go_ret2
  exact ⟨by rw [HR.out]; rfl, (Below.refl _ _).drew⟩
theorem pfound_any (gp : Nat) (b : Bool) (W : World) (h : BL W gp 4 [.bool b]) :
  Calls Tryz.prog 52 #[.pointer (some ⟨gp, 0, none⟩)] W fun e W' => e = .returned (.bool false) ∧ BL W' gp 4 [.bool true] ∧ Kp (· = gp) W W' := by
 have H := Lib.hid h
 clear h
 go_enter Tryz.func52, Tryz.ntmps52
 go_wp2_with (first
  | ((with_reducible show OpN); refine wpList_store1 _ rfl 4 (.tmp 0) (.const (.bool true)) rfl (sz1 _ (by kernel_rfl) _) gp 0 _ _ (.bool true) rfl rfl H.out rfl rfl (by simp) ?_; intro w5 a1 a2 a3; have HG5 : Hid (BL w5 gp 4 [.bool true]) := Lib.hid a1; have HK5 := Lib.hid a2; clear a1 a2 a3))
 go_ret
 exact ⟨rfl, HG5.out, HK5.out⟩
end
end Go.Proofs.YtklfficlegfhjaaGreat
/- Possible: the walk. -/
namespace Go.Proofs.YtklfficlegfhjaaGreat
open Go Go.RowKit Go.Shelf Go.WideMaps Go.ChangeMaps Gf Sha

/-- Blocks without ints may turn under a list of ints. -/
theorem LS.kpT {w w' : World} {A : Option Addr} {n c : Nat} {L : List Int} {S : Nat → Prop} (h : LS rInt 1 8 w A n c L) (hk : Kp S w w') (hS : ∀ b, S b → ∃ te l, BL w b te l ∧ ∀ (j : Nat) (i : Int), l[j]? ≠ some (.int .i64 i)) : LS rInt 1 8 w' A n c L := by
 refine ⟨h.1, h.2.1, h.2.2.1, fun k hk' => ?_⟩
 obtain ⟨g, o, cs, e, h1, h2⟩ := h.2.2.2 k hk'
 refine ⟨g, o, cs, e, fun j v hj => hk.cell (h1 j v hj) (fun hs => ?_), h2⟩
 obtain ⟨te, l, hb, hn⟩ := hS g hs
 obtain ⟨rfl, _⟩ := h2
 have h3 := h1 0 _ rfl
 have h4 : l[o + k * 1 + 0]? = some (.int .i64 L[k]) := by
  have h5 := World.cell?_of_block (w := w) (w' := w) (a := ⟨g, o + k * 1 + 0, none⟩) rfl
  have h6 : w.heap[g]? = _ := hb
  simp only [World.cell?, h6] at h3
  simpa using h3
 exact hn _ _ h4
theorem Chs.kpT {W W' : World} {gc nw : Nat} {R S : Nat → Prop} {cs : List (List Int)} (h : Chs W gc nw R cs) (hk : Kp S W W') (h1 : ¬ S gc) (hS : ∀ b, S b → ∃ te l, BL W b te l ∧ ∀ (j : Nat) (i : Int), l[j]? ≠ some (.int .i64 i)) : Chs W' gc nw R cs := by
 obtain ⟨csv, a, b, c⟩ := h
 refine ⟨csv, hk.bl a h1, b, fun j d hd => ?_⟩
 obtain ⟨A, n, k, e1, e2, e3⟩ := c j d hd
 exact ⟨A, n, k, e1, e2.kpT hk hS, fun b o e => ⟨(e3 b o e).1, Nat.lt_of_lt_of_le (e3 b o e).2 hk.size⟩⟩
def XP (gp : Nat) (s : Bool) (R : Nat → Prop) (W : World) : Prop := BL W gp 4 [.bool s] ∧ R gp
theorem sizesP_rng {ps : List Pl} {x : Int} {w : Wt} (hw : wtB w = true) (hx : 0 ≤ x ∧ x ≤ 16) (fr : Int) : (0 ≤ (sizesP ps (some x) w fr).1 ∧ (sizesP ps (some x) w fr).1 ≤ 100) ∧ -1 ≤ (sizesP ps (some x) w fr).2 ∧ (sizesP ps (some x) w fr).2 ≤ 100 := by
 simp [wtB] at hw
 by_cases h : w.to < w.da + x
 ·
  rw [show sizesP ps (some x) w fr = (0, -1) from if_pos h]; simp
 ·
  rw [show sizesP ps (some x) w fr = (w.da + x, w.da + x) from if_neg h]
  simp only
  omega
theorem wants_wt {ws : List Wt} (h : wantsB ws = true) : ∀ w ∈ ws, wtB w = true := fun w hw => by
 unfold wantsB at h
 simp only [Bool.and_eq_true, List.all_eq_true] at h
 exact h.1.2 w hw
theorem wants_8 {ws : List Wt} (h : wantsB ws = true) : ws.length ≤ 8 := by
 unfold wantsB at h
 simp only [Bool.and_eq_true, decide_eq_true_eq] at h
 exact h.1.1
theorem holders_12 {hs : List Hd} (h : holdersB hs = true) : hs.length ≤ 12 := by
 unfold holdersB at h
 simp only [Bool.and_eq_true, decide_eq_true_eq] at h
 exact h.1.1
theorem LS.okHd {w : World} {A : Option Addr} {n c : Nat} {hs : List Hd} (h : LS rHd 3 24 w A n c hs) : ∀ x ∈ hs, okHd x := fun x hx => by
 obtain ⟨k, hk, rfl⟩ := List.getElem_of_mem hx
 obtain ⟨y, g, o, cs, hy, _, _, hr⟩ := h.elem_at (k := k) (by rw [← h.1]; exact hk)
 rw [List.getElem?_eq_getElem hk] at hy
 cases hy
 exact hr.2
theorem left0_ok {ws : List Wt} {hs : List Hd} {ps : List Pl} (hh : holdersB hs = true) (hu : ∀ x ∈ hs, 0 ≤ usedI ws ps x.dv ∧ usedI ws ps x.dv ≤ x.qt) : LOk (left0 ws hs ps) := fun v hv => by
 unfold left0 at hv
 obtain ⟨x, hx, rfl⟩ := List.mem_map.1 hv
 have hx' := (prefL_perm hs).mem_iff.1 hx
 have h1 := hu x hx'
 unfold holdersB at hh
 simp only [Bool.and_eq_true, List.all_eq_true] at hh
 have := hh.1.2 x hx'
 simp [hdB] at this
 omega
theorem poss_rnc {W W1 W2 : World} {x : SX} {gm : Nat} {csv : List Value} {A : Option Addr} {n c : Nat} {ws : List Wt} {m : Nat} {hs : List Hd} (h : NewS W W1 x gm csv A n c ws m hs []) (hw : LS rWt 4 40 W A n c ws) (hok : ∀ x ∈ hs, okHd x) (hl : hs.length = m) (hwb : wantsB ws = true) (hhb : holdersB hs = true)
  {bw bx gp : Nat} {ex : Int} (hbw : BL W bw 22 [.slice A n c]) (hbx : BL W bx 3 [.int .i64 ex]) (hex : 0 ≤ ex ∧ ex ≤ 16) (hk : Kp (· = x.g) W1 W2) (hgp : W1.heap.size ≤ gp ∧ gp < W2.heap.size) :
  RnC W2 (fun b => T0 x b ∨ b = gp) { x with vs := .func (.func 51) #[] #[.pointer (some ⟨bw, 0, none⟩), .pointer (some ⟨bx, 0, none⟩)], vf := .func (.func 52) #[] #[.pointer (some ⟨gp, 0, none⟩)] } ws (prefL hs) [] (some ex)
   51 #[.pointer (some ⟨bw, 0, none⟩), .pointer (some ⟨bx, 0, none⟩)] 52 #[.pointer (some ⟨gp, 0, none⟩)] fdP (XP gp) (· = gp) := by
 have hn8 := wants_8 hwb
 have hm12 := holders_12 hhb
 have hpl : (prefL hs).length = m := ((prefL_perm hs).length_eq).trans hl
 have hnl := hw.1
 have hT0 : ∀ b, T0 x b → W.heap.size ≤ b ∧ b < W1.heap.size := fun b hb => by
  rcases hb with rfl | hb | rfl
  ·
   exact ⟨h.z.1, h.bg.lt⟩
  ·
   exact ⟨h.l.2 b hb, h.l.1.lt hb⟩
  ·
   exact ⟨h.z.2.2.2, h.c.lt⟩
 have hsz := h.b.size
 have hbel : ∀ W3, Kp (fun b => T0 x b ∨ b = gp) W2 W3 → Below W.heap.size W W3 := fun W3 h3 => h.b.trans ((Kp.trans (hk.mono (S' := fun b => T0 x b ∨ b = gp) (fun b _ e => .inl (.inl e))) h3).below h.b.size (fun b hb => by
  rcases hb with hb | hb
  ·
   exact (hT0 b hb).1
  ·
   omega))
 have hk2 := hk.size
 refine ⟨h.src hw hok (by omega) (by omega) hl (wants_wt hwb) hk _ _ (fun b hb => .inl hb) (fun b hb => hb.imp id (fun e => by omega)) (fun b hb => ?_), hn8, by omega, fun w hm => ?_, rfl, enters_of Tryz.func51 (by kernel_rfl) rfl, rfl, enters_of Tryz.func52 (by kernel_rfl) rfl, fun i w left hi => sizesP_rng (wants_wt hwb w (List.mem_of_getElem? hi)) hex _, ?_, ?_, ?_, ?_, ?_⟩
 ·
  rcases hb with hb | hb
  ·
   have := (hT0 b hb).2; omega
  ·
   omega
 ·
  have := wants_wt hwb w hm
  simp [wtB] at this
  omega
 ·
  intro W3 left k i w hi hv
  have h3 := hbel W3 hv.kp
  exact psizes_any bw bx A n c ws ex i w hi _ [] W3 (hw.kept stay_wt h3) (hbw.kept h3) (hbx.kept h3) (wants_wt hwb w (List.mem_of_getElem? hi)) hex
 ·
  intro s R S W3 W4 hx hk3 hn
  exact ⟨hk3.bl hx.1 (hn gp hx.2), hx.2⟩
 ·
  intro s R R' W3 hx hm
  exact ⟨hx.1, hm gp hx.2 hx.1.lt⟩
 ·
  rintro b rfl
  refine ⟨.inr rfl, fun e => ?_, fun e => ?_, fun e => ?_⟩
  ·
   have := (hT0 b (.inl e)).2; omega
  ·
   have := (hT0 b (.inr (.inl e))).2; omega
  ·
   have := (hT0 b (.inr (.inr e))).2; omega
 ·
  intro W3 left k cs s R hcs hv hC hX hR
  refine (pfound_any gp s W3 hX.1).mono ?_
  rintro e W4 ⟨rfl, r1, r2⟩
  refine ⟨rfl, ⟨r1, .inl hX.2⟩, hC.kpT r2 (fun e => ?_) (fun b hb => ?_), r2⟩
  ·
   have := (hT0 x.gc (.inr (.inr rfl))).2
   have e' : x.gc = gp := e
   omega
  ·
   subst hb
   refine ⟨_, _, hX.1, fun j i hj => ?_⟩
   cases j with
   | zero => simp at hj
   | succ j => simp at hj
/-- What Possible answers. -/
def possV (ws : List Wt) (hs : List Hd) (ex bu : Int) : Bool × Int :=
 if wantsB ws = true ∧ holdersB hs = true ∧ 0 ≤ ex ∧ ex ≤ 16 ∧ budB bu = true then possP ws hs ex bu.toNat else (false, 1)
theorem szFn : (Tryz.prog.info? 98).map (·.size) = some 1 := by kernel_rfl
theorem szFf : (Tryz.prog.info? 26).map (·.size) = some 1 := by kernel_rfl
section
set_option maxRecDepth 100000
set_option maxHeartbeats 4000000
theorem possible_any (A : Option Addr) (n c : Nat) (ws : List Wt) (B : Option Addr) (m d : Nat) (hs : List Hd) (ex bu : Int) (w : World) (h : LS rWt 4 40 w A n c ws) (hh : LS rHd 3 24 w B m d hs) :
  Calls Tryz.prog 24 #[.slice A n c, .slice B m d, .int .i64 ex, .int .i64 bu] w fun e w' => e = .returned (.tuple #[.bool (possV ws hs ex bu).1, .int .i64 (possV ws hs ex bu).2]) ∧ Below w.heap.size w w' := by
 have H := Lib.hid h
 have HH := Lib.hid hh
 clear h hh
 by_cases hall : wantsB ws = true ∧ holdersB hs = true ∧ 0 ≤ ex ∧ ex ≤ 16 ∧ budB bu = true
 ·
  have HN : Hid (possV ws hs ex bu = possP ws hs ex bu.toNat) := Lib.hid (if_pos hall)
  obtain ⟨f1, f2, g3, g4, f5⟩ := hall
  have f3 : decide (ex < 0) = false := decide_eq_false (by omega)
  have f4 : decide (ex > 16) = false := decide_eq_false (by omega)
  have HE : Hid (0 ≤ ex ∧ ex ≤ 16) := Lib.hid ⟨g3, g4⟩
  have HW := Lib.hid f1
  have HD := Lib.hid f2
  clear g3 g4
  have hbu : 1 ≤ bu ∧ bu ≤ 1048576 := by unfold budB at f5; simpa using f5
  obtain ⟨b, rfl⟩ : ∃ b : Nat, bu = (b : Int) := ⟨bu.toNat, by omega⟩
  have HBU : Hid (b ≤ 1048576) := Lib.hid (by omega)
  clear hbu
  rw [Int.toNat_natCast] at HN
  go_enter Tryz.func24, Tryz.ntmps24
  go_wp2_with (first
   | ((with_reducible show OpW 4); refine wpList_box1 _ rfl 22 (.tmp 0) rfl (.slice A n c) rfl rfl ?_; intro w1 a1 a2 a3; have HV1 := Lib.hid a1; have HX1 := Lib.hid a2; clear a1 a2 a3)
   | ((with_reducible show OpW 6); refine wpList_box1 _ rfl 3 (.tmp 2) rfl (.int .i64 ex) rfl rfl ?_; intro w2 a1 a2 a3; have HV2 := Lib.hid a1; have HX2 := Lib.hid (below_then HX1.out a2); have HS2 := Lib.hid (HV1.out.kept a2); have q4 := HS2.out.get (j := 0) rfl; clear a1 a2 a3)
   | (go_at_call 41; refine (wants_any A n c ws w2 (H.out.kept stay_wt HX2.out)).mono ?_; rintro e va ⟨rfl, b1⟩; rw [f1]; have HBA := Lib.hid (below_then HX2.out b1); have HSA := Lib.hid (HS2.out.kept b1); have HVA := Lib.hid (HV2.out.kept b1); clear b1)
   | (go_at_call 42; refine (holders_any B m d hs va (HH.out.kept stay_hd HBA.out)).mono ?_; rintro e vb ⟨rfl, b1⟩; rw [f2]; have HBB := Lib.hid (below_then HBA.out b1); have HSB := Lib.hid (HSA.out.kept b1); have HVB := Lib.hid (HVA.out.kept b1); have q6 := HVB.out.get (j := 0) rfl; have q7 := HSB.out.get (j := 0) rfl; clear b1)
   | (go_at_call 50; refine (budget_any _ vb).mono ?_; rintro e vc ⟨rfl, b1⟩; rw [f5]; have HBC := Lib.hid (below_then HBB.out b1); have HSC := Lib.hid (HSB.out.kept b1); have HVC := Lib.hid (HVB.out.kept b1); have q8 := HSC.out.get (j := 0) rfl; clear b1)
   | (go_at_call 46; refine (newSearch_any A n c ws B m d hs none 0 0 [] vc (H.out.kept stay_wt HBC.out) (HH.out.kept stay_hd HBC.out) LS.nil HW.out HD.out (by decide)).mono ?_; rintro e W1 ⟨x, gm, csv, rfl, hns⟩; have HNS := Lib.hid hns; clear hns)
   | ((with_reducible show OpN); refine wpList_store1 _ rfl 98 (.tmp 39) (.tmp 37) rfl (sz1 _ szFn _) x.g 6 _ _ (.func (.func 51) #[] #[.pointer (some ⟨w.heap.size, 0, none⟩), .pointer (some ⟨w1.heap.size, 0, none⟩)]) rfl rfl HNS.out.bg rfl rfl (by simp) ?_; intro W2 a1 a2 a3; have HG2 := Lib.hid a1; have HK2 := Lib.hid a2; clear a1 a2 a3)
   | ((with_reducible show OpW 11); refine wpList_alloc1 _ rfl 4 rfl (.bool false) boolZ1 rfl ?_; intro W3 a1 a2 a3; have HP3 := Lib.hid a1; have HG3 := Lib.hid (HG2.out.kept a2); have HK3 := Lib.hid (HK2.out.then a2); clear a1 a2 a3)
   | ((with_reducible show OpN); refine wpList_store1 _ rfl 4 (.tmp 11) (.const (.bool false)) rfl (sz1 _ (by kernel_rfl) _) W2.heap.size 0 _ _ (.bool false) rfl rfl HP3.out rfl rfl (by simp) ?_; intro W4 a1 a2 a3; have HP4 : Hid (BL W4 W2.heap.size 4 [.bool false]) := Lib.hid a1; have HG4 := Lib.hid (a2.bl HG3.out (fun e => by have := HG2.out.lt; omega)); have HK4 : Hid (Kp (· = x.g) W1 W4) := Lib.hid (HK3.out.after a2 (fun b hb e => by have := HK2.out.size; omega)); clear a1 a2 a3)
   | ((with_reducible show OpN); refine wpList_store1 _ rfl 26 (.tmp 43) (.tmp 41) rfl (sz1 _ szFf _) x.g 7 _ _ (.func (.func 52) #[] #[.pointer (some ⟨W2.heap.size, 0, none⟩)]) rfl rfl HG4.out rfl rfl (by simp) ?_; intro W5 a1 a2 a3; have HG5 := Lib.hid a1; have HK5 := Lib.hid (HK4.out.trans a2); have HP5 : Hid (BL W5 W2.heap.size 4 [.bool false]) := Lib.hid (a2.bl HP4.out (fun e => by have := HG2.out.lt; omega)); clear a1 a2 a3))
  have hnew := poss_rnc HNS.out (H.out.kept stay_wt HBC.out) (LS.okHd HH.out) HH.out.1 HW.out HD.out (bw := w.heap.size) (bx := w1.heap.size) (gp := W2.heap.size) (ex := ex) HSC.out HVC.out HE.out HK5.out ⟨HK2.out.size, HP5.out.lt⟩
  have hq0 : ∀ y ∈ hs, 0 ≤ usedI ws [] y.dv ∧ usedI ws [] y.dv ≤ y.qt := fun y hy => (ok_nil HW.out HD.out).q y hy |> fun h9 => ⟨Int.le_refl _, h9⟩
  have hcs : Chs W5 x.gc ws.length (· = W2.heap.size) [] := ⟨_, HK5.out.bl HNS.out.c (fun e => absurd (HNS.out.c.ty (by rw [show x.gc = x.g from e]; exact HNS.out.bg)) (by decide)), by rw [List.length_replicate, H.out.1], fun j d hd => by simp at hd⟩
  have hTl : ∀ b, T0 x b → b < W1.heap.size := fun b hb => by
   rcases hb with rfl | hb | rfl
   ·
    exact HNS.out.bg.lt
   ·
    exact HNS.out.l.1.lt hb
   ·
    exact HNS.out.c.lt
  have hz2 := HK2.out.size
  have hrun := run_any hnew (left0 ws hs []) false (· = W2.heap.size) W5 (budget := b) (left0_ok HD.out hq0) (HNS.out.srv H.out.1 HH.out.1 HK5.out _ _ HG5.out) hcs ⟨HP5.out, rfl⟩ (fun b hb => by
   subst hb
   refine ⟨HP5.out.lt, fun e => ?_, fun e => ?_, fun e => ?_⟩
   ·
    have := hTl _ (.inl e); omega
   ·
    have := hTl _ (.inr (.inl e)); omega
   ·
    have := hTl _ (.inr (.inr e)); omega) (by have := HBU.out; omega)
  obtain ⟨r, hr⟩ : ∃ r, r = (plook (choP (prefL hs) [] (some ex)) fdP b ws [] (left0 ws hs []) ⟨0, true, false⟩).2 := ⟨_, rfl⟩
  rw [← hr] at hrun
  have HPR : Hid (possP ws hs ex b = if r.wi then (r.x, 0) else (false, 11)) := Lib.hid (by rw [hr]; rfl)
  refine hrun.mono ?_
  rintro e W6 ⟨rfl, r1, r2, r3⟩
  have q9 := r2.1.get (j := 0) rfl
  have HB6 : Hid (Below w.heap.size w W6) := Lib.hid (below_then HBC.out (HNS.out.b.trans ((Kp.trans (HK5.out.mono (S' := fun b => T0 x b ∨ b = W2.heap.size) (fun b _ e => .inl (.inl e))) r3).below HNS.out.b.size (fun b hb => by
   rcases hb with hb | hb
   ·
    rcases hb with rfl | hb | rfl
    ·
     exact HNS.out.z.1
    ·
     exact HNS.out.l.2 b hb
    ·
     exact HNS.out.z.2.2.2
   ·
    have := HNS.out.b.size; omega))))
  clear hnew hcs hrun r1 r2 r3 hr hTl hz2 hq0
  cases hwi : r.wi with
  | true =>
   go_wp2_with fail
   go_ret2
   exact ⟨by rw [HN.out, HPR.out, hwi]; rfl, HB6.out⟩
  | false =>
   go_wp2_with fail
   go_ret2
   exact ⟨by rw [HN.out, HPR.out, hwi]; rfl, HB6.out⟩
 ·
  have HN : Hid (possV ws hs ex bu = (false, 1)) := Lib.hid (if_neg hall)
  cases f1 : wantsB ws with
  | false =>
   clear hall
   rw [HN.out]
   go_enter Tryz.func24, Tryz.ntmps24
   go_wp2_with (first
    | ((with_reducible show OpW 4); refine wpList_box1 _ rfl 22 (.tmp 0) rfl (.slice A n c) rfl rfl ?_; intro w1 a1 a2 a3; have HV1 := Lib.hid a1; have HX1 := Lib.hid a2; clear a1 a2 a3)
    | ((with_reducible show OpW 6); refine wpList_box1 _ rfl 3 (.tmp 2) rfl (.int .i64 ex) rfl rfl ?_; intro w2 a1 a2 a3; have HV2 := Lib.hid a1; have HX2 := Lib.hid (below_then HX1.out a2); have HS2 := Lib.hid (HV1.out.kept a2); have q4 := HS2.out.get (j := 0) rfl; clear a1 a2 a3)
    | (go_at_call 41; refine (wants_any A n c ws w2 (H.out.kept stay_wt HX2.out)).mono ?_; rintro e va ⟨rfl, b1⟩; rw [f1]; have HBA := Lib.hid (below_then HX2.out b1); have HSA := Lib.hid (HS2.out.kept b1); have HVA := Lib.hid (HV2.out.kept b1); clear b1)
    | (go_at_call 42; refine (holders_any B m d hs va (HH.out.kept stay_hd HBA.out)).mono ?_; rintro e vb ⟨rfl, b1⟩; rw [f2]; have HBB := Lib.hid (below_then HBA.out b1); have HSB := Lib.hid (HSA.out.kept b1); have HVB := Lib.hid (HVA.out.kept b1); have q6 := HVB.out.get (j := 0) rfl; have q7 := HSB.out.get (j := 0) rfl; clear b1)
    | (go_at_call 50; refine (budget_any _ vb).mono ?_; rintro e vc ⟨rfl, b1⟩; rw [f5]; have HBC := Lib.hid (below_then HBB.out b1); have HSC := Lib.hid (HSB.out.kept b1); have HVC := Lib.hid (HVB.out.kept b1); have q8 := HSC.out.get (j := 0) rfl; clear b1)
    | fail)
   go_ret2
   exact ⟨rfl, HBA.out⟩
  | true =>
   cases f2 : holdersB hs with
   | false =>
    clear hall
    rw [HN.out]
    go_enter Tryz.func24, Tryz.ntmps24
    go_wp2_with (first
     | ((with_reducible show OpW 4); refine wpList_box1 _ rfl 22 (.tmp 0) rfl (.slice A n c) rfl rfl ?_; intro w1 a1 a2 a3; have HV1 := Lib.hid a1; have HX1 := Lib.hid a2; clear a1 a2 a3)
     | ((with_reducible show OpW 6); refine wpList_box1 _ rfl 3 (.tmp 2) rfl (.int .i64 ex) rfl rfl ?_; intro w2 a1 a2 a3; have HV2 := Lib.hid a1; have HX2 := Lib.hid (below_then HX1.out a2); have HS2 := Lib.hid (HV1.out.kept a2); have q4 := HS2.out.get (j := 0) rfl; clear a1 a2 a3)
     | (go_at_call 41; refine (wants_any A n c ws w2 (H.out.kept stay_wt HX2.out)).mono ?_; rintro e va ⟨rfl, b1⟩; rw [f1]; have HBA := Lib.hid (below_then HX2.out b1); have HSA := Lib.hid (HS2.out.kept b1); have HVA := Lib.hid (HV2.out.kept b1); clear b1)
     | (go_at_call 42; refine (holders_any B m d hs va (HH.out.kept stay_hd HBA.out)).mono ?_; rintro e vb ⟨rfl, b1⟩; rw [f2]; have HBB := Lib.hid (below_then HBA.out b1); have HSB := Lib.hid (HSA.out.kept b1); have HVB := Lib.hid (HVA.out.kept b1); have q6 := HVB.out.get (j := 0) rfl; have q7 := HSB.out.get (j := 0) rfl; clear b1)
     | (go_at_call 50; refine (budget_any _ vb).mono ?_; rintro e vc ⟨rfl, b1⟩; rw [f5]; have HBC := Lib.hid (below_then HBB.out b1); have HSC := Lib.hid (HSB.out.kept b1); have HVC := Lib.hid (HVB.out.kept b1); have q8 := HSC.out.get (j := 0) rfl; clear b1)
     | fail)
    go_ret2
    exact ⟨rfl, HBB.out⟩
   | true =>
    cases f3 : decide (ex < 0) with
    | true =>
     clear hall
     rw [HN.out]
     go_enter Tryz.func24, Tryz.ntmps24
     go_wp2_with (first
      | ((with_reducible show OpW 4); refine wpList_box1 _ rfl 22 (.tmp 0) rfl (.slice A n c) rfl rfl ?_; intro w1 a1 a2 a3; have HV1 := Lib.hid a1; have HX1 := Lib.hid a2; clear a1 a2 a3)
      | ((with_reducible show OpW 6); refine wpList_box1 _ rfl 3 (.tmp 2) rfl (.int .i64 ex) rfl rfl ?_; intro w2 a1 a2 a3; have HV2 := Lib.hid a1; have HX2 := Lib.hid (below_then HX1.out a2); have HS2 := Lib.hid (HV1.out.kept a2); have q4 := HS2.out.get (j := 0) rfl; clear a1 a2 a3)
      | (go_at_call 41; refine (wants_any A n c ws w2 (H.out.kept stay_wt HX2.out)).mono ?_; rintro e va ⟨rfl, b1⟩; rw [f1]; have HBA := Lib.hid (below_then HX2.out b1); have HSA := Lib.hid (HS2.out.kept b1); have HVA := Lib.hid (HV2.out.kept b1); clear b1)
      | (go_at_call 42; refine (holders_any B m d hs va (HH.out.kept stay_hd HBA.out)).mono ?_; rintro e vb ⟨rfl, b1⟩; rw [f2]; have HBB := Lib.hid (below_then HBA.out b1); have HSB := Lib.hid (HSA.out.kept b1); have HVB := Lib.hid (HVA.out.kept b1); have q6 := HVB.out.get (j := 0) rfl; have q7 := HSB.out.get (j := 0) rfl; clear b1)
      | (go_at_call 50; refine (budget_any _ vb).mono ?_; rintro e vc ⟨rfl, b1⟩; rw [f5]; have HBC := Lib.hid (below_then HBB.out b1); have HSC := Lib.hid (HSB.out.kept b1); have HVC := Lib.hid (HVB.out.kept b1); have q8 := HSC.out.get (j := 0) rfl; clear b1)
      | fail)
     go_ret2
     exact ⟨rfl, HBB.out⟩
    | false =>
     cases f4 : decide (ex > 16) with
     | true =>
      clear hall
      rw [HN.out]
      go_enter Tryz.func24, Tryz.ntmps24
      go_wp2_with (first
       | ((with_reducible show OpW 4); refine wpList_box1 _ rfl 22 (.tmp 0) rfl (.slice A n c) rfl rfl ?_; intro w1 a1 a2 a3; have HV1 := Lib.hid a1; have HX1 := Lib.hid a2; clear a1 a2 a3)
       | ((with_reducible show OpW 6); refine wpList_box1 _ rfl 3 (.tmp 2) rfl (.int .i64 ex) rfl rfl ?_; intro w2 a1 a2 a3; have HV2 := Lib.hid a1; have HX2 := Lib.hid (below_then HX1.out a2); have HS2 := Lib.hid (HV1.out.kept a2); have q4 := HS2.out.get (j := 0) rfl; clear a1 a2 a3)
       | (go_at_call 41; refine (wants_any A n c ws w2 (H.out.kept stay_wt HX2.out)).mono ?_; rintro e va ⟨rfl, b1⟩; rw [f1]; have HBA := Lib.hid (below_then HX2.out b1); have HSA := Lib.hid (HS2.out.kept b1); have HVA := Lib.hid (HV2.out.kept b1); clear b1)
       | (go_at_call 42; refine (holders_any B m d hs va (HH.out.kept stay_hd HBA.out)).mono ?_; rintro e vb ⟨rfl, b1⟩; rw [f2]; have HBB := Lib.hid (below_then HBA.out b1); have HSB := Lib.hid (HSA.out.kept b1); have HVB := Lib.hid (HVA.out.kept b1); have q6 := HVB.out.get (j := 0) rfl; have q7 := HSB.out.get (j := 0) rfl; clear b1)
       | (go_at_call 50; refine (budget_any _ vb).mono ?_; rintro e vc ⟨rfl, b1⟩; rw [f5]; have HBC := Lib.hid (below_then HBB.out b1); have HSC := Lib.hid (HSB.out.kept b1); have HVC := Lib.hid (HVB.out.kept b1); have q8 := HSC.out.get (j := 0) rfl; clear b1)
       | fail)
      go_ret2
      exact ⟨rfl, HBB.out⟩
     | false =>
      have f5 : budB bu = false := by
       rw [← Bool.not_eq_true]
       intro h5
       have h3 := of_decide_eq_false f3
       have h4 := of_decide_eq_false f4
       exact hall ⟨f1, f2, by omega, by omega, h5⟩
      clear hall
      rw [HN.out]
      go_enter Tryz.func24, Tryz.ntmps24
      go_wp2_with (first
       | ((with_reducible show OpW 4); refine wpList_box1 _ rfl 22 (.tmp 0) rfl (.slice A n c) rfl rfl ?_; intro w1 a1 a2 a3; have HV1 := Lib.hid a1; have HX1 := Lib.hid a2; clear a1 a2 a3)
       | ((with_reducible show OpW 6); refine wpList_box1 _ rfl 3 (.tmp 2) rfl (.int .i64 ex) rfl rfl ?_; intro w2 a1 a2 a3; have HV2 := Lib.hid a1; have HX2 := Lib.hid (below_then HX1.out a2); have HS2 := Lib.hid (HV1.out.kept a2); have q4 := HS2.out.get (j := 0) rfl; clear a1 a2 a3)
       | (go_at_call 41; refine (wants_any A n c ws w2 (H.out.kept stay_wt HX2.out)).mono ?_; rintro e va ⟨rfl, b1⟩; rw [f1]; have HBA := Lib.hid (below_then HX2.out b1); have HSA := Lib.hid (HS2.out.kept b1); have HVA := Lib.hid (HV2.out.kept b1); clear b1)
       | (go_at_call 42; refine (holders_any B m d hs va (HH.out.kept stay_hd HBA.out)).mono ?_; rintro e vb ⟨rfl, b1⟩; rw [f2]; have HBB := Lib.hid (below_then HBA.out b1); have HSB := Lib.hid (HSA.out.kept b1); have HVB := Lib.hid (HVA.out.kept b1); have q6 := HVB.out.get (j := 0) rfl; have q7 := HSB.out.get (j := 0) rfl; clear b1)
       | (go_at_call 50; refine (budget_any _ vb).mono ?_; rintro e vc ⟨rfl, b1⟩; rw [f5]; have HBC := Lib.hid (below_then HBB.out b1); have HSC := Lib.hid (HSB.out.kept b1); have HVC := Lib.hid (HVB.out.kept b1); have q8 := HSC.out.get (j := 0) rfl; clear b1)
       | fail)
      go_ret2
      exact ⟨rfl, HBC.out⟩
end
end Go.Proofs.YtklfficlegfhjaaGreat
/- slices.Sort of ints of the call's own; surpluses; slices.Compare of ints. -/
namespace Go.Proofs.YtklfficlegfhjaaGreat
open Go Go.RowKit Go.Shelf Go.WideMaps Go.ChangeMaps Go.Sort Gf Sha

theorem putCells_sizeI (o : Nat) (d : Array Int) (cur : Array Value) : (putCells (Value.int .i64) o d cur).size = cur.size := by simp [putCells]
theorem putCells_rowI (cur : Array Value) (o : Nat) (ts : List Int) (h : o + ts.length ≤ cur.size) : ((putCells (Value.int .i64) o ts.toArray cur).toList.drop o).take ts.length = iL ts := by
 apply List.ext_getElem?
 intro j
 by_cases hj : j < ts.length
 ·
  rw [List.getElem?_take_of_lt hj, List.getElem?_drop, Array.getElem?_toList]
  have h1 : o + j < cur.size := by omega
  simp [putCells, hj, h1, iL, intV]
 ·
  rw [List.getElem?_take_eq_none (by omega), List.getElem?_eq_none (by simp [iL]; omega)]
section
variable {w : World} {g o n c : Nat} {z ts : List Int}
theorem RW.holdsI (h : RW w 3 1 (.slice (some ⟨g, o, none⟩) n c) n (iL z)) : Holds (Value.int .i64) w g o z.toArray ∧ g < w.heap.size := by
 have hl := h.1
 rcases h.2 with ⟨e, _⟩ | ⟨g', o', c', cs, e, hb, h1, h2, h3, h4⟩
 ·
  cases e
 ·
  cases e
  refine ⟨fun j hj => ?_, hb.lt⟩
  have hj' : j < z.length := by simpa using hj
  refine ⟨?_, hb.frozen _⟩
  have h5 : (iL z)[j]? = some (intV z[j]) := by unfold iL; rw [List.getElem?_map, List.getElem?_eq_getElem hj']; rfl
  rw [← h4, List.getElem?_take_of_lt (by simp [iL] at hl; omega), List.getElem?_drop] at h5
  have := hb.get h5
  rw [this]
  simp [intV, hj']
theorem RW.putI {os : Array Obj} {q : Nat} (h : RW w 3 1 (.slice (some ⟨g, o, none⟩) n c) n (iL z)) (hl : ts.length = n) :
  RW (grow (putRow (Value.int .i64) (Sort.ahead w q) g o ts.toArray) os) 3 1 (.slice (some ⟨g, o, none⟩) n c) n (iL ts) ∧ Kp (fun b => (Value.slice (some ⟨g, o, none⟩) n c).ownBlock = some b) w (grow (putRow (Value.int .i64) (Sort.ahead w q) g o ts.toArray) os) := by
 rcases h.2 with ⟨e, _⟩ | ⟨g', o', c', cs, e, hb, h1, h2, h3, h4⟩
 ·
  cases e
 ·
  cases e
  have hsz : o + ts.length ≤ cs.toArray.size := by simp; omega
  have hgl := hb.lt
  refine ⟨⟨by simp [hl, iL], .inr ⟨g, o, c, (putCells (Value.int .i64) o ts.toArray cs.toArray).toList, rfl, ?_, h1, h2, ?_, ?_⟩⟩, ⟨rfl, rfl, rfl, by simp, fun k hk hne => ?_⟩⟩
  ·
   show (grow (putRow (Value.int .i64) (Sort.ahead w q) g o ts.toArray) os).heap[g]? = some _
   rw [heap_grow_old _ _ (by simpa using hgl)]
   have hb' : w.heap[g]? = some (.cells cs.toArray 3) := hb
   simp [putRow, mapBlock, Sort.ahead, Array.getElem?_modify, hb', onCells]
  ·
   rw [Array.length_toList, putCells_sizeI]
   simpa using h3
  ·
   rw [Nat.mul_one, ← hl]
   exact putCells_rowI _ _ _ hsz
  ·
   rw [heap_grow_old _ _ (by simpa using hk)]
   have : g ≠ k := fun e => hne (by rw [e]; rfl)
   simp [putRow, mapBlock, Sort.ahead, Array.getElem?_modify, this]
end
theorem sortI_ms (z : List Int) : (z.mergeSort fun x y => decide (x ≤ y)) = sortI z := by
 refine sortI_one (List.mergeSort_perm z _) ?_
 have := List.pairwise_mergeSort (le := fun x y : Int => decide (x ≤ y)) (fun a b c h1 h2 => by simp at *; omega) (fun a b => by simp; omega) z
 exact this.imp (fun h => by simpa using h)
theorem sortI_len (z : List Int) : (sortI z).length = z.length := (sortI_both z).1.length_eq
theorem sortint_rw (v : Value) (n : Nat) (z : List Int) (w : World) (h : RW w 3 1 v n (iL z)) (hn : n < 4611686018427387904) :
  Calls Tryz.prog 76 #[v] w fun e w' => e = .returned (.tuple #[]) ∧ RW w' 3 1 v n (iL (sortI z)) ∧ Kp (fun b => v.ownBlock = some b) w w' := by
 have hl := h.1
 simp only [iL, List.length_map, Nat.mul_one] at hl
 rcases h.2 with ⟨rfl, h0⟩ | ⟨g, o, c, cs, rfl, hb, h1, h2, h3, h4⟩
 ·
  subst h0
  refine (Tryz.slices_Sort_int_none none 0 w).mono ?_
  rintro e w' ⟨rfl, rfl⟩
  obtain rfl : z = [] := List.length_eq_zero_iff.1 hl
  exact ⟨rfl, h, Kp.refl _ _⟩
 ·
  obtain ⟨hh, hg⟩ := h.holdsI
  have := Tryz.slices_Sort_int g o c z w hh hg (by omega)
  rw [hl] at this
  refine this.mono ?_
  rintro e w' ⟨rfl, q, os, rfl⟩
  rw [sortI_ms]
  exact ⟨rfl, h.putI (by rw [← hl]; exact sortI_len z)⟩
def surF (ps : List Pl) (x : Wt × List Int) : Int := x.1.to - ((withoutL x.1 ps).length : Int) + (x.2.length : Int) - x.1.da
section
set_option maxRecDepth 100000
set_option maxHeartbeats 4000000
theorem surpl_any {W0 W : World} {T R : Nat → Prop} {x : SX} {ws : List Wt} {hs : List Hd} {ps : List Pl} {left : List Int} {n : Nat} (hC : SrC W0 T x ws hs ps) (hV : SrV W0 W T x ws hs left n) (cs : List (List Int)) (hcl : cs.length = ws.length) (hCs : Chs W x.gc ws.length R cs) (h8 : ws.length ≤ 8) (hwt : ∀ w ∈ ws, wtB w = true) :
  Calls Tryz.prog 57 #[.pointer (some ⟨x.g, 0, none⟩)] W fun e W' => ∃ v, e = .returned v ∧ OwnI W' W.heap.size v (surpP ps (ws.zip cs)) ∧ Below W.heap.size W W' := by
 obtain ⟨xg, Aw, cw, Ah, ch, vl, bm, Am, cm, gc, cc, vs, vf⟩ := x
 have q0 := hV.bg.get (j := 0) rfl
 dsimp only at q0
 have HC := Lib.hid hC
 have HV := Lib.hid hV
 have HCS := Lib.hid hCs
 have HCL := Lib.hid hcl
 have HWT := Lib.hid hwt
 have HZL : Hid ((ws.zip cs).length = ws.length) := Lib.hid (by rw [List.length_zip, hcl]; omega)
 clear hC hV hCs hcl hwt
 go_enter Tryz.func57, Tryz.ntmps57
 go_wp2_with (first
  | ((with_reducible show OpW 11); refine wpList_mk _ rfl 39 3 (.const (.int .i64 0)) (.tmp 10) rfl (.int .i64 0) 8 Tryz.underlying39 infoI rfl 0 ws.length _ _ rfl rfl rfl rfl (by omega) (by omega) (by omega) ?_; intro w1 a1 a2 a3; have HS1 := Lib.hid a1; have HX1 := Lib.hid a2; have q1 := (HV.out.bg.kept HX1.out).get (j := 0) rfl; clear a1 a2 a3))
 have HO1 : Hid (OwnI w1 W.heap.size (.slice (some ⟨W.heap.size, 0, none⟩) 0 ws.length) []) := Lib.hid ⟨⟨rfl, .inr ⟨_, 0, ws.length, _, rfl, HS1.out, by simp, by unfold maxLen; omega, by simp, by simp [iL]⟩⟩, fun b hb => by cases hb; exact Nat.le_refl _⟩
 clear HS1
 go_loopw [3, 17] (fun v iv wr => ∃ k : Nat, iv = .int .i64 (k : Int) ∧ k ≤ ws.length ∧ Hid (OwnI wr W.heap.size v (((ws.zip cs).take k).map (surF ps))) ∧ Hid (Below W.heap.size W wr)) (fun _ iv _ => ws.length - (intOf iv).toNat)
 case atStart => exact ⟨0, rfl, by omega, HO1, HX1⟩
 case round =>
  obtain ⟨k, rfl, hk, ho, hb⟩ := hrel
  obtain ⟨wx, hwx⟩ : ∃ x, x = wr := ⟨_, rfl⟩
  rw [← hwx] at ho hb ⊢
  clear hwx
  by_cases hlt : k < ws.length
  ·
   have HVx := Lib.hid (HV.out.kept hb.out)
   obtain ⟨y, gw, ow, cs0, hy, ew, hat, hr⟩ := LS.elem_at (HC.out.w wx HVx.out.kp) hlt
   obtain ⟨rfl, hok⟩ := hr
   dsimp only at ew
   subst ew
   have HY := Lib.hid hy
   have HA := Lib.hid hat
   have hltI : (k : Int) < (ws.length : Int) := by omega
   clear hy hat hok
   go_wp2_with (first
    | ((with_reducible show OpW 21); refine wpList_loadv _ rfl 74 (.tmp 20) rfl 4 (by kernel_rfl) gw (ow + k * 4) (wtL y) (by go_simp) HA.out rfl ?_)
    | ((with_reducible show OpW 5); refine wpList_alloc _ rfl 74 rfl wtZ wtZero ?_; intro w3 a1 a2 a3; have HV3 := Lib.hid a1; have HX3 := Lib.hid a2; clear a1 a2 a3)
    | ((with_reducible show OpN); refine wpList_storev _ rfl 74 (.tmp 5) (.tmp 21) rfl 4 (by kernel_rfl) wx.heap.size 0 _ wtZ (wtL y) rfl rfl HV3.out rfl (one_wt y) (by decide) ?_; intro w4 a1 a2 a3; have HV4 : Hid (BL w4 wx.heap.size 74 (wtL y)) := Lib.hid a1; have HX4 : Hid (Below wx.heap.size wx w4) := Lib.hid (((Kp.of_below (S := fun _ => False) HX3.out).after a2 (fun i hi e => by omega)).below (Nat.le_refl _) (fun _ h => h.elim)); clear a1 a2 a3)
    | fail)
   have HV9 : Hid (SrV W0 w4 T _ ws hs left n) := Lib.hid (HVx.out.kept HX4.out)
   have HB9 : Hid (Below W.heap.size W w4) := Lib.hid (below_then hb.out HX4.out)
   have HO9 := Lib.hid (ho.out.kept HX4.out)
   have HC9 := Lib.hid (HCS.out.kp (S := fun _ => False) (Kp.of_below HB9.out) (fun h => h) (fun _ _ h => h))
   have hkm : k < (ws.map (fun w => withoutL w ps)).length := by rw [List.length_map]; exact hlt
   obtain ⟨mi, gm, om, cs1, hmi, em, hatm, hrm⟩ := LS.elem_at (HC.out.mi W HV.out.kp) hlt
   obtain ⟨Ai, ni, ci, rfl, hli⟩ := hrm
   have hmi2 : mi = withoutL y ps := by
    rw [List.getElem?_map, HY.out] at hmi
    simpa using hmi.symm
   dsimp only at em
   subst em
   obtain ⟨csv, hbc, hcvl, hcv⟩ := HCS.out
   have hkc : k < cs.length := by rw [HCL.out]; exact hlt
   obtain ⟨A2, n2, c2, hc2, hl2, _⟩ := hcv k cs[k] (List.getElem?_eq_getElem hkc)
   have hz : (ws.zip cs)[k]? = some (y, cs[k]) := by
    rw [List.getElem?_zip_eq_some]
    exact ⟨HY.out, List.getElem?_eq_getElem hkc⟩
   have hN : ((ws.zip cs).take (k + 1)).map (surF ps) = ((ws.zip cs).take k).map (surF ps) ++ [surF ps (y, cs[k])] := by rw [take_next hz, List.map_append]; rfl
   have hni : (ni : Int) = ((withoutL y ps).length : Int) ∧ ni ≤ 16 := by
    have h1 := hli.1
    have h2 := (wo_ok (ps := ps) (HWT.out y (List.mem_of_getElem? HY.out))).2
    rw [hmi2] at h1
    omega
   have hn2 : (n2 : Int) = (cs[k].length : Int) ∧ n2 ≤ 140737488355328 := by
    have h1 := hl2.1
    have h2 := hl2.len_le
    omega
   have hto : 1 ≤ y.da ∧ y.da ≤ 8 ∧ 1 ≤ y.to ∧ y.to ≤ 16 := by
    have h1 := HWT.out y (List.mem_of_getElem? HY.out)
    simp [wtB] at h1
    omega
   obtain ⟨z1, hz1⟩ : ∃ z, z = y.to - (ni : Int) := ⟨_, rfl⟩
   obtain ⟨z2, hz2⟩ : ∃ z, z = z1 + (n2 : Int) := ⟨_, rfl⟩
   obtain ⟨z3, hz3⟩ : ∃ z, z = z2 - y.da := ⟨_, rfl⟩
   have hw1 : IntKind.i64.wrap (y.to - (ni : Int)) = z1 := by rw [hz1]; exact IntWalk.i64_in _ (by omega)
   have hw2 : IntKind.i64.wrap (z1 + (n2 : Int)) = z2 := by rw [hz2]; exact IntWalk.i64_in _ (by omega)
   have hw3 : IntKind.i64.wrap (z2 - y.da) = z3 := by rw [hz3]; exact IntWalk.i64_in _ (by omega)
   have HZ : Hid (surF ps (y, cs[k]) = z3) := Lib.hid (by unfold surF; simp only; omega)
   have HN := Lib.hid hN
   have HLK : Hid ((((ws.zip cs).take k).map (surF ps)).length ≤ k) := Lib.hid (by rw [List.length_map, List.length_take]; omega)
   have s3 := HV.out.bg.get (j := 4) rfl
   have s4 := HV.out.bg.get (j := 5) rfl
   have s5 : W.cell? ⟨gm, om + k, none⟩ = some (.slice Ai ni ci) := by
    have h9 := hatm 0 _ rfl
    rw [Nat.mul_one] at h9
    exact h9
   have s6 : W.cell? ⟨gc, k, none⟩ = some (.slice A2 n2 c2) := hbc.get hc2
   dsimp only at s3 s4
   have HSS : Hid (∀ w', Below W.heap.size W w' → BL w' wx.heap.size 74 (wtL y) → (w'.cell? ⟨wx.heap.size, 3, none⟩ = some (.int .i64 y.to) ∧ w'.cell? ⟨wx.heap.size, 2, none⟩ = some (.int .i64 y.da) ∧ w'.cell? ⟨xg, 4, none⟩ = some (.slice (some ⟨gm, om, none⟩) ws.length cm) ∧ w'.cell? ⟨xg, 5, none⟩ = some (.slice (some ⟨gc, 0, none⟩) ws.length cc) ∧ w'.cell? ⟨gm, om + k, none⟩ = some (.slice Ai ni ci) ∧ w'.cell? ⟨gc, k, none⟩ = some (.slice A2 n2 c2))) := Lib.hid (fun w' h1 h2 => ⟨h2.get (j := 3) rfl, h2.get (j := 2) rfl, cell_kept h1 s3, cell_kept h1 s4, cell_kept h1 s5, cell_kept h1 s6⟩)
   clear s3 s4 s5 s6
   clear hz1 hz2 hz3 hN hni hn2 hto hmi hmi2 hatm hli hbc hcvl hcv hc2 hl2 hz hkm
   refine Text.wp_region_text (fun w' => w'.cell? ⟨wx.heap.size, 3, none⟩ = some (.int .i64 y.to) ∧ w'.cell? ⟨wx.heap.size, 2, none⟩ = some (.int .i64 y.da) ∧ w'.cell? ⟨xg, 4, none⟩ = some (.slice (some ⟨gm, om, none⟩) ws.length cm) ∧ w'.cell? ⟨xg, 5, none⟩ = some (.slice (some ⟨gc, 0, none⟩) ws.length cc) ∧ w'.cell? ⟨gm, om + k, none⟩ = some (.slice Ai ni ci) ∧ w'.cell? ⟨gc, k, none⟩ = some (.slice A2 n2 c2)) [(0, 4), (1, 4), (3, 4), (4, 4), (5, 4), (7, 4), (12, 4), (13, 4), (14, 4), (16, 4), (21, 4), (2, 0), (6, 0), (8, 4), (9, 0), (10, 4), (11, 4), (15, 0), (17, 4), (18, 0), (19, 4), (20, 4), (22, 0), (23, 4), (24, 2), (25, 2), (26, 4)] (by kernel_rfl) (by kernel_rfl) (fun _ _ _ _ _ h => h) (HSS.out _ HB9.out.drew HV4.out.drew) ?_
   iterate 11 (refine Text.purek rfl rfl (fun K hK => ⟨_, fun w' => by go_simp <;> rfl, ?_⟩); go_simp; refine hK _ ?_; clear hK K)
   iterate 2 (refine Text.heldk rfl rfl (fun K hK => ⟨_, fun w' hw' => by go_simp <;> rfl, ?_⟩); go_simp; refine hK _ ?_; clear hK K)
   (refine Text.purek rfl rfl (fun K hK => ⟨_, fun w' => by go_simp <;> rfl, ?_⟩); go_simp; refine hK _ ?_; clear hK K)
   (refine Text.heldk rfl rfl (fun K hK => ⟨_, fun w' hw' => by go_simp <;> rfl, ?_⟩); go_simp; refine hK _ ?_; clear hK K)
   iterate 2 (refine Text.purek rfl rfl (fun K hK => ⟨_, fun w' => by go_simp <;> rfl, ?_⟩); go_simp; refine hK _ ?_; clear hK K)
   (refine Text.heldk rfl rfl (fun K hK => ⟨_, fun w' hw' => by go_simp <;> rfl, ?_⟩); go_simp; refine hK _ ?_; clear hK K)
   (refine Text.purek rfl rfl (fun K hK => ⟨_, fun w' => by go_simp <;> rfl, ?_⟩); go_simp; refine hK _ ?_; clear hK K)
   (refine Text.heldk rfl rfl (fun K hK => ⟨_, fun w' hw' => by go_simp <;> rfl, ?_⟩); go_simp; refine hK _ ?_; clear hK K)
   iterate 2 (refine Text.purek rfl rfl (fun K hK => ⟨_, fun w' => by go_simp <;> rfl, ?_⟩); go_simp; refine hK _ ?_; clear hK K)
   (refine Text.heldk rfl rfl (fun K hK => ⟨_, fun w' hw' => by go_simp <;> rfl, ?_⟩); go_simp; refine hK _ ?_; clear hK K)
   (refine Text.purek rfl rfl (fun K hK => ⟨_, fun w' => by go_simp <;> rfl, ?_⟩); go_simp; refine hK _ ?_; clear hK K)
   refine Text.eff rfl rfl (fun K hK => ?_)
   refine wp_bslice 39 3 1 _ rfl #[(0, .int .i64 z3)] (by rw [List.map_toArray]; rfl) [.int .i64 z3] (bslI _ _) ?_
   intro w6 a1 a2 a3
   have HS6 := Lib.hid a1
   have HX6 : Hid (Below w4.heap.size w4 w6) := Lib.hid ((Below.refl _ w4).drew.trans a2)
   have HV6 := Lib.hid (HV4.out.kept HX6.out)
   have HB6 := Lib.hid (below_then HB9.out HX6.out)
   have HO6 := Lib.hid (HO9.out.kept HX6.out)
   clear a1 a2 a3
   refine hK _ _ (HSS.out _ HB6.out HV6.out) ?_
   clear hK K
   refine Text.eff rfl rfl (fun K hK => ?_)
   obtain ⟨iS, i1, i2, i3, i4⟩ := info_some infoI
   refine wp_appRW _ (.tmp 22) (.tmp 46) 39 3 1 iS _ rfl Tryz.underlying39 i1 i2 i3 rfl _ _ _ rfl HO6.out.1 _ _ rfl HS6.out rfl (fun u hu => by rw [List.mem_singleton.1 hu]; rfl) (by rw [i4]; have := HLK.out; omega) (by have := HLK.out; omega) ?_
   intro v' w7 a1
   have HO7 := Lib.hid (HO6.out.push a1 (by have := HB6.out.size; omega))
   have HV7 := Lib.hid (a1.bl HO6.out.1 HV6.out (by decide))
   have HB7 : Hid (Below W.heap.size W w7) := Lib.hid (((Kp.of_below (S := fun _ => False) HB6.out).after a1.kp (fun b hb e => by have := HO6.out.2 b e; omega)).below (Nat.le_refl _) (fun _ h => h.elim))
   clear a1 i1 i2 i3 i4
   refine hK _ _ (HSS.out _ HB7.out HV7.out) ?_
   clear hK K
   (refine Text.purek rfl rfl (fun K hK => ⟨_, fun w' => by go_simp <;> rfl, ?_⟩); go_simp; refine hK _ ?_; clear hK K)
   refine Text.done ?_
   go_wp2_with fail
   go_roundw
   case rel => exact ⟨k + 1, by go_num, by omega, by rw [HN.out, HZ.out]; exact HO7, HB7⟩
   case measure => simp [intOf]; omega
  ·
   obtain rfl : k = ws.length := by omega
   have e1 : (ws.zip cs).take ws.length = ws.zip cs := take_end HZL.out
   rw [e1] at ho
   have HSL : Hid (((ws.zip cs).map (surF ps)).length = ws.length) := Lib.hid (by rw [List.length_map]; exact HZL.out)
   go_wp2_with (first
    | (go_at_call 76; refine (sortint_rw _ _ ((ws.zip cs).map (surF ps)) wx ho.out.1 (by rw [HSL.out]; omega)).mono ?_; rintro e w2 ⟨rfl, r1, r2⟩; have HR := Lib.hid r1; have HK2 := Lib.hid r2; clear r1 r2))
   go_ret
   refine ⟨_, rfl, ⟨?_, fun b hb => ho.out.2 b hb⟩, ((Kp.of_below (S := fun _ => False) hb.out).after HK2.out (fun b hb e => by have := ho.out.2 b e; omega)).below (Nat.le_refl _) (fun _ h => h.elim)⟩
   rw [surp_sort]
   have h9 := HR.out
   rw [← sortI_len] at h9
   exact h9
end
end Go.Proofs.YtklfficlegfhjaaGreat
/- placed. -/
namespace Go.Proofs.YtklfficlegfhjaaGreat
open Go Go.RowKit Go.Shelf Go.WideMaps Go.ChangeMaps Go.Sort Gf Sha

/-- Places of the call's own. -/
def OwnP (w : World) (base : Nat) (v : Value) (L : List Pl) : Prop := RW w 85 3 v L.length (L.flatMap plL) ∧ ∀ b, v.ownBlock = some b → base ≤ b
theorem OwnP.kept {w w' : World} {base : Nat} {v : Value} {L : List Pl} (h : OwnP w base v L) (hb : Below w.heap.size w w') : OwnP w' base v L := ⟨h.1.kept hb, h.2⟩
theorem OwnP.push {w w' : World} {base : Nat} {v v' : Value} {L : List Pl} {p : Pl} (h : OwnP w base v L) (ap : AppR w 85 3 v L.length 1 (L.flatMap plL) (plL p) v' w') (hb : base ≤ w.heap.size) : OwnP w' base v' (L ++ [p]) := by
 refine ⟨?_, fun b e => (ap.own b e).elim (h.2 b) (fun h1 => by omega)⟩
 have h1 := ap.row
 rw [List.length_append, List.flatMap_append]
 simpa using h1
theorem OwnP.ls {w : World} {base : Nat} {v : Value} {L : List Pl} (h : OwnP w base v L) (hok : ∀ x ∈ L, okPl x) (hl : L.length * 32 ≤ lim) : ∃ A c, v = .slice A L.length c ∧ LS rPl 3 32 w A L.length c L := by
 obtain ⟨A, c, rfl, hnc⟩ := h.1.form
 refine ⟨A, c, rfl, rfl, hnc, hl, fun k hk => ?_⟩
 obtain ⟨g, o, c', e, _, hat⟩ := h.1.at_ (by omega)
 cases e
 exact ⟨g, o, plL L[k], rfl, hat.elem plL_len hk, rfl, hok _ (List.getElem_mem hk)⟩
theorem LS.okPl {w : World} {A : Option Addr} {n c : Nat} {L : List Pl} (h : LS rPl 3 32 w A n c L) : ∀ x ∈ L, okPl x := fun x hx => by
 obtain ⟨k, hk, rfl⟩ := List.getElem_of_mem hx
 obtain ⟨y, g, o, cs, hy, _, _, hr⟩ := LS.elem_at h (k := k) (by rw [← h.1]; exact hk)
 rw [List.getElem?_eq_getElem hk] at hy
 cases hy
 exact hr.2
theorem css_pl {w : World} {css : List (List Value)} {L : List Pl} (h1 : css.length = L.length) (h3 : ∀ k (h : k < L.length) (h' : k < css.length), rPl w css[k] L[k]) : css.flatten = L.flatMap plL := by
 have : css = L.map plL := by
  apply List.ext_getElem
  ·
   simp [h1]
  ·
   intro k a b
   rw [List.getElem_map]
   exact (h3 k (by omega) a).1
 rw [this, List.flatMap_def]
theorem ones_pl {w : World} : ∀ cs x, rPl w cs x → ∀ u ∈ cs, u.oneCell' = true := fun _ _ h => by rw [h.1]; exact one_pl _
abbrev piL' (s : List UInt8) (i : Int) : List Value := [.string (strB s), .int .i64 i]
theorem bslPl (p : Pl) (w : World) : (Instr.buildSlice 24 1 #[(0, .agg #[.string (strB p.st), .int .i64 p.ix, .int .i64 p.dv])]).run Tryz.prog w = .ok (.slice (some ⟨w.heap.size, 0, none⟩) 1 1) (w.alloc (.cells (plL p).toArray 85)) := by kernel_rfl
theorem bldPlc (s : List UInt8) (i d : Int) (w : World) : (Instr.build 85 #[(0, .agg #[.string (strB s), .int .i64 i]), (1, .int .i64 d)]).run Tryz.prog w = .ok (.agg #[.string (strB s), .int .i64 i, .int .i64 d]) w := by kernel_rfl
theorem bldPic (s : List UInt8) (i : Int) (w : World) : (Instr.build 78 #[(0, .string (strB s)), (1, .int .i64 i)]).run Tryz.prog w = .ok (.agg #[.string (strB s), .int .i64 i]) w := by kernel_rfl
theorem picZero : (Tryz.prog.info? 78).map (·.zero) = some (some (.agg odZ.toArray)) := by kernel_rfl
theorem eqNil_pl (a : Addr) (n c : Nat) (w : World) : (binOp .eql 24 (.slice (some a) n c) (.slice none 0 0)).run Tryz.prog w = .ok (.bool false) w := Lib.run_eql_slice_nil w _ _ (some a) n c 0 0 Tryz.underlying24
theorem eqNil0_pl (n c : Nat) (w : World) : (binOp .eql 24 (.slice none n c) (.slice none 0 0)).run Tryz.prog w = .ok (.bool true) w := Lib.run_eql_slice_nil w _ _ none n c 0 0 Tryz.underlying24
theorem bsl0_pl (w : World) : (Instr.buildSlice 24 0 #[]).run Tryz.prog w = .ok (.slice (some ⟨w.heap.size, 0, none⟩) 0 0) (w.alloc (.cells ([] : List Value).toArray 85)) := by kernel_rfl
set_option maxRecDepth 100000 in
set_option maxHeartbeats 1000000 in
theorem clone_pl (A : Option Addr) (n c : Nat) (L : List Pl) (w : World) (h : LS rPl 3 32 w A n c L) :
  Calls Tryz.prog 66 #[.slice A n c] w fun e w' => ∃ v, e = .returned v ∧ OwnP w' w.heap.size v L ∧ Below w.heap.size w w' := by
 have hn := h.len_le
 obtain ⟨css, h1, h2, h3, h4⟩ := h.src (P := Tryz.prog) (len_pl (w := w)) ones_pl Tryz.underlying24
 have HL := Lib.hid h.1
 have HC := Lib.hid (css_pl h1 h3)
 have HS := Lib.hid h4
 have HN0 : Hid (A = none → n = 0) := Lib.hid (fun e => by subst e; exact h.none_len)
 clear h h1 h2 h3 h4
 cases A with
 | none =>
  have hen := eqNil0_pl n c
  obtain rfl := HN0.out rfl
  go_enter Tryz.func66, Tryz.ntmps66
  go_wp2_with fail
  go_ret
  have hL : L = [] := List.eq_nil_of_length_eq_zero HL.out
  rw [hL]
  exact ⟨_, rfl, ⟨RW.nil _ _ _, fun b hb => by cases hb⟩, Below.refl _ _⟩
 | some a =>
  have hen := eqNil_pl a n c
  go_enter Tryz.func66, Tryz.ntmps66
  go_wp2_with (first
   | ((with_reducible show OpW 5); refine wpList_bslice _ rfl 24 85 0 _ rfl #[] (by rw [List.map_toArray]; rfl) [] (bsl0_pl _) ?_; intro w1 a1 a2 a3; have HG1 := Lib.hid a1; have HB1 := Lib.hid a2; clear a1 a2 a3)
   | ((with_reducible show OpW 7); obtain ⟨iS, i1, i2, i3, i4⟩ := info_some infoPl; refine wpList_appX _ rfl (.tmp 5) (.tmp 6) 24 85 3 iS _ rfl Tryz.underlying24 i1 i2 i3 rfl _ 0 [] rfl (RW.of_blk (n := 0) HG1.out (by simp) (by decide)) _ n _ rfl (HS.out _ HB1.out) (by rw [i4]; omega) (by omega) ?_; intro v' w2 ap; have HAP := Lib.hid ap; clear ap i1 i2 i3 i4))
  go_ret
  refine ⟨v', rfl, ⟨?_, fun b hb => (HAP.out.own b hb).elim (fun e => by cases e; exact Nat.le_refl _) (fun e => by have := HB1.out.size; omega)⟩, ((Kp.of_below (S := fun _ => False) HB1.out).after HAP.out.kp (fun i hi e => by have e' : w.heap.size = i := Option.some.inj e; omega)).below (Nat.le_refl _) (fun _ h => h.elim)⟩
  have h9 := HAP.out.row
  rw [HC.out, List.nil_append, Nat.zero_add] at h9
  rw [HL.out]; exact h9
theorem addOf_get {H : List Hd} {ps : List Pl} {w : Wt} {c : List Int} {t : Nat} {i j : Int} (hi : (withoutL w ps)[t]? = some i) (hj : c[t]? = some j) : (addOf H ps (w, c))[t]? = some ⟨w.st, i, (hAt H j).dv⟩ := by
 unfold addOf
 rw [List.getElem?_map]
 have : ((withoutL w ps).zip (c.map (fun j => (hAt H j).dv)))[t]? = some (i, (hAt H j).dv) := by
  rw [List.getElem?_zip_eq_some]
  exact ⟨hi, by rw [List.getElem?_map, hj]; rfl⟩
 rw [this]; rfl
theorem addOf_len {H : List Hd} {ps : List Pl} {w : Wt} {c : List Int} (h : c.length ≤ (withoutL w ps).length) : (addOf H ps (w, c)).length = c.length := by
 unfold addOf
 rw [List.length_map, List.length_zip, List.length_map]
 show min (withoutL w ps).length c.length = c.length
 omega
theorem flat_next {α β : Type} {l : List α} {f : α → List β} {k : Nat} {x : α} (h : l[k]? = some x) : (l.take (k + 1)).flatMap f = (l.take k).flatMap f ++ f x := by
 rw [take_next h, List.flatMap_append]; simp
theorem flat_leq {α β : Type} {f : α → List β} {b : Nat} : ∀ {l : List α}, (∀ x ∈ l, (f x).length ≤ b) → (l.flatMap f).length ≤ l.length * b
 | [], _ => by simp
 | x :: l, h => by
  have h1 := flat_leq (l := l) (fun y hy => h y (by simp [hy]))
  have h2 := h x (by simp)
  rw [List.flatMap_cons, List.length_append, List.length_cons, Nat.succ_mul]
  omega
section
set_option maxRecDepth 100000
set_option maxHeartbeats 4000000
theorem placed_any {W0 W : World} {T : Nat → Prop} {x : SX} {ws : List Wt} {H : List Hd} {ps : List Pl} {left : List Int} {n : Nat} (hC : SrC W0 T x ws H ps) (hV : SrV W0 W T x ws H left n) (P : Option Addr) (p q : Nat) (hp : LS rPl 3 32 W P p q ps) (A : Option Addr) (c : Nat) (cs : List (List Int)) (hcs : LS rIs 1 24 W A ws.length c cs)
  (hok : OkC H ps (ws.zip cs)) (hnd : (ws.map Wt.st).Nodup) (hwt : ∀ w ∈ ws, wtB w = true) (h8 : ws.length ≤ 8) (hpm : p ≤ 1000) :
  Calls Tryz.prog 48 #[.pointer (some ⟨x.g, 0, none⟩), .slice P p q, .slice A ws.length c] W fun e W' =>
   ∃ v R, e = .returned v ∧ OwnP W' W.heap.size v R ∧ R.Perm (plcs H ps (ws.zip cs)) ∧ R.Pairwise (fun a b => plLt ws b a = false) ∧ Below W.heap.size W W' := by
 obtain ⟨xg, Aw, cw, Ah, ch, vl, bm, Am, cm, gc, cc, vs, vf⟩ := x
 have HPL : Hid (plcs H ps (ws.zip cs) = ps ++ (ws.zip cs).flatMap (addOf H ps)) := Lib.hid (plcs_flat (by rw [zip_fst_map Wt.st ws cs hcs.1]; exact hnd) (fun x _ => same_refl _ _))
 have HC := Lib.hid hC
 have HV := Lib.hid hV
 have HP := Lib.hid hp
 have HCS := Lib.hid hcs
 have HOK := Lib.hid hok
 have HWT := Lib.hid hwt
 have HPN := Lib.hid hp.1
 have HZL : Hid ((ws.zip cs).length = ws.length) := Lib.hid (by rw [List.length_zip, hcs.1]; omega)
 have HAL : Hid (∀ x ∈ ws.zip cs, (addOf H ps x).length ≤ 16) := Lib.hid (fun x hx => by
  have h1 := (hok x hx).2
  obtain ⟨w, c⟩ := x
  have h2 := (wo_ok (ps := ps) (hwt w (List.of_mem_zip hx).1)).2
  have h3 : c.length ≤ (withoutL w ps).length := h1
  rw [addOf_len h3]; omega)
 have HFL : Hid (∀ k, (ps ++ ((ws.zip cs).take k).flatMap (addOf H ps)).length ≤ 2000) := Lib.hid (fun k => by
  have h1 := flat_leq (l := (ws.zip cs).take k) (f := addOf H ps) (b := 16) (fun x hx => HAL.out x (List.mem_of_mem_take hx))
  have h2 : ((ws.zip cs).take k).length ≤ 8 := by rw [List.length_take, HZL.out]; omega
  have h3 := hp.1
  rw [List.length_append]; omega)
 clear hC hV hp hcs hok hwt hnd
 go_enter Tryz.func48, Tryz.ntmps48
 go_wp2_with (first
  | ((with_reducible show OpW 3); refine wpList_box1 _ rfl 94 (.tmp 0) rfl _ rfl rfl ?_; intro w1 a1 a2 a3; have HS1 := Lib.hid a1; have HX1 := Lib.hid a2; have HZ1 := Lib.hid a3; clear a1 a2 a3)
  | (go_at_call 66; refine (clone_pl P p q ps w1 (HP.out.kept stay_pl HX1.out)).mono ?_; rintro e w2 ⟨v0, rfl, r1, r2⟩; have HO2 := Lib.hid r1; have HS2 := Lib.hid (HS1.out.kept r2); have HX2 := Lib.hid (below_then HX1.out r2); clear r1 r2))
 have HO0 : Hid (OwnP w2 W.heap.size v0 ps) := Lib.hid ⟨HO2.out.1, fun b hb => by have := HO2.out.2 b hb; have := HZ1.out; omega⟩
 clear HO2
 go_loopw [7, 17] (fun v iv wr => ∃ k : Nat, iv = .int .i64 (k : Int) ∧ k ≤ ws.length ∧ Hid (OwnP wr W.heap.size v (ps ++ ((ws.zip cs).take k).flatMap (addOf H ps))) ∧ Hid (Below W.heap.size W wr) ∧ Hid (BL wr W.heap.size 94 [.pointer (some ⟨xg, 0, none⟩)])) (fun _ iv _ => ws.length - (intOf iv).toNat)
 case atStart => exact ⟨0, rfl, by omega, by simpa using HO0, HX2, HS2⟩
 case round =>
  obtain ⟨k, rfl, hk, ho, hb, hs⟩ := hrel
  obtain ⟨wx, hwx⟩ : ∃ x, x = wr := ⟨_, rfl⟩
  rw [← hwx] at ho hb hs ⊢
  clear hwx
  by_cases hlt : k < ws.length
  ·
   have hltI : (k : Int) < (ws.length : Int) := by omega
   obtain ⟨ck, gA, oA, cs1, hck, eA, hatA, hrA⟩ := LS.elem_at HCS.out hlt
   obtain ⟨Ac, nc, ccp, rfl, hlc⟩ := hrA
   subst eA
   have qA : wx.cell? ⟨gA, oA + k, none⟩ = some (.slice Ac nc ccp) := by
    have h9 := hatA.kept hb.out 0 _ rfl
    rw [Nat.mul_one] at h9
    exact h9
   have HCK := Lib.hid hck
   have HLC := Lib.hid hlc
   obtain ⟨y, hy⟩ : ∃ y, ws[k]? = some y := ⟨_, List.getElem?_eq_getElem hlt⟩
   have HY := Lib.hid hy
   have HZ : Hid ((ws.zip cs)[k]? = some (y, ck)) := Lib.hid (by rw [List.getElem?_zip_eq_some]; exact ⟨hy, hck⟩)
   have HOC := Lib.hid (HOK.out (y, ck) (List.mem_of_getElem? HZ.out))
   have HNC : Hid (ck.length = nc) := Lib.hid hlc.1
   have HN16 : Hid (nc ≤ 16) := Lib.hid (by have h1 := HOC.out.2; have h2 := (wo_ok (ps := ps) (HWT.out y (List.mem_of_getElem? hy))).2; have h3 := hlc.1; have h4 : ck.length ≤ (withoutL y ps).length := h1; omega)
   clear hatA hck hlc hy
   go_wp2_with fail
   go_loopw [7, 24] (fun v iv wr => ∃ t : Nat, iv = .int .i64 (t : Int) ∧ t ≤ nc ∧ Hid (OwnP wr W.heap.size v (ps ++ ((ws.zip cs).take k).flatMap (addOf H ps) ++ (addOf H ps (y, ck)).take t)) ∧ Hid (Below W.heap.size W wr) ∧ Hid (BL wr W.heap.size 94 [.pointer (some ⟨xg, 0, none⟩)])) (fun _ iv _ => nc - (intOf iv).toNat)
   case atStart => exact ⟨0, rfl, by omega, by simpa using ho, hb, hs⟩
   case round =>
    obtain ⟨t, rfl, ht, ho1, HBT, HST⟩ := hrel
    obtain ⟨wt, hwt⟩ : ∃ x, x = wr := ⟨_, rfl⟩
    rw [← hwt] at ho1 HBT HST ⊢
    clear hwt
    by_cases hlt2 : t < nc
    ·
     have hltT : (t : Int) < (nc : Int) := by omega
     have hnc16 := HN16.out
     obtain ⟨j, gC, oC, hj, eC, qC⟩ := HLC.out.int_at HBT.out hlt2
     subst eC
     have HJ := Lib.hid hj
     have HJR := Lib.hid (HOC.out.1 j (List.mem_of_getElem? hj))
     obtain ⟨gw, ow, ew, hin, hatw⟩ := LS.wt_at (HC.out.w W HV.out.kp) (Below.refl _ _) HY.out
     dsimp only at ew
     subst ew
     obtain ⟨mi, gm, om, cs2, hmi, em, hatm, hrm⟩ := LS.elem_at (HC.out.mi W HV.out.kp) hlt
     obtain ⟨Ai, ni, ci, rfl, hli⟩ := hrm
     have hmi2 : mi = withoutL y ps := by
      rw [List.getElem?_map, HY.out] at hmi
      simpa using hmi.symm
     subst hmi2
     dsimp only at em
     subst em
     have hin2 : t < ni := by
      have h1 := hli.1
      have h2 := HOC.out.2
      have h3 := HNC.out
      have h4 : ck.length ≤ (withoutL y ps).length := h2
      omega
     obtain ⟨ix, gi, oi, hix, ei, hci⟩ := hli.int_at (Below.refl _ _) hin2
     subst ei
     obtain ⟨jn, ejn⟩ : ∃ jn : Nat, j = (jn : Int) := ⟨j.toNat, by have := HJR.out.1; omega⟩
     subst ejn
     have hjl : jn < H.length := by have := HJR.out.2; omega
     obtain ⟨hd, gh, oh, cs3, hhd, eh, hath, hrh⟩ := LS.elem_at (HC.out.h W HV.out.kp) hjl
     obtain ⟨rfl, _⟩ := hrh
     dsimp only at eh
     subst eh
     have hhA : hAt H (jn : Int) = hd := by
      unfold hAt
      rw [Int.toNat_natCast, List.getD_eq_getElem?_getD, hhd]; rfl
     have hadd := addOf_get (H := H) hix HJ.out
     rw [hhA] at hadd
     have HN : Hid ((addOf H ps (y, ck)).take (t + 1) = (addOf H ps (y, ck)).take t ++ [⟨y.st, ix, hd.dv⟩]) := Lib.hid (take_next hadd)
     have HLN : Hid ((ps ++ ((ws.zip cs).take k).flatMap (addOf H ps) ++ (addOf H ps (y, ck)).take t).length ≤ 3000) := Lib.hid (by
      have h1 := HFL.out k
      rw [List.length_append, List.length_take]
      have h2 := HN16.out
      omega)
     have hjI : (jn : Int) < (H.length : Int) := by omega
     have hiI : (t : Int) < (ni : Int) := by omega
     have s2 := HV.out.bg.get (j := 0) rfl
     have s3 := HV.out.bg.get (j := 4) rfl
     have s7 := HV.out.bg.get (j := 1) rfl
     dsimp only at s2 s3 s7
     have s4 : W.cell? ⟨gw, ow + k * 4, none⟩ = some (.string (strB y.st)) := hatw 0 _ rfl
     have s5 : W.cell? ⟨gm, om + k, none⟩ = some (.slice (some ⟨gi, oi, none⟩) ni ci) := by
      have h9 := hatm 0 _ rfl
      rw [Nat.mul_one] at h9
      exact h9
     have s6 : W.cell? ⟨gi, oi + t, none⟩ = some (.int .i64 ix) := hci
     have s8 : W.cell? ⟨gh, oh + jn * 3, none⟩ = some (.int .i64 hd.dv) := hath 0 _ rfl
     have HSS : Hid (∀ w', Below W.heap.size W w' → BL w' W.heap.size 94 [.pointer (some ⟨xg, 0, none⟩)] → (w'.cell? ⟨W.heap.size, 0, none⟩ = some (.pointer (some ⟨xg, 0, none⟩)) ∧ w'.cell? ⟨xg, 0, none⟩ = some (.slice (some ⟨gw, ow, none⟩) ws.length cw) ∧ w'.cell? ⟨xg, 4, none⟩ = some (.slice (some ⟨gm, om, none⟩) ws.length cm) ∧ w'.cell? ⟨gw, ow + k * 4, none⟩ = some (.string (strB y.st)) ∧ w'.cell? ⟨gm, om + k, none⟩ = some (.slice (some ⟨gi, oi, none⟩) ni ci) ∧ w'.cell? ⟨gi, oi + t, none⟩ = some (.int .i64 ix))) := Lib.hid (fun w' h1 h2 => ⟨h2.get (j := 0) rfl, cell_kept h1 s2, cell_kept h1 s3, cell_kept h1 s4, cell_kept h1 s5, cell_kept h1 s6⟩)
     have HS2 : Hid (∀ w', Below W.heap.size W w' → BL w' W.heap.size 94 [.pointer (some ⟨xg, 0, none⟩)] → BL w' wt.heap.size 78 (piL' y.st ix) → (w'.cell? ⟨W.heap.size, 0, none⟩ = some (.pointer (some ⟨xg, 0, none⟩)) ∧ w'.cell? ⟨xg, 1, none⟩ = some (.slice (some ⟨gh, oh, none⟩) H.length ch) ∧ w'.cell? ⟨gh, oh + jn * 3, none⟩ = some (.int .i64 hd.dv) ∧ At w' wt.heap.size 0 (piL' y.st ix))) := Lib.hid (fun w' h1 h2 h3 => ⟨h2.get (j := 0) rfl, cell_kept h1 s7, cell_kept h1 s8, BL.all h3⟩)
     clear s2 s3 s4 s5 s6 s7 s8
     clear hatw hatm hli hci hath hix hhd hadd hmi hj
     go_wp2_with fail
     refine Text.wp_region_text (fun w' => w'.cell? ⟨W.heap.size, 0, none⟩ = some (.pointer (some ⟨xg, 0, none⟩)) ∧ w'.cell? ⟨xg, 0, none⟩ = some (.slice (some ⟨gw, ow, none⟩) ws.length cw) ∧ w'.cell? ⟨xg, 4, none⟩ = some (.slice (some ⟨gm, om, none⟩) ws.length cm) ∧ w'.cell? ⟨gw, ow + k * 4, none⟩ = some (.string (strB y.st)) ∧ w'.cell? ⟨gm, om + k, none⟩ = some (.slice (some ⟨gi, oi, none⟩) ni ci) ∧ w'.cell? ⟨gi, oi + t, none⟩ = some (.int .i64 ix)) [(4, 4), (12, 4), (15, 4), (0, 0), (1, 4), (2, 4), (3, 0), (5, 4), (6, 4), (7, 0), (8, 0), (9, 4), (10, 4), (11, 0), (13, 4), (14, 0), (16, 4), (17, 0), (18, 0), (19, 2), (20, 2)] (by kernel_rfl) (by kernel_rfl) (fun _ _ _ _ _ h => h) (HSS.out _ HBT.out.drew HST.out.drew) ?_
     iterate 3 (refine Text.purek rfl rfl (fun K hK => ⟨_, fun w' => by go_simp <;> rfl, ?_⟩); go_simp; refine hK _ ?_; clear hK K)
     (refine Text.heldk rfl rfl (fun K hK => ⟨_, fun w' hw' => by go_simp <;> rfl, ?_⟩); go_simp; refine hK _ ?_; clear hK K)
     iterate 2 (refine Text.purek rfl rfl (fun K hK => ⟨_, fun w' => by go_simp <;> rfl, ?_⟩); go_simp; refine hK _ ?_; clear hK K)
     (refine Text.heldk rfl rfl (fun K hK => ⟨_, fun w' hw' => by go_simp <;> rfl, ?_⟩); go_simp; refine hK _ ?_; clear hK K)
     iterate 2 (refine Text.purek rfl rfl (fun K hK => ⟨_, fun w' => by go_simp <;> rfl, ?_⟩); go_simp; refine hK _ ?_; clear hK K)
     iterate 2 (refine Text.heldk rfl rfl (fun K hK => ⟨_, fun w' hw' => by go_simp <;> rfl, ?_⟩); go_simp; refine hK _ ?_; clear hK K)
     iterate 2 (refine Text.purek rfl rfl (fun K hK => ⟨_, fun w' => by go_simp <;> rfl, ?_⟩); go_simp; refine hK _ ?_; clear hK K)
     (refine Text.heldk rfl rfl (fun K hK => ⟨_, fun w' hw' => by go_simp <;> rfl, ?_⟩); go_simp; refine hK _ ?_; clear hK K)
     (refine Text.purek rfl rfl (fun K hK => ⟨_, fun w' => by go_simp <;> rfl, ?_⟩); go_simp; refine hK _ ?_; clear hK K)
     (refine Text.heldk rfl rfl (fun K hK => ⟨_, fun w' hw' => by go_simp <;> rfl, ?_⟩); go_simp; refine hK _ ?_; clear hK K)
     (refine Text.purek rfl rfl (fun K hK => ⟨_, fun w' => by go_simp <;> rfl, ?_⟩); go_simp; refine hK _ ?_; clear hK K)
     (refine Text.heldk rfl rfl (fun K hK => ⟨_, fun w' hw' => by go_simp <;> rfl, ?_⟩); go_simp; refine hK _ ?_; clear hK K)
     refine Text.heldk rfl rfl (fun K hK => ?_)
     refine ⟨_, fun w' hw' => exec_bld rfl (ps := #[(0, .string (strB y.st)), (1, .int .i64 ix)]) (by rw [List.map_toArray]; rfl) (bldPic _ _ _), ?_⟩
     refine hK _ ?_
     clear hK K
     refine Text.eff rfl rfl (fun K hK => ?_)

     refine wp_alloc 78 rfl odZ picZero ?_
     intro w3 a1 a2 a3
     have HV3 : Hid (BL w3 wt.heap.size 78 odZ) := Lib.hid a1
     have HX3 : Hid (Below wt.heap.size wt w3) := Lib.hid ((Below.refl _ wt).drew.trans a2)
     clear a1 a2 a3
     refine hK _ _ (HSS.out _ (below_then HBT.out HX3.out) (HST.out.kept HX3.out)) ?_
     clear hK K
     refine Text.eff rfl rfl (fun K hK => ?_)
     refine wp_storev 78 (.tmp 12) (.tmp 47) rfl 2 (by kernel_rfl) wt.heap.size 0 _ odZ (piL' y.st ix) rfl rfl HV3.out rfl (one_od _ _) (by decide) ?_
     intro w4 a1 a2 a3
     have HV4 : Hid (BL w4 wt.heap.size 78 (piL' y.st ix)) := Lib.hid a1
     have HX4 : Hid (Below wt.heap.size wt w4) := Lib.hid (((Kp.of_below (S := fun _ => False) HX3.out).after a2 (fun i hi e => by omega)).below (Nat.le_refl _) (fun _ h => h.elim))
     have HB4 := Lib.hid (below_then HBT.out HX4.out)
     have HS4 := Lib.hid (HST.out.kept HX4.out)
     have HO4 := Lib.hid (ho1.out.kept HX4.out)
     clear a1 a2 a3
     refine hK _ _ (HSS.out _ HB4.out HS4.out) ?_
     clear hK K
     refine Text.done ?_
     go_wp2_with fail
     refine Text.wp_region_text (fun w' => w'.cell? ⟨W.heap.size, 0, none⟩ = some (.pointer (some ⟨xg, 0, none⟩)) ∧ w'.cell? ⟨xg, 1, none⟩ = some (.slice (some ⟨gh, oh, none⟩) H.length ch) ∧ w'.cell? ⟨gh, oh + jn * 3, none⟩ = some (.int .i64 hd.dv) ∧ At w' wt.heap.size 0 (piL' y.st ix)) [(0, 4), (6, 4), (1, 0), (2, 0), (3, 4), (4, 4), (5, 0), (7, 4), (8, 4), (9, 0), (10, 0), (11, 2), (12, 2), (13, 4)] (by kernel_rfl) (by kernel_rfl) (fun _ _ _ _ _ h => h) (HS2.out _ HB4.out.drew HS4.out.drew HV4.out.drew) ?_
     iterate 2 (refine Text.purek rfl rfl (fun K hK => ⟨_, fun w' => by go_simp <;> rfl, ?_⟩); go_simp; refine hK _ ?_; clear hK K)
     refine Text.heldk rfl rfl (fun K hK => ?_)
     refine ⟨_, fun w' hw' => exec_loadv 78 (.tmp 12) rfl 2 (by kernel_rfl) wt.heap.size 0 (piL' y.st ix) rfl hw'.2.2.2 rfl, ?_⟩
     go_simp
     refine hK _ ?_
     clear hK K
     (refine Text.heldk rfl rfl (fun K hK => ⟨_, fun w' hw' => by go_simp <;> rfl, ?_⟩); go_simp; refine hK _ ?_; clear hK K)
     iterate 2 (refine Text.purek rfl rfl (fun K hK => ⟨_, fun w' => by go_simp <;> rfl, ?_⟩); go_simp; refine hK _ ?_; clear hK K)
     (refine Text.heldk rfl rfl (fun K hK => ⟨_, fun w' hw' => by go_simp <;> rfl, ?_⟩); go_simp; refine hK _ ?_; clear hK K)
     iterate 2 (refine Text.purek rfl rfl (fun K hK => ⟨_, fun w' => by go_simp <;> rfl, ?_⟩); go_simp; refine hK _ ?_; clear hK K)
     (refine Text.heldk rfl rfl (fun K hK => ⟨_, fun w' hw' => by go_simp <;> rfl, ?_⟩); go_simp; refine hK _ ?_; clear hK K)
     refine Text.heldk rfl rfl (fun K hK => ?_)
     refine ⟨_, fun w' hw' => exec_bld rfl (ps := #[(0, .agg (piL' y.st ix).toArray), (1, .int .i64 hd.dv)]) (by rw [List.map_toArray]; rfl) (bldPlc _ _ _ _), ?_⟩
     refine hK _ ?_
     clear hK K
     refine Text.eff rfl rfl (fun K hK => ?_)
     refine wp_bslice 24 85 1 _ rfl #[(0, .agg #[.string (strB y.st), .int .i64 ix, .int .i64 hd.dv])] (by rw [List.map_toArray]; rfl) (plL ⟨y.st, ix, hd.dv⟩) (bslPl ⟨y.st, ix, hd.dv⟩ _) ?_
     intro w5 a1 a2 a3
     have HG5 := Lib.hid a1
     have HX5 : Hid (Below w4.heap.size w4 w5) := Lib.hid ((Below.refl _ w4).drew.trans a2)
     have HB5 := Lib.hid (below_then HB4.out HX5.out)
     have HS5 := Lib.hid (HS4.out.kept HX5.out)
     have HV5 := Lib.hid (HV4.out.kept HX5.out)
     have HO5 := Lib.hid (HO4.out.kept HX5.out)
     clear a1 a2 a3
     refine hK _ _ (HS2.out _ HB5.out HS5.out HV5.out) ?_
     clear hK K
     refine Text.eff rfl rfl (fun K hK => ?_)
     obtain ⟨iS, i1, i2, i3, i4⟩ := info_some infoPl
     refine wp_appRW _ (.tmp 48) (.tmp 59) 24 85 3 iS _ rfl Tryz.underlying24 i1 i2 i3 rfl _ _ _ rfl HO5.out.1 _ _ rfl HG5.out rfl (one_pl _) (by rw [i4]; have := HLN.out; omega) (by have := HLN.out; omega) ?_
     intro v' w6 ap
     have HO6 := Lib.hid (HO5.out.push ap HB5.out.size)
     have HS6 := Lib.hid (ap.bl HO5.out.1 HS5.out (by decide))
     have HV6 := Lib.hid (ap.bl HO5.out.1 HV5.out (by decide))
     have HB6 : Hid (Below W.heap.size W w6) := Lib.hid (((Kp.of_below (S := fun _ => False) HB5.out).after ap.kp (fun b hb e => by have := HO5.out.2 b e; omega)).below (Nat.le_refl _) (fun _ h => h.elim))
     clear ap i1 i2 i3 i4
     refine hK _ _ (HS2.out _ HB6.out HS6.out HV6.out) ?_
     clear hK K
     (refine Text.purek rfl rfl (fun K hK => ⟨_, fun w' => by go_simp <;> rfl, ?_⟩); go_simp; refine hK _ ?_; clear hK K)
     refine Text.done ?_
     go_wp2_with fail
     go_roundw
     case rel => exact ⟨t + 1, by go_num, by omega, by rw [HN.out, ← List.append_assoc]; exact HO6, HB6, HS6⟩
     case measure => simp [intOf]; omega
    ·
     obtain rfl : t = nc := by omega
     have HN : Hid (ps ++ ((ws.zip cs).take (k + 1)).flatMap (addOf H ps) = ps ++ ((ws.zip cs).take k).flatMap (addOf H ps) ++ (addOf H ps (y, ck)).take t) := Lib.hid (by
      rw [flat_next HZ.out, ← List.append_assoc]
      congr 1
      have h1 : (addOf H ps (y, ck)).length = t := by rw [addOf_len HOC.out.2]; exact HNC.out
      rw [← h1, List.take_length])
     go_wp2_with fail
     go_roundw
     case rel => exact ⟨k + 1, by go_num, by omega, by rw [HN.out]; exact ho1, HBT, HST⟩
     case measure => simp [intOf]; omega
  ·
   obtain rfl : k = ws.length := by omega
   have e1 : (ws.zip cs).take ws.length = ws.zip cs := take_end HZL.out
   rw [e1, ← HPL.out] at ho
   have HLN : Hid ((plcs H ps (ws.zip cs)).length < 1000000) := Lib.hid (by have h1 := HFL.out ws.length; rw [e1, ← HPL.out] at h1; omega)
   clear e1
   go_wp2_with (first
    | (go_at_call 67; refine (sort_pl (cfP ws) (swoP ws) 68 #[.pointer (some ⟨W.heap.size, 0, none⟩)] (enters_of Tryz.func68 (by kernel_rfl) rfl) _ (plcs H ps (ws.zip cs)) wx ho.out.1 HLN.out (fun W9 x y hk9 => placed1_any W.heap.size xg Aw ws.length cw ws x y W9 ((hk9.bl hs.out (fun e => ho.out.1.ne_bl hs.out (by decide) _ e rfl)).get (j := 0) rfl) ((hk9.bl (HV.out.kept hb.out).bg (fun e => ho.out.1.ne_bl (HV.out.kept hb.out).bg (by decide) _ e rfl)).get (j := 0) rfl) (HC.out.w W9 ((HV.out.kept hb.out).kp.after hk9 (fun b hb9 e => by have h1 := ho.out.2 b e; have h2 := HV.out.kp.size; omega))))).mono ?_; rintro e w2 ⟨rfl, R, r1, r2, r3, r4⟩; have HR1 := Lib.hid r1; have HR2 := Lib.hid r2; have HR3 := Lib.hid r3; have HK2 := Lib.hid r4; clear r1 r2 r3 r4))
   go_ret
   exact ⟨_, R, rfl, ⟨HR3.out, fun b hb => ho.out.2 b hb⟩, HR1.out, HR2.out.imp (fun h => by rw [← cfP_lt]; exact h), ((Kp.of_below (S := fun _ => False) hb.out).after HK2.out (fun b hb e => by have := ho.out.2 b e; omega)).below (Nat.le_refl _) (fun _ h => h.elim)⟩
end
end Go.Proofs.YtklfficlegfhjaaGreat
/- One. -/
namespace Go.Proofs.YtklfficlegfhjaaGreat
open Go Go.RowKit Go.Shelf Go.WideMaps Go.ChangeMaps Gf Sha

section
variable {P : Program} {w : World} {o : Oper} {a : Act}
theorem exec_preM (s hi : Operand) (ty te : TypeId) (m : Nat) (hop : o.op = .slice ty s none (some hi) none) (hu : P.underlying ty = some (.slice te)) (h2 : (sizeOf te).run P w = .ok m w)
  (A : Option Addr) (n c k : Nat) (hs : a.eval s = .slice A n c) (hlo : a.eval hi = .int .i64 (k : Int)) (hk : k ≤ n) (hc : n ≤ c) : (execOp a.eval o).run P w = .ok (.value (.slice A k c)) w := by
 unfold execOp
 simp only [hop, Option.map_some, Option.map_none, hs, hlo]
 have h3 : k ≤ c := by omega
 simp [Instr.sliceAt, Instr.slice, run_underlying hu, Instr.sliceBounds, Instr.sliceBound, asIntOf, h3, h2, Result.andThen]
 intro _
 cases A <;> simp [Addr.add]
end
theorem wpList_preM {P : Program} {w : World} {ops : Array Oper} {rest : List Oper} {o : Oper} {a : Act} {Q : Exit → Act → World → Prop} (hg : o.guard = none) (s hi : Operand) (ty te : TypeId) (m : Nat) (hop : o.op = .slice ty s none (some hi) none) (hu : P.underlying ty = some (.slice te)) (h2 : (sizeOf te).run P w = .ok m w)
  (A : Option Addr) (n c k : Nat) (hs : a.eval s = .slice A n c) (hlo : a.eval hi = .int .i64 (k : Int)) (hk : k ≤ n) (hc : n ≤ c) (h : wpList P ops Q rest (a.put o.dst (.slice A k c)) w) : wpList P ops Q (o :: rest) a w :=
 wpList_plain hg fun _ hK => wp_val (exec_preM s hi ty te m hop hu h2 A n c k hs hlo hk hc) (hK _ _ h)
theorem szIs : (Tryz.prog.info? 39).map (·.size) = some 1 := by kernel_rfl
theorem szIn : (Tryz.prog.info? 3).map (·.size) = some 1 := by kernel_rfl
theorem add_okPl {w : Wt} {P : List Pl} {ds : List Int} (hw : okWt w) (hwt : wtB w = true) (hP : ∀ p ∈ P, okPl p) (hds : ∀ d ∈ ds, wfI d) : ∀ p ∈ addL w P ds, okPl p := fun p hp => by
 unfold addL at hp
 rcases List.mem_append.1 hp with hp | hp
 ·
  exact hP p hp
 ·
  obtain ⟨x, hx, rfl⟩ := List.mem_map.1 hp
  have h1 := List.of_mem_zip hx
  exact ⟨hw.1, (wo_ok hwt).1 _ h1.1, hds _ h1.2⟩
theorem add_len {w : Wt} {P : List Pl} {ds : List Int} (hwt : wtB w = true) : (addL w P ds).length ≤ P.length + 16 := by
 unfold addL
 rw [List.length_append, List.length_map, List.length_zip]
 have := (wo_ok (ps := P) hwt).2
 omega
theorem plcs_okPl {H : List Hd} (hH : ∀ h ∈ H, okHd h) : ∀ (wc : List (Wt × List Int)) (P : List Pl), (∀ x ∈ wc, okWt x.1 ∧ wtB x.1 = true ∧ ∀ j ∈ x.2, 0 ≤ j ∧ j < (H.length : Int)) → (∀ p ∈ P, okPl p) → ∀ p ∈ plcs H P wc, okPl p
 | [], _, _, hP => hP
 | x :: wc, P, h, hP => by
  have hx := h x (by simp)
  exact plcs_okPl hH wc (addL x.1 P (x.2.map (fun j => (hAt H j).dv))) (fun y hy => h y (by simp [hy])) (add_okPl hx.1 hx.2.1 hP (fun d hd => by
   obtain ⟨j, hj, rfl⟩ := List.mem_map.1 hd
   exact (hH _ (hAt_mem (hx.2.2 j hj))).1))
theorem plcs_len {H : List Hd} : ∀ (wc : List (Wt × List Int)) (P : List Pl), (∀ x ∈ wc, wtB x.1 = true) → (plcs H P wc).length ≤ P.length + wc.length * 16
 | [], P, _ => by simp [plcs]
 | x :: wc, P, h => by
  have h1 := plcs_len (H := H) wc (addL x.1 P (x.2.map (fun j => (hAt H j).dv))) (fun y hy => h y (by simp [hy]))
  have h2 := add_len (P := P) (ds := x.2.map (fun j => (hAt H j).dv)) (h x (by simp))
  have e : plcs H P (x :: wc) = plcs H (addL x.1 P (x.2.map (fun j => (hAt H j).dv))) wc := rfl
  rw [e, List.length_cons]
  omega
/-- The places behind choices, sorted, as a list that a call hands back. -/
theorem placed_ls {W : World} {base : Nat} {v : Value} {R : List Pl} {ws : List Wt} {hs : List Hd} {ps : List Pl} {cs : List (List Int)} (h : OwnP W base v R) (hok : Ok ws hs (plcs (prefL hs) ps (ws.zip cs))) (h2 : R.Perm (plcs (prefL hs) ps (ws.zip cs))) (h3 : R.Pairwise (fun a b => plLt ws b a = false))
  (hw : ∀ w ∈ ws, okWt w) (hh : ∀ x ∈ hs, okHd x) (hp : ∀ p ∈ ps, okPl p) (hokc : OkC (prefL hs) ps (ws.zip cs)) (hpm : ps.length ≤ 1000) : ∃ A c n, v = .slice A n c ∧ LS rPl 3 32 W A n c (sortedL ws (plcs (prefL hs) ps (ws.zip cs))) := by
 have hR := sorted_one hok h2 h3
 have hall := plcs_okPl (fun x hx => hh x ((prefL_perm hs).mem_iff.1 hx)) (ws.zip cs) ps (fun x hx => ⟨hw _ (List.of_mem_zip hx).1, wants_wt hok.w _ (List.of_mem_zip hx).1, (hokc x hx).1⟩) hp
 have hlen := plcs_len (H := prefL hs) (ws.zip cs) ps (fun x hx => wants_wt hok.w _ (List.of_mem_zip hx).1)
 have hz : (ws.zip cs).length ≤ ws.length := by rw [List.length_zip]; omega
 have h8 := wants_8 hok.w
 have hl := h2.length_eq
 obtain ⟨A, c, e, hls⟩ := h.ls (fun x hx => hall x (h2.mem_iff.1 hx)) (by unfold lim; omega)
 exact ⟨A, c, _, e, by rw [← hR]; exact hls⟩
theorem okc_one {H : List Hd} {ps : List Pl} {ws : List Wt} {i : Nat} {w : Wt} {c : List Int} (hi : ws[i]? = some w) (h1 : ∀ j ∈ c, 0 ≤ j ∧ j < (H.length : Int)) (h2 : c.length ≤ (withoutL w ps).length) : OkC H ps (ws.zip ((List.replicate ws.length []).set i c)) := fun x hx => by
 obtain ⟨k, hk, rfl⟩ := List.getElem_of_mem hx
 obtain ⟨hil, rfl⟩ := List.getElem?_eq_some_iff.1 hi
 rw [List.getElem_zip]
 simp only
 rw [List.getElem_set]
 by_cases e : i = k
 ·
  subst e
  rw [if_pos rfl]
  exact ⟨h1, h2⟩
 ·
  rw [if_neg e, List.getElem_replicate]
  exact ⟨fun j hj => (by cases hj), Nat.zero_le _⟩
theorem is_one {W : World} {g n i : Nat} {A : Option Addr} {k c : Nat} {L : List Int} (h : BL W g 39 ((List.replicate n nilI).set i (.slice A k c))) (hL : LS rInt 1 8 W A k c L) (hn : n ≤ 1000) : LS rIs 1 24 W (some ⟨g, 0, none⟩) n n ((List.replicate n []).set i L) := by
 refine ⟨by simp, Nat.le_refl _, by unfold lim; omega, fun j hj => ?_⟩
 have hjn : j < n := by simpa using hj
 by_cases e : i = j
 ·
  subst e
  refine ⟨g, 0, [.slice A k c], rfl, fun q v hq => ?_, ⟨A, k, c, rfl, ?_⟩⟩
  ·
   cases q with
   | zero =>
    have e9 : v = .slice A k c := by simpa using hq.symm
    subst e9
    have := h.get (j := i) (by rw [List.getElem?_set_self (by simpa using hjn)])
    simpa using this
   | succ q => simp at hq
  ·
   rw [List.getElem_set_self]; exact hL
 ·
  refine ⟨g, 0, [nilI], rfl, fun q v hq => ?_, ⟨none, 0, 0, rfl, ?_⟩⟩
  ·
   cases q with
   | zero =>
    have e9 : v = nilI := by simpa using hq.symm
    subst e9
    have := h.get (j := j) (v := nilI) (by rw [List.getElem?_set_ne e]; simp [hjn])
    simpa using this
   | succ q => simp at hq
  ·
   rw [List.getElem_set_ne e, List.getElem_replicate]; exact LS.nil
section
set_option maxRecDepth 100000
set_option maxHeartbeats 4000000
theorem one_any (A : Option Addr) (n c : Nat) (ws : List Wt) (B : Option Addr) (m d : Nat) (hs : List Hd) (P : Option Addr) (p q : Nat) (ps : List Pl) (s : List UInt8) (w : World) (h : LS rWt 4 40 w A n c ws) (hh : LS rHd 3 24 w B m d hs) (hp : LS rPl 3 32 w P p q ps) (hpm : p ≤ 1000) :
  Calls Tryz.prog 16 #[.slice A n c, .slice B m d, .slice P p q, .string (strB s)] w fun e w' => ∃ A' n' c', e = .returned (.tuple #[.slice A' n' c', .int .i64 (oneV ws hs ps s).2]) ∧ LS rPl 3 32 w' A' n' c' (oneV ws hs ps s).1 ∧ Below w.heap.size w w' := by
 have H := Lib.hid h
 have HH := Lib.hid hh
 have HP := Lib.hid hp
 have HPM := Lib.hid hpm
 clear h hh hp hpm
 obtain ⟨E, hE⟩ : ∃ E, E = checkE ws hs ps := ⟨_, rfl⟩
 have HE := Lib.hid hE
 by_cases h0 : E = 0
 ·
  have f1 : (E != 0) = false := by rw [h0]; rfl
  have hok := check_ok.1 (hE.symm.trans h0)
  have HOK := Lib.hid hok
  rcases fdI_cases ws s with ⟨hz, hwn⟩ | ⟨i, y, hz, hy, hwy⟩
  ·
   have HN : Hid (oneV ws hs ps s = ([], 4)) := Lib.hid (by unfold oneV; rw [if_neg (by rw [← hE, h0]; exact fun h => h rfl), hwn])
   have HZ := Lib.hid hz
   clear hE h0 hok hz hwn
   go_enter Tryz.func16, Tryz.ntmps16
   go_wp2_with (first
    | (go_at_call 11; refine (check_any A n c ws B m d hs P p q ps w H.out HH.out HP.out (by have := HPM.out; omega)).mono ?_; rintro e w1 ⟨rfl, b1⟩; rw [← HE.out]; have HB1 := Lib.hid b1; clear b1)
    | (go_at_call 44; refine (find_any A n c ws s w1 (H.out.kept stay_wt HB1.out)).mono ?_; rintro e w2 ⟨rfl, b1⟩; rw [HZ.out]; have HB2 := Lib.hid (below_then HB1.out b1); clear b1))
   go_ret2
   exact ⟨none, 0, 0, by rw [HN.out]; rfl, by rw [HN.out]; exact LS.nil, HB2.out⟩
  ·
   have HY := Lib.hid hy
   have HWY := Lib.hid hwy
   have HZ := Lib.hid hz
   have HCK : Hid (checkE ws hs ps = 0) := Lib.hid (hE.symm.trans h0)
   have hi0 : ¬ (i : Int) < 0 := by omega
   obtain rfl : ws.length = n := H.out.1
   have hilt : i < ws.length := (List.getElem?_eq_some_iff.1 hy).1
   have hiI : (i : Int) < (ws.length : Int) := by omega
   clear hE h0 hok hz hwy hy
   go_enter Tryz.func16, Tryz.ntmps16
   go_wp2_with (first
    | (go_at_call 11; refine (check_any A _ c ws B m d hs P p q ps w H.out HH.out HP.out (by have := HPM.out; omega)).mono ?_; rintro e w1 ⟨rfl, b1⟩; rw [← HE.out]; have HB1 := Lib.hid b1; clear b1)
    | (go_at_call 44; refine (find_any A _ c ws s w1 (H.out.kept stay_wt HB1.out)).mono ?_; rintro e w2 ⟨rfl, b1⟩; rw [HZ.out]; have HB2 := Lib.hid (below_then HB1.out b1); clear b1))
   have HW2 := Lib.hid (H.out.kept stay_wt HB2.out)
   refine (newSearch_any A _ c ws B m d hs P p q ps w2 HW2.out (HH.out.kept stay_hd HB2.out) (HP.out.kept stay_pl HB2.out) HOK.out.w HOK.out.h (by have := HPM.out; omega)).mono ?_
   rintro e W1 ⟨x, gm, csv, rfl, hns⟩
   have HTL : Hid (∀ b, T0 x b → w2.heap.size ≤ b ∧ b < W1.heap.size) := Lib.hid (fun b hb => by
    rcases hb with rfl | hb | rfl
    ·
     exact ⟨hns.z.1, hns.bg.lt⟩
    ·
     exact ⟨hns.l.2 b hb, hns.l.1.lt hb⟩
    ·
     exact ⟨hns.z.2.2.2, hns.c.lt⟩)
   have hn8 := wants_8 HOK.out.w
   have hm12 := holders_12 HOK.out.h
   have hnl := HW2.out.1
   have hml := HH.out.1
   have HC : Hid (SrC W1 (T0 x) x ws (prefL hs) ps) := Lib.hid (hns.src HW2.out (LS.okHd HH.out) (by omega) (by omega) HH.out.1 (wants_wt HOK.out.w) (W2 := W1) (Kp.refl _ _) x.vs x.vf (fun b hb => hb) (fun b hb => .inl hb) (fun b hb => (HTL.out b hb).2))
   have HV : Hid (SrV W1 W1 (T0 x) x ws (prefL hs) (left0 ws hs ps) 0) := Lib.hid (hns.srv HW2.out.1 HH.out.1 (W2 := W1) (Kp.refl _ _) x.vs x.vf hns.bg)
   have HPL : Hid ((prefL hs).length = m) := Lib.hid (((prefL_perm hs).length_eq).trans HH.out.1)
   have HB3 := Lib.hid (below_then HB2.out hns.b)
   clear hns
   obtain ⟨mi, gm', om, cs1, hmi, em', hatm, Ai, ni, ci, rfl, hli⟩ := LS.elem_at (HC.out.mi W1 HV.out.kp) hilt
   have hmi2 : mi = withoutL y ps := by
    rw [List.getElem?_map, HY.out] at hmi
    simpa using hmi.symm
   have HNI : Hid (ni = (withoutL y ps).length) := Lib.hid (by rw [← hmi2]; exact hli.1.symm)
   have t3 : W1.cell? ⟨x.g, 4, none⟩ = some (.slice (some ⟨gm', om, none⟩) ws.length x.cm) := by rw [← em']; exact HV.out.bg.get (j := 4) rfl
   have t5 : W1.cell? ⟨gm', om + i, none⟩ = some (.slice Ai ni ci) := by
    have h9 := hatm 0 _ rfl
    rw [Nat.mul_one] at h9
    exact h9
   have HT3 := Lib.hid t3
   have HT5 := Lib.hid t5
   clear hmi em' hatm hli hmi2 t3 t5
   go_wp2_with (first
    | (go_at_call 47; refine (free_any HC.out HV.out i y HY.out hn8 (by have := HPL.out; omega)).mono ?_; rintro e W2 ⟨A2, n2, c2, rfl, r1, r2⟩; have HF2 := Lib.hid r1; have HB4 := Lib.hid r2; have HMN : Hid (min (n2 : Int) (ni : Int) = ((min n2 ni : Nat) : Int)) := Lib.hid (by omega); have HNC : Hid (n2 ≤ c2) := Lib.hid r1.1.2.1; clear r1 r2)
    | ((with_reducible show OpW 36); refine wpList_mk _ rfl 97 39 (.tmp 35) (.tmp 35) rfl nilI 24 Tryz.underlying97 infoIs rfl ws.length ws.length _ _ rfl rfl rfl rfl (Nat.le_refl _) (by omega) (by omega) ?_; intro W3 a1 a2 a3; have HG3 := Lib.hid a1; have HB5 := Lib.hid (below_then HB4.out a2); have HK3 := Lib.hid a2; have s3 := cell_kept HB5.out HT3.out; have s5 := cell_kept HB5.out HT5.out; clear a1 a2 a3)
    | ((with_reducible show OpW 51); refine wpList_preM rfl (.tmp 39) (.tmp 50) 39 3 1 rfl Tryz.underlying39 (sz1 _ szIn _) A2 n2 c2 (min n2 ni) rfl (congrArg (Value.int .i64) HMN.out) (by omega) HNC.out ?_)
    | ((with_reducible show OpN); refine wpList_store1 _ rfl 39 (.tmp 52) (.tmp 51) rfl (sz1 _ szIs _) W2.heap.size i _ _ (.slice A2 (min n2 ni) c2) rfl rfl HG3.out rfl rfl (by simp; exact hilt) ?_; intro W4 a1 a2 a3; have HG4 := Lib.hid a1; have HB6 : Hid (Below W1.heap.size W1 W4) := Lib.hid (((Kp.of_below (S := fun _ => False) HB5.out).after a2 (fun b hb e => by have := HB4.out.size; omega)).below (Nat.le_refl _) (fun _ h => h.elim)); have HF4 := Lib.hid (((HF2.out.1.kept stay_int HK3.out).kpn (w' := W4) (S := (· = W2.heap.size)) (fun _ _ h => h) a2 (fun a ha e => by have := (HF2.out.2 a ha).2; have e' : a.block = W2.heap.size := e; omega))); clear a1 a2 a3))
   have HFP : Hid ((withoutL y ps).length = ni ∧ (freeP (prefL hs) ps (left0 ws hs ps) y).length = n2) := Lib.hid ⟨HNI.out.symm, HF2.out.1.1⟩
   have HYM := Lib.hid (List.mem_of_getElem? HY.out)
   have hcs := is_one HG4.out (HF4.out.pre (k := min n2 ni) (by omega)) (by omega)
   have hokc : OkC (prefL hs) ps (ws.zip ((List.replicate ws.length []).set i ((freeP (prefL hs) ps (left0 ws hs ps) y).take (min n2 ni)))) := okc_one HY.out (fun j hj => (free_mem.1 (List.mem_of_mem_take hj)).1) (by rw [List.length_take, HFP.out.1]; omega)
   have hpl := placed_any HC.out (HV.out.kept HB6.out) P p q (HP.out.kept stay_pl (below_then HB3.out HB6.out)) _ _ _ hcs hokc (wants_st HOK.out.w) (wants_wt HOK.out.w) hn8 HPM.out
   have hP := plcs_one (prefL hs) ((freeP (prefL hs) ps (left0 ws hs ps) y).take (min n2 ni)) ws i y ps HY.out
   rw [hP] at hpl
   have hok9 := one_ok HOK.out HYM.out (k := min n2 ni) (by rw [HFP.out.1]; omega)
   have HN : Hid (oneV ws hs ps s = (sortedL ws (addL y ps (((freeP (prefL hs) ps (left0 ws hs ps) y).take (min n2 ni)).map (fun j => (hAt (prefL hs) j).dv))), 0)) := Lib.hid (by
    unfold oneV
    rw [if_neg (by rw [HCK.out]; exact fun h => h rfl), HWY.out]
    have e1 : (freeL ws hs ps y).length = n2 := by rw [free_eq (left0_rel ws hs ps) (same_refl _ _), List.length_map]; exact HFP.out.2
    simp only
    rw [free_take, e1, HFP.out.1])
   have HOK9 := Lib.hid hok9
   refine hpl.mono ?_
   rintro e W5 ⟨v, R, rfl, r1, r2, r3, r4⟩
   rw [← hP] at r2
   obtain ⟨A9, c9, n9, rfl, r5⟩ := placed_ls r1 (by rw [hP]; exact HOK9.out) r2 r3 (fun x hx => by obtain ⟨k, hk, rfl⟩ := List.getElem_of_mem hx; exact LS.wt_ok H.out (List.getElem?_eq_getElem hk)) (LS.okHd HH.out) (LS.okPl HP.out) hokc (by rw [HP.out.1]; exact HPM.out)
   rw [hP] at r5
   have HR5 := Lib.hid r5
   have HB7 := Lib.hid (below_then (below_then HB3.out HB6.out) r4)
   clear hpl hP hok9 hcs hokc r1 r2 r3 r4 r5
   go_wp2_with fail
   go_ret2
   exact ⟨A9, n9, c9, by rw [HN.out]; rfl, by rw [HN.out]; exact HR5.out, HB7.out⟩
 ·
  have f1 : (E != 0) = true := by rw [bne_iff_ne]; exact h0
  have HN : Hid (oneV ws hs ps s = ([], E)) := Lib.hid (by unfold oneV; rw [if_pos (by rw [← hE]; exact h0), ← hE])
  clear hE h0
  go_enter Tryz.func16, Tryz.ntmps16
  go_wp2_with (first
   | (go_at_call 11; refine (check_any A n c ws B m d hs P p q ps w H.out HH.out HP.out (by have := HPM.out; omega)).mono ?_; rintro e w1 ⟨rfl, b1⟩; rw [← HE.out]; have HB1 := Lib.hid b1; clear b1))
  go_ret2
  exact ⟨none, 0, 0, by rw [HN.out]; rfl, by rw [HN.out]; exact LS.nil, HB1.out⟩
end
end Go.Proofs.YtklfficlegfhjaaGreat
