/- Several texts in one: Qy, Qz, Ja, Jb. -/
import Derived.Test.YtklfficlegfhjaaGreatC12
/- take. -/
namespace Go.Proofs.YtklfficlegfhjaaGreat
open Go Go.RowKit Go.Shelf Go.WideMaps Go.ChangeMaps Gf Sha

theorem RW.set1 {w : World} {te : TypeId} {g o n c : Nat} {l : List Value} (h : RW w te 1 (.slice (some ⟨g, o, none⟩) n c) n l) {j : Nat} (hj : j < n) :
  ∃ cs, BL w g te cs ∧ o + j < cs.length ∧ cs[o + j]? = l[j]? ∧ ∀ (w' : World) (u : Value), BL w' g te (cs.set (o + j) u) → RW w' te 1 (.slice (some ⟨g, o, none⟩) n c) n (l.set j u) := by
 rcases h.2 with ⟨e, h0⟩ | ⟨g', o', c', cs, e, hb, h1, h2, h3, h4⟩
 ·
  cases e
 ·
  cases e
  refine ⟨cs, hb, by omega, ?_, fun w' u hb' => ⟨by rw [List.length_set]; exact h.1, .inr ⟨g, o, c, _, rfl, hb', h1, h2, by rw [List.length_set]; exact h3, ?_⟩⟩⟩
  ·
   rw [← h4, List.getElem?_take_of_lt (by omega), List.getElem?_drop]
  ·
   rw [← h4, List.drop_set, if_neg (by omega), List.take_set]
   congr 1
   omega
theorem LS.kpI {w w' : World} {A : Option Addr} {n c : Nat} {L : List Int} {S : Nat → Prop} (h : LS rInt 1 8 w A n c L) (hk : Kp S w w') (hn : ∀ a, A = some a → ¬ S a.block) : LS rInt 1 8 w' A n c L := h.kpn (w' := w') (fun _ _ h => h) hk hn
theorem LS.kpB {w w' : World} {A : Option Addr} {n c : Nat} {L : List Int} {S : Nat → Prop} (h : LS rInt 1 8 w A n c L) (hk : Kp S w w') (hn : ∀ b o, A = some ⟨b, o, none⟩ → ¬ S b) : LS rInt 1 8 w' A n c L :=
 ⟨h.1, h.2.1, h.2.2.1, fun k hk' => let ⟨g, o, cs, e, h1, h2⟩ := h.2.2.2 k hk'; ⟨g, o, cs, e, fun j v hj => hk.cell (h1 j v hj) (hn _ _ e), h2⟩⟩
def Bd (l : List Int) (b : Int) : Prop := ∀ v ∈ l, -b ≤ v ∧ v ≤ b
theorem zAt_some {l : List Int} {k : Nat} {j : Int} (hj : j = (k : Int)) (h : k < l.length) : l[k]? = some (zAt l j) := by
 subst hj
 unfold zAt
 rw [Int.toNat_natCast, List.getD_eq_getElem?_getD, List.getElem?_eq_getElem h]; rfl
theorem Bd.at_ {l : List Int} {b : Int} (h : Bd l b) {k : Nat} {j : Int} (hj : j = (k : Int)) (hk : k < l.length) : -b ≤ zAt l j ∧ zAt l j ≤ b := h _ (List.mem_of_getElem? (zAt_some hj hk))
theorem Bd.set {l : List Int} {b d v : Int} (h : Bd l b) (hd : b ≤ d) (hv : -d ≤ v ∧ v ≤ d) (k : Nat) : Bd (l.set k v) d := fun x hx => by
 rcases List.mem_or_eq_of_mem_set hx with h1 | rfl
 ·
  have := h x h1; omega
 ·
  exact hv
theorem takeL_next {left c : List Int} {k : Nat} {j : Int} (z : Int) (h : c[k]? = some j) : takeL left (c.take (k + 1)) z = (takeL left (c.take k) z).set j.toNat (zAt (takeL left (c.take k) z) j - z) := by
 unfold takeL
 rw [take_next h, List.foldl_append]; rfl
theorem takeL_len (left c : List Int) (z : Int) : (takeL left c z).length = left.length := by
 unfold takeL
 induction c generalizing left with
 | nil => rfl
 | cons j c ih => rw [List.foldl_cons, ih, List.length_set]
section
set_option maxRecDepth 100000
set_option maxHeartbeats 4000000
theorem take_any {W0 W : World} {T : Nat → Prop} {x : SX} {ws : List Wt} {hs : List Hd} {left : List Int} {n : Nat} (hV : SrV W0 W T x ws hs left n) (tl : ∀ b, x.vl.ownBlock = some b → T b) (A : Option Addr) (m c : Nat) (ch : List Int) (hch : LS rInt 1 8 W A m c ch) (hdis : ∀ b o, A = some ⟨b, o, none⟩ → x.vl.ownBlock ≠ some b)
  (z : Int) (hidx : ∀ j ∈ ch, 0 ≤ j ∧ j < (hs.length : Int)) (hz : -65536 ≤ z ∧ z ≤ 65536) (hbd : Bd left 1099511627776) (hm : m ≤ 100) (hgc : x.vl.ownBlock ≠ some x.g) :
  Calls Tryz.prog 73 #[.pointer (some ⟨x.g, 0, none⟩), .slice A m c, .int .i64 z] W fun e W' => (∃ v, e = .returned v) ∧ SrV W0 W' T x ws hs (takeL left ch z) n ∧ Kp (fun b => x.vl.ownBlock = some b) W W' := by
 obtain ⟨xg, Aw, cw, Ah, ch', vl, bm, Am, cm, gc, cc, vs, vf⟩ := x
 have HV := Lib.hid hV
 have HCH := Lib.hid hch
 have HCL := Lib.hid hch.1
 have HDIS := Lib.hid hdis
 have HIDX := Lib.hid hidx
 have HBD := Lib.hid hbd
 have HTL := Lib.hid tl
 have HG := Lib.hid hgc
 have HLL : Hid (left.length = hs.length) := Lib.hid (by have := hV.l.1; simpa [iL] using this)
 clear hV hch hdis hidx hbd hgc tl
 go_enter Tryz.func73, Tryz.ntmps73
 go_wp2_with fail
 go_loopw [10] (fun iv wr => ∃ k : Nat, iv = .int .i64 (k : Int) ∧ k ≤ m ∧ Hid (SrV W0 wr T ⟨xg, Aw, cw, Ah, ch', vl, bm, Am, cm, gc, cc, vs, vf⟩ ws hs (takeL left (ch.take k) z) n) ∧ Hid (Kp (fun b => vl.ownBlock = some b) W wr) ∧ Hid (Bd (takeL left (ch.take k) z) (1099511627776 + 65536 * (k : Int)))) (fun iv _ => m - (intOf iv).toNat)
 case atStart => exact ⟨0, rfl, by omega, HV, Lib.hid (Kp.refl _ _), Lib.hid (by simpa [takeL] using HBD.out)⟩
 case round =>
  obtain ⟨k, rfl, hk, hv, hkp, hbd⟩ := hrel
  obtain ⟨wx, hwx⟩ : ∃ x, x = wr := ⟨_, rfl⟩
  rw [← hwx] at hv hkp ⊢
  clear hwx
  by_cases hlt : k < m
  ·
   obtain ⟨j, gA, oA, hj, ea, cj⟩ := (HCH.out.kpB hkp.out (fun b o ha e => HDIS.out b o ha e)).int_at (Below.refl _ _) hlt
   have hjm := HIDX.out j (List.mem_of_getElem? hj)
   obtain ⟨p, rfl⟩ : ∃ p : Nat, j = (p : Int) := ⟨j.toNat, by omega⟩
   have hpl : p < hs.length := by omega
   have hpI : (p : Int) < (hs.length : Int) := hjm.2
   have hp0 : (0 : Int) ≤ (p : Int) := hjm.1
   obtain ⟨gl, ol, cl, ev, hcl, hatl⟩ := hv.out.l.at_ (by omega)
   have hlen : (takeL left (ch.take k) z).length = hs.length := (takeL_len _ _ _).trans HLL.out
   have hN := takeL_next (left := left) z hj
   obtain ⟨U, hU⟩ : ∃ U, U = zAt (takeL left (ch.take k) z) (p : Int) := ⟨_, rfl⟩
   have hb1 := hbd.out.at_ (k := p) rfl (by omega)
   have hsm := zAt_some (l := takeL left (ch.take k) z) (k := p) rfl (by omega)
   rw [← hU] at hN hb1 hsm
   rw [Int.toNat_natCast] at hN
   have hbd2 := hbd.out.set (d := 1099511627776 + 65536 * ((k + 1 : Nat) : Int)) (v := U - z) (by omega) (by omega) p
   rw [← hN] at hbd2
   have hw : IntKind.i64.wrap (U - z) = U - z := IntWalk.i64_in _ (by omega)
   dsimp only at ev
   subst ev
   subst ea
   obtain ⟨cs, hcs, hcl2, hce, hset⟩ := hv.out.l.set1 hpl
   have cu := hatl p (intV U) (by unfold iL; rw [List.getElem?_map, hsm]; rfl)
   have s2 := hv.out.bg.get (j := 2) rfl
   dsimp only at s2
   have cu' : wx.cell? ⟨gl, ol + p, none⟩ = some (.int .i64 U) := cu
   have HN := Lib.hid hN
   have HB2 := Lib.hid hbd2
   have HCS := Lib.hid hcs
   have HCL2 := Lib.hid hcl2
   have HSET := Lib.hid hset
   clear hatl hlen hU hb1 hsm hcs hcl2 hce hset cu hbd2 hN hjm hj
   go_wp2_with (first
    | ((with_reducible show OpN); refine wpList_store1 _ rfl 3 (.tmp 23) (.tmp 22) rfl (sz1 _ (by kernel_rfl) _) gl (ol + p) _ _ (.int .i64 (U - z)) rfl rfl HCS.out rfl rfl HCL2.out ?_; intro w7 a1 a2 a3; have HV7 := Lib.hid a1; have HK7 := Lib.hid a2; have HZ7 := Lib.hid a3; clear a1 a2 a3))
   have hng : xg ≠ gl := fun e => HG.out (by rw [e]; rfl)
   refine ⟨⟨k + 1, by rw [show ((k + 1 : Nat) : Int) = (k : Int) + 1 by omega], by omega, Lib.hid ⟨hv.out.kp.trans (HK7.out.mono (fun b _ e => by subst e; exact HTL.out _ rfl)), HK7.out.bl hv.out.bg hng, ?_⟩, Lib.hid (hkp.out.trans (HK7.out.mono (fun b _ e => by subst e; rfl))), HB2⟩, by simp [intOf]; omega⟩
   rw [HN.out]
   have h9 := HSET.out w7 _ HV7.out
   rw [show iL ((takeL left (ch.take k) z).set p (U - z)) = (iL (takeL left (ch.take k) z)).set p (.int .i64 (U - z)) from List.map_set ..]
   exact h9
  ·
   obtain rfl : k = m := by omega
   have e1 : ch.take k = ch := by rw [← HCL.out, List.take_length]
   rw [e1] at hv
   go_wp2_with fail
   go_end0
   exact ⟨⟨_, rfl⟩, hv.out, hkp.out⟩
end
end Go.Proofs.YtklfficlegfhjaaGreat
/- choices: the iterator. -/
namespace Go.Proofs.YtklfficlegfhjaaGreat
open Go Go.RowKit Go.Shelf Go.WideMaps Go.ChangeMaps Gf Sha
attribute [local go_sem] Oper.semAt_some

/-- A call of a function value. -/
theorem wp_callV {P : Program} {o : Oper} {a : Act} {w : World} {K : Act → World → Prop} {Q : Exit → Act → World → Prop} {x : Operand} {xs : Array Operand} {ts : Array TypeId} {f : FuncId} {args lb : Array Value} {R : Value → World → Prop} (hop : o.op = .call { callee := .value x, args := xs, argTypes := ts })
  (hx : a.eval x = .func (.func f) #[] lb) (eg : ∀ args w, (callFunc f args).run P w = .ok (.enter f args) w) (hargs : xs.map a.eval = args) (h : Calls P f (args ++ lb) w fun e w' => ∃ v, e = .returned v ∧ R v w') (hK : ∀ v w', R v w' → K (a.put o.dst v) w') : o.wp P a w K Q := by
 unfold Oper.wp execOp
 subst hargs
 simp only [hop, resolve, hx]
 simp [invoke, go_sem, eg]
 refine h.mono ?_
 rintro e w' ⟨v, rfl, hr⟩
 exact hK v w' hr
/-- The loop of choices: what has been handed out, the marks. -/
structure ChR (B yb l : Nat) (A : Option Addr) (c : Nat) (L : List Int) (J : Nat → (Nat → Prop) → World → Prop) (z1 : Int) (xs : List (List Int)) (s : Int) (Ds : List Nat) (k0 : Nat) (S0 : Nat → Prop) (W : World) : Prop where
 y : BL W yb 138 [.func (.yield l) #[] #[]]
 f : LS rInt 1 8 W A L.length c L
 fb : ∀ a, A = some a → B ≤ a.block ∧ a.block < W.heap.size
 yS : ¬ S0 yb ∧ ∀ a, A = some a → ¬ S0 a.block
 yl : B ≤ yb
 nd : Ds.Nodup
 ds : ∀ D ∈ Ds, B ≤ D ∧ ¬ S0 D ∧ W.heap[D]? = some (.deferred (some []))
 j : J k0 S0 W
 sb : ∀ i, S0 i → B ≤ i ∧ i < W.heap.size
 dr : xs.drop k0 = choL L (z1, s)
 kl : k0 ≤ xs.length
theorem heap_lt {w : World} {D : Nat} {o : Obj} (h : w.heap[D]? = some o) : D < w.heap.size := (Array.getElem?_eq_some_iff.1 h).1
theorem marks_leave {F : Fence} {n : Nat} {P : Program} {fn : Func} {tmps : Array Value} {R : Ending → World → Prop} : ∀ (Ds : List Nat) (w : World), Ds.Nodup → (∀ D ∈ Ds, w.heap[D]? = some (.deferred (some []))) →
  (∀ w', Kp (fun i => i ∈ Ds) w w' → LeavesIn F n P fn tmps R [] .returning w') → LeavesInM F n P fn tmps R (Ds.map (fun D => { target := .collected D, args := #[] })) .returning w
 | [], w, _, _, h => h w (Kp.refl _ _)
 | D :: Ds, w, hnd, hD, h => by
  refine ⟨by simp, .inl ⟨D, _, rfl, run_takeDeferred (hD D (by simp)), ?_⟩⟩
  rw [List.nodup_cons] at hnd
  refine marks_leave Ds _ hnd.2 (fun D' hm => (World.putObj_heap_other (fun (e : D' = D) => hnd.1 (by rw [← e]; exact hm))).trans (hD D' (by simp [hm]))) (fun w' hk => h w' ?_)
  exact ((Kp.refl _ w).put (.inl (by simp)) _).trans (hk.mono (fun i _ hi => by simp [hi]))
theorem choL_step (l : List Int) {z1 s : Int} (h0 : 0 ≤ z1) (h : z1 ≤ s) : choL l (z1, s) = combos l s.toNat ++ choL l (z1, s - 1) := by
 obtain ⟨k, rfl⟩ : ∃ k : Nat, s = (k : Int) := ⟨s.toNat, by omega⟩
 unfold choL
 dsimp only
 rw [if_neg (by omega), Int.toNat_natCast]
 cases k with
 | zero =>
  rw [if_pos (by omega), downN, if_pos (by omega)]
  simp
 | succ k =>
  rw [if_neg (by omega), downN, if_pos (by omega), show ((k + 1 : Nat) : Int) - 1 = (k : Int) by omega, Int.toNat_natCast, List.flatMap_cons]
theorem downN_none {e : Nat} : ∀ {k : Nat}, k < e → downN e k = []
 | 0, h => by rw [downN, if_neg (by omega)]
 | k + 1, h => by rw [downN, if_neg (by omega)]
theorem choL_end (l : List Int) {z1 s : Int} (h : s < z1) : choL l (z1, s) = [] := by
 unfold choL
 dsimp only
 split
 ·
  rfl
 ·
  rw [downN_none (by omega)]; rfl
section
set_option maxRecDepth 100000
set_option maxHeartbeats 4000000
theorem choices_itr {W0 W : World} {T : Nat → Prop} {x : SX} {ws : List Wt} {hs : List Hd} {ps : List Pl} {left : List Int} {n : Nat} (hC : SrC W0 T x ws hs ps) (hV : SrV W0 W T x ws hs left n) (ex : Option Int) (i : Nat) (w : Wt) (hi : ws[i]? = some w) (hw8 : ws.length ≤ 8) (hh : hs.length ≤ 12)
  (sb ib : Nat) (hsb : BL W sb 94 [.pointer (some ⟨x.g, 0, none⟩)]) (hib : BL W ib 3 [.int .i64 (i : Int)]) (fsz : FuncId) (lbs : Array Value) (hvs : x.vs = .func (.func fsz) #[] lbs) (eg : ∀ args w, (callFunc fsz args).run Tryz.prog w = .ok (.enter fsz args) w)
  (z1 z2 : Int) (hz : sizesP ps ex w ((freeP hs ps left w).length : Int) = (z1, z2)) (hz1 : 0 ≤ z1 ∧ z1 ≤ 100) (hz2 : -1 ≤ z2 ∧ z2 ≤ 100)
  (hsz : ∀ W', SrV W0 W' T x ws hs left n → Calls Tryz.prog fsz (#[.int .i64 (i : Int), .int .i64 ((freeP hs ps left w).length : Int)] ++ lbs) W' fun e w' => e = .returned (.tuple #[.int .i64 z1, .int .i64 z2]) ∧ Below W'.heap.size W' w') :
  Itr Fence.wide Tryz.prog 83 #[.pointer (some ⟨sb, 0, none⟩), .pointer (some ⟨ib, 0, none⟩)] (fun _ => False) (choP hs ps ex left w) chE W := by
 intro nn l J Jx hJ hJx hY h0
 obtain ⟨xg, Aw, cw, Ah, ch, vl, bm, Am, cm, gc, cc, vs, vf⟩ := x
 dsimp only at hvs hsb
 subst hvs
 have HC := Lib.hid hC
 have HV := Lib.hid hV
 have HSB := Lib.hid hsb
 have HIB := Lib.hid hib
 have HJ := Lib.hid hJ
 have HJX := Lib.hid hJx
 have HY := Lib.hid hY
 have H0 := Lib.hid h0
 have HI := Lib.hid hi
 have HSZ := Lib.hid hsz
 have HXS : Hid (choP hs ps ex left w = choL (freeP hs ps left w) (z1, z2)) := Lib.hid (by rw [choP, hz])
 have HFL : Hid ((freeP hs ps left w).length ≤ 12) := Lib.hid (by
  refine Nat.le_trans (List.length_filter_le _ _) ?_
  rw [upI_length]; omega)
 clear hC hV hsb hib hJ hJx hY h0 hi hsz hz
 obtain ⟨L, hL⟩ : ∃ L, L = freeP hs ps left w := ⟨_, rfl⟩
 obtain ⟨xs, hxs⟩ : ∃ xs, xs = choP hs ps ex left w := ⟨_, rfl⟩
 rw [← hxs] at HXS HY ⊢
 rw [← hL] at HXS HFL
 clear hxs
 obtain ⟨B, hB⟩ : ∃ B, B = W.heap.size := ⟨_, rfl⟩
 rw [← hB] at HJ HJX HY ⊢
 refine callsIn_of_wp_marks (F := Fence.wide) Tryz.func83 rfl trivial ?_ rfl
 simp only [Tryz.ntmps83, List.size_toArray, List.length_cons, List.length_nil, Nat.reduceAdd, Nat.reduceSub, Array.replicate_succ, Array.replicate_zero, List.push_toArray, List.append_toArray, List.nil_append, List.cons_append]
 gi_wp2_with (first
  | ((with_reducible show wpListIn _ _ _ _ _ (⟨some 3, _, _, _, _, _⟩ :: _) _ _); refine fw_list (by intro c h; cases h) ?_; refine wpList_box1 _ rfl 138 (.tmp 0) rfl _ rfl rfl ?_; intro w1 a1 a2 a3; have HV1 := Lib.hid a1; have HX1 := Lib.hid a2; have HZ1 := Lib.hid a3; have c1 := (HSB.out.kept a2).get (j := 0) rfl; have c2 := (HIB.out.kept a2).get (j := 0) rfl; clear a1 a2 a3; refine fw_back ?_))
 refine ⟨trivial, fun h => (by cases h), ?_⟩
 refine (fw_calls (ro := none) (free_any HC.out (HV.out.kept HX1.out) i w HI.out hw8 hh)).mono ?_
 rintro e w2 ⟨A, m, c, rfl, r1, r2⟩
 have HN2 := Lib.hid r1
 have HX2 := Lib.hid r2
 have HZ2 : Hid (Below W.heap.size W w2) := Lib.hid (HX1.out.trans (r2.mono HX1.out.size))
 obtain rfl := r1.1.1
 have HV2 := Lib.hid (HV.out.kept HZ2.out)
 have HCALL := Lib.hid (HSZ.out _ (HV2.out.kept (Below.refl _ _).drew))
 have t1 := (HSB.out.kept HZ2.out).drew.get (j := 0) rfl
 have t2 := (HIB.out.kept HZ2.out).drew.get (j := 0) rfl
 have t3 := HV2.out.bg.drew.get (j := 6) rfl
 have t4 := (HV1.out.kept HX2.out).drew.get (j := 0) rfl
 dsimp only at t1 t3
 rw [← hL] at HN2 HCALL ⊢
 clear r1 r2 HSZ hL c1 c2
 gi_wp2_with fail
 refine Text.wp_region_text_in (fun _ => True) [(5, 4), (6, 4), (0, 1), (1, 4), (2, 4), (3, 1), (4, 1), (7, 2), (8, 4), (9, 4), (10, 4), (11, 4), (12, 4)] (by kernel_rfl) (by kernel_rfl) (nodef rfl) (trivial) ?_
 iterate 2 (refine Text.purek rfl rfl (fun K hK => ⟨_, fun w' => by go_simp <;> rfl, ?_⟩); go_simp; refine hK _ ?_; clear hK K)
 (refine Text.readk rfl rfl (fun K hK => ⟨_, by go_simp <;> rfl, ?_⟩); go_simp; refine hK _ ?_; clear hK K)
 iterate 2 (refine Text.purek rfl rfl (fun K hK => ⟨_, fun w' => by go_simp <;> rfl, ?_⟩); go_simp; refine hK _ ?_; clear hK K)
 iterate 2 (refine Text.readk rfl rfl (fun K hK => ⟨_, by go_simp <;> rfl, ?_⟩); go_simp; refine hK _ ?_; clear hK K)
 refine Text.eff rfl rfl (fun K hK => ?_)
 refine wp_callV (x := .tmp 16) (args := #[.int .i64 (i : Int), .int .i64 (L.length : Int)]) (lb := lbs) (R := fun v w' => v = .tuple #[.int .i64 z1, .int .i64 z2] ∧ Below w2.drew.heap.size w2.drew w') rfl rfl eg (by rw [List.map_toArray]; rfl) (HCALL.out.mono ?_) ?_
 ·
  rintro e w' ⟨rfl, h9⟩
  exact ⟨_, rfl, rfl, h9⟩
 rintro v w3 ⟨rfl, h9⟩
 have HX3 : Hid (Below w2.heap.size w2 w3) := Lib.hid ((Below.refl _ w2).drew.trans h9)
 clear h9
 refine hK _ _ trivial ?_
 clear hK K
 iterate 5 (refine Text.purek rfl rfl (fun K hK => ⟨_, fun w' => by go_simp <;> rfl, ?_⟩); go_simp; refine hK _ ?_; clear hK K)
 refine Text.done ⟨rfl, ?_⟩
 gi_wp2_with fail
 have hLw : ∀ x ∈ L, wfI x := fun x hx => by
  obtain ⟨k, hk, rfl⟩ := List.getElem_of_mem hx
  obtain ⟨g, o, cs, _, _, h9⟩ := HN2.out.1.2.2.2 k hk
  exact h9.2
 have HR3 : Hid (ChR B W.heap.size l A c L J z1 xs z2 [] 0 (fun _ => False) w3) := Lib.hid
  ⟨(HV1.out.kept HX2.out).kept HX3.out, HN2.out.1.kept stay_int HX3.out, fun a ha => ⟨by have := (HN2.out.2 a ha).1; have := HX1.out.size; omega, by have := (HN2.out.2 a ha).2; have := HX3.out.size; omega⟩, ⟨fun h => h, fun _ _ h => h⟩, Nat.le_of_eq hB, List.nodup_nil, (fun D h => by cases h),
   HJ.out _ _ _ _ H0.out ((Kp.of_below HZ2.out).trans (Kp.of_below HX3.out)), (fun i h => h.elim), by rw [HXS.out, List.drop_zero], Nat.zero_le _⟩
 have HLW := Lib.hid hLw
 clear hLw HCALL t1 t2 t3 t4 HN2 HX3 HX2 HX1 HV1 HV2 HV HC HSB HIB H0
 obtain ⟨yb, hyb⟩ : ∃ yb, yb = W.heap.size := ⟨_, rfl⟩
 rw [← hyb] at HR3 ⊢
 clear hyb
 refine wpIn_loop (fun a' w' => ∃ (s : Int) (u24 u25 u26 u27 u28 u29 u30 u31 : Value) (Ds : List Nat) (k0 : Nat) (S0 : Nat → Prop), s ≤ 100 ∧ -1 ≤ s ∧ Hid (ChR B yb l A c L J z1 xs s Ds k0 S0 w') ∧ a' = { tmps := #[Value.func (Fn.yield l) #[] #[], .pointer (some ⟨sb, 0, none⟩), .pointer (some ⟨ib, 0, none⟩), .pointer (some ⟨yb, 0, none⟩),
  .slice A L.length c, .int .i64 z1, .int .i64 z2, .int .i64 s, undef, .pointer (some ⟨xg, 0, none⟩), .int .i64 (i : Int), .slice A L.length c, .tuple #[.int .i64 z1, .int .i64 z2], .pointer (some ⟨xg, 0, none⟩), .pointer (some ⟨xg, 0, none⟩), .pointer (some ⟨xg, 6, none⟩), .func (.func fsz) #[] lbs, .int .i64 (i : Int),
  .slice A L.length c, .int .i64 (L.length : Int), .tuple #[.int .i64 z1, .int .i64 z2], .int .i64 z1, .int .i64 z2, .int .i64 z2, u24, u25, u26, u27, u28, u29, u30, u31, undef, undef, undef, undef, undef], defers := Ds.map (fun D => { target := .collected D, args := #[] }) })
  (fun a' _ => (intOf (a'.tmps.getD 7 undef) - (z1 - 1)).toNat) ⟨z2, _, _, _, _, _, _, _, _, [], 0, fun _ => False, hz2.2, hz2.1, HR3, rfl⟩ ?_
 rintro _ wr ⟨s, u24, u25, u26, u27, u28, u29, u30, u31, Ds, k0, S0, hs1, hs2, hrel, rfl⟩
 clear HR3
 by_cases hge : z1 ≤ s
 ·
  have f1 : decide (s ≥ z1) = true := decide_eq_true hge
  obtain ⟨sn, rfl⟩ : ∃ sn : Nat, s = (sn : Int) := ⟨s.toNat, by omega⟩
  gi_wp2_with fail
  refine ⟨trivial, fun h => (by cases h), ?_⟩
  refine (fw_calls (ro := none) (combinations_any A L.length c (sn : Int) wr)).mono ?_
  rintro e w4 ⟨gs, gi, rfl, b1, b2, b3, b4, b5⟩
  have HB1 := Lib.hid b1
  have HB2 := Lib.hid b2
  have HB3 := Lib.hid b3
  have HB4 := Lib.hid b4
  have HB5 := Lib.hid b5
  clear b1 b2 b3 b4 b5
  gi_wp2_with fail
  have HRL : Hid (∀ i, S0 i → i < w4.heap.size) := Lib.hid (fun i h => Nat.lt_of_lt_of_le (hrel.out.sb i h).2 HB5.out.size)
  have HYB : Hid (yb < w4.heap.size) := Lib.hid (Nat.lt_of_lt_of_le hrel.out.y.lt HB5.out.size)
  have HDL : Hid (∀ D ∈ Ds, D < w4.heap.size) := Lib.hid (fun D h => Nat.lt_of_lt_of_le (heap_lt (hrel.out.ds D h).2.2) HB5.out.size)
  have HFB : Hid (∀ a, A = some a → B ≤ a.block ∧ a.block < w4.heap.size) := Lib.hid (fun a ha => ⟨(hrel.out.fb a ha).1, Nat.lt_of_lt_of_le (hrel.out.fb a ha).2 HB5.out.size⟩)
  have HBW : Hid (B ≤ w4.heap.size) := Lib.hid (by have := hrel.out.yl; have := HYB.out; omega)
  have hdr : xs.drop k0 = combos L sn ++ choL L (z1, (sn : Int) - 1) := by
   rw [hrel.out.dr, choL_step L hz1.1 hge, Int.toNat_natCast]
  have HDR := Lib.hid hdr
  clear hdr
  have hxlen : xs.length = k0 + ((combos L sn).length + (choL L (z1, (sn : Int) - 1)).length) := by
   have h9 := congrArg List.length HDR.out
   rw [List.length_drop, List.length_append] at h9
   have := hrel.out.kl
   omega
  have HXL := Lib.hid hxlen
  clear hxlen
  refine wp_range rfl rfl (gf := 98) (lb := #[.pointer (some ⟨gs, 0, none⟩), .pointer (some ⟨gi, 0, none⟩)]) rfl trivial (enters_of Tryz.func98 (by kernel_rfl) rfl)
   (need := fun i => i = gs ∨ i = gi ∨ ∃ a, A = some a ∧ a.block = i) (xs := combos L sn) (E := chE)
   (fun W1 hb1 => combos_itr gs gi sn A L.length c L W1 (HB1.out.kept hb1) (HB2.out.kept hb1) ((hrel.out.f.kept stay_int HB5.out).kept stay_int hb1) (by have := HFL.out; omega) (by omega) (fun a ha => Nat.lt_of_lt_of_le (HFB.out a ha).2 hb1.size))
   (fun i hi => ?need) (fun x vs G A' he => by obtain ⟨A0, c0, rfl, _⟩ := he; rfl)
   (fun j S Wc => ∃ S1, J (k0 + j) S1 Wc ∧ (∀ i, S1 i → S0 i ∨ S i) ∧ (∀ i, S1 i → B ≤ i ∧ i < Wc.heap.size) ∧ BL Wc yb 138 [.func (.yield l) #[] #[]] ∧ LS rInt 1 8 Wc A L.length c L ∧ ∀ D ∈ Ds, Wc.heap[D]? = some (.deferred (some [])))
   (fun cd j S Wc => cd = .ret ∧ ∃ S1, Jx (k0 + j) S1 Wc ∧ (∀ i, S1 i → S0 i ∨ S i) ∧ (∀ i, S1 i → B ≤ i ∧ i < Wc.heap.size) ∧ ∀ D ∈ Ds, Wc.heap[D]? = some (.deferred (some []))) ?hI ?hIx
   ⟨S0, HJ.out _ _ _ _ hrel.out.j (Kp.of_below HB5.out), (fun i h => .inl h), (fun i h => ⟨(hrel.out.sb i h).1, HRL.out i h⟩), hrel.out.y.kept HB5.out, hrel.out.f.kept stay_int HB5.out, fun D h => (HB5.out.block D (heap_lt (hrel.out.ds D h).2.2)).trans (hrel.out.ds D h).2.2⟩ ?round ?done ?stop
  case need =>
   rcases hi with rfl | rfl | ⟨a, ha, rfl⟩
   ·
    exact HB1.out.lt
   ·
    exact HB2.out.lt
   ·
    exact (HFB.out a ha).2
  case hI =>
   rintro j S X Y ⟨S1, h1, h2, h3, h4, h5, h6⟩ hk
   have hno : ∀ i, S1 i → ¬ (w4.heap.size ≤ i ∧ ¬ S i) := fun i h ⟨h7, h8⟩ => by
    rcases h2 i h with h9 | h9
    ·
     have := HRL.out i h9; omega
    ·
     exact h8 h9
   exact ⟨S1, HJ.out _ _ _ _ h1 (hk.mono (fun i _ h => ⟨by have := HBW.out; omega, fun h9 => hno i h9 h⟩)), h2, fun i h => ⟨(h3 i h).1, Nat.lt_of_lt_of_le (h3 i h).2 hk.size⟩, hk.bl h4 (fun h => by have := HYB.out; omega), h5.kpI hk (fun a ha h => by have := (HFB.out a ha).2; omega), fun D h => (hk.block D (heap_lt (h6 D h)) (fun h9 => by have := HDL.out D h; omega)).trans (h6 D h)⟩
  case hIx =>
   rintro cd j S X Y ⟨rfl, S1, h1, h2, h3, h6⟩ hk
   have hno : ∀ i, S1 i → ¬ (w4.heap.size ≤ i ∧ ¬ S i) := fun i h ⟨h7, h8⟩ => by
    rcases h2 i h with h9 | h9
    ·
     have := HRL.out i h9; omega
    ·
     exact h8 h9
   exact ⟨rfl, S1, HJX.out _ _ _ _ h1 (hk.mono (fun i _ h => ⟨by have := HBW.out; omega, fun h9 => hno i h9 h⟩)), h2, fun i h => ⟨(h3 i h).1, Nat.lt_of_lt_of_le (h3 i h).2 hk.size⟩, fun D h => (hk.block D (heap_lt (h6 D h)) (fun h9 => by have := HDL.out D h; omega)).trans (h6 D h)⟩
  case round =>
   rintro l' m j x vs G S Wc hx ⟨A0, c0, rfl, he1, he2⟩ hG hS ⟨S1, h1, h2, h3, h4, h5, h6⟩ hl
   simp only [zip1, List.setIfInBounds_toArray, List.set_cons_succ, List.set_cons_zero]
   have H1 := Lib.hid h1
   have H2 := Lib.hid h2
   have H3 := Lib.hid h3
   have H4 := Lib.hid h4
   have H5 := Lib.hid h5
   have H6 := Lib.hid h6
   have HLL := Lib.hid hl
   have HS := Lib.hid hS
   have HG := Lib.hid hG
   have HE1 := Lib.hid he1
   have HE2 := Lib.hid he2
   have hjx : xs[k0 + j]? = some x := by
    have h9 : (xs.drop k0)[j]? = some x := by
     rw [HDR.out, List.getElem?_append_left (List.getElem?_eq_some_iff.1 hx).1]; exact hx
    rw [List.getElem?_drop] at h9
    exact h9
   have HX := Lib.hid hjx
   have hn1 : ∀ i, w4.heap.size ≤ i → ¬ S i → ¬ S1 i := fun i h7 h8 h9 => by
    rcases H2.out i h9 with h | h
    ·
     have := HRL.out i h; omega
    ·
     exact h8 h
   have HN1 := Lib.hid hn1
   clear h1 h2 h3 h4 h5 h6 hl hS hG he1 he2 hx hjx hn1
   gi_wp2_with fail
   refine ⟨Kp.refl _ _, fun w5 hk5 hz5 => ?_⟩
   have HK5 := Lib.hid hk5
   have HZ5 := Lib.hid hz5
   clear hk5 hz5
   obtain ⟨fn, tmps, assign, body, hy, hR⟩ := HY.out (m - 1) (k0 + j) x #[.slice A0 x.length c0] G S1 w5 HX.out ⟨A0, c0, rfl, HE1.out.kpB HK5.out (fun b o e h => HLL.out.2.2.2 (h ▸ HE2.out b o e)), HE2.out⟩
    (fun i h => ⟨by have := (HG.out i h).1; have := HBW.out; omega, by rw [HZ5.out]; exact (HG.out i h).2.1, HN1.out i (HG.out i h).1 (HG.out i h).2.2⟩) (fun i h => ⟨(H3.out i h).1, by rw [HZ5.out]; exact (H3.out i h).2⟩)
    (HJ.out _ _ _ _ H1.out (HK5.out.mono (fun i _ h => by subst h; exact ⟨by have := HLL.out.1; have := HBW.out; omega, HN1.out _ HLL.out.1 HLL.out.2.2.1⟩)))
   have HHR := Lib.hid (hR.mono (yield_b (J := J) (Jx := Jx)))
   clear hR
   have c5 := (HK5.out.bl H4.out (fun h => by have := HYB.out; have := HLL.out.1; omega)).get (j := 0) rfl
   gi_wp2_with fail
   refine ⟨fun h => (by cases h), HHR.out.mono ?_⟩
   rintro e W3 ⟨b, rfl, S2, hj2, hr2⟩
   have HJ2 := Lib.hid hj2
   have HR2 := Lib.hid hr2
   clear hj2 hr2
   have hsz : Wc.heap.size = w5.heap.size := HZ5.out.symm
   have hst : ∀ i, S2 i → S0 i ∨ (S2 i ∧ w4.heap.size ≤ i) := fun i h => by
    by_cases h7 : w4.heap.size ≤ i
    ·
     exact .inr ⟨h, h7⟩
    ·
     rcases (HR2.out.2 i h).2 with h8 | h8 | h8
     ·
      rcases H2.out i h8 with h9 | h9
      ·
       exact .inl h9
      ·
       have := (HS.out i h9).1; omega
     ·
      have := (HG.out i h8).1; omega
     ·
      have := HLL.out.1; have := HLL.out.2.1; omega
   have hbd : ∀ i, S2 i → B ≤ i ∧ i < W3.heap.size := fun i h => by
    refine ⟨?_, (HR2.out.2 i h).1⟩
    rcases hst i h with h8 | h8
    ·
     exact (hrel.out.sb i h8).1
    ·
     have := HBW.out; omega
   have hno : ∀ i, i < w4.heap.size → B ≤ i → ¬ S0 i → ¬ (S1 i ∨ (i < B ∧ ¬ False)) := fun i h7 h8 h9 h10 => by
    rcases h10 with h10 | h10
    ·
     rcases H2.out i h10 with h | h
     ·
      exact h9 h
     ·
      have := (HS.out i h).1; omega
    ·
     omega
   have hds : ∀ D ∈ Ds, W3.heap[D]? = some (.deferred (some [])) := fun D h => by
    have h7 := H6.out D h
    have h8 := HDL.out D h
    have h9 := (HK5.out.block D (heap_lt h7) (fun e => by have := HLL.out.1; omega)).trans h7
    exact (HR2.out.1.block D (heap_lt h9) (hno D h8 (hrel.out.ds D h).1 (hrel.out.ds D h).2.1)).trans h9
   have hrt : RoundTo w4.heap.size (fun i => i = gs ∨ i = gi ∨ ∃ a, A = some a ∧ a.block = i) S G Wc.heap.size w5 (fun i => S2 i ∧ w4.heap.size ≤ i) W3 := by
    refine ⟨HR2.out.1.mono (fun i _ h => ?_), fun i h => ⟨(HR2.out.2 i h.1).1, ?_⟩⟩
    ·
     rcases h with h | h
     ·
      rcases H2.out i h with h7 | h7
      ·
       refine .inr ⟨HRL.out i h7, ?_⟩
       have h8 := (hrel.out.sb i h7).2
       rintro (rfl | rfl | ⟨a, ha, rfl⟩)
       ·
        have := HB3.out; omega
       ·
        have := HB4.out; omega
       ·
        exact hrel.out.yS.2 a ha h7
      ·
       exact .inl h7
     ·
      refine .inr ⟨by have := HBW.out; omega, ?_⟩
      have h8 := hrel.out.y.lt
      have h9 := hrel.out.yl
      rintro (rfl | rfl | ⟨a, ha, rfl⟩)
      ·
       have := HB3.out; omega
      ·
       have := HB4.out; omega
      ·
       have := (HFB.out a ha).1; omega
    ·
     rcases (HR2.out.2 i h.1).2 with h7 | h7 | h7
     ·
      rcases H2.out i h7 with h8 | h8
      ·
       have := HRL.out i h8; omega
      ·
       exact .inl h8
     ·
      exact .inr (.inl h7)
     ·
      exact .inr (.inr (by omega))
   have HST := Lib.hid hst
   have HBD := Lib.hid hbd
   have HDS := Lib.hid hds
   have HRT := Lib.hid hrt
   have HYS : Hid (BL W3 yb 138 [.func (.yield l) #[] #[]]) := Lib.hid (HR2.out.1.bl (HK5.out.bl H4.out (fun h => by have := HYB.out; have := HLL.out.1; omega)) (hno yb HYB.out hrel.out.yl hrel.out.yS.1))
   have HFS : Hid (LS rInt 1 8 W3 A L.length c L) := Lib.hid ((H5.out.kpI HK5.out (fun a ha h => by have := (HFB.out a ha).2; have := HLL.out.1; omega)).kpI HR2.out.1 (fun a ha => hno _ (HFB.out a ha).2 (HFB.out a ha).1 (hrel.out.yS.2 a ha)))
   clear hst hbd hds hrt hno hsz
   cases b with
   | true =>
    gi_wp2_with fail
    exact ⟨_, ⟨S2, by rw [← Nat.add_assoc]; exact HJ2.out, HST.out, HBD.out, HYS.out, HFS.out, HDS.out⟩, HRT.out⟩
   | false =>
    gi_wp2_with fail
    exact ⟨_, ⟨rfl, S2, by rw [← Nat.add_assoc]; exact HJ2.out, HST.out, HBD.out, HDS.out⟩, HRT.out⟩
  case done =>
   rintro D S Wd hD hS ⟨S1, h1, h2, h3, h4, h5, h6⟩ hK
   have H1 := Lib.hid h1
   have H2 := Lib.hid h2
   have H3 := Lib.hid h3
   have H4 := Lib.hid h4
   have H5 := Lib.hid h5
   have H6 := Lib.hid h6
   have HD := Lib.hid hD
   have HS := Lib.hid hS
   have HK := Lib.hid hK
   have hws : IntKind.i64.wrap ((sn : Int) - 1) = (sn : Int) - 1 := IntWalk.i64_in _ (by omega)
   clear h1 h2 h3 h4 h5 h6 hD hS hK
   gi_wp2_with fail
   refine ⟨⟨(sn : Int) - 1, _, _, _, _, _, _, _, _, D :: Ds, k0 + (combos L sn).length, S1, by omega, by omega, Lib.hid ⟨H4.out, H5.out, fun a ha => ⟨(hrel.out.fb a ha).1, ?_⟩, ⟨?_, ?_⟩, hrel.out.yl, ?_, ?_, H1.out, H3.out, ?_, ?_⟩, rfl⟩, ?_⟩
   ·
    have := (HFB.out a ha).2; have := HD.out; have := heap_lt HK.out; omega
   ·
    intro h
    rcases H2.out _ h with h7 | h7
    ·
     exact hrel.out.yS.1 h7
    ·
     have := (HS.out _ h7).1; have := HYB.out; omega
   ·
    intro a ha h
    rcases H2.out _ h with h7 | h7
    ·
     exact hrel.out.yS.2 a ha h7
    ·
     have := (HS.out _ h7).1; have := (HFB.out a ha).2; omega
   ·
    rw [List.nodup_cons]
    exact ⟨fun h => by have := HDL.out D h; have := HD.out; omega, hrel.out.nd⟩
   ·
    intro D' h
    rcases List.mem_cons.1 h with rfl | h
    ·
     refine ⟨by have := HD.out; have := HBW.out; omega, fun h => ?_, HK.out⟩
     rcases H2.out _ h with h7 | h7
     ·
      have := HRL.out _ h7; have := HD.out; omega
     ·
      exact (HS.out _ h7).2.2 rfl
    ·
     refine ⟨(hrel.out.ds D' h).1, fun h8 => ?_, H6.out D' h⟩
     rcases H2.out _ h8 with h7 | h7
     ·
      exact (hrel.out.ds D' h).2.1 h7
     ·
      have := (HS.out _ h7).1; have := HDL.out D' h; omega
   ·
    rw [← List.drop_drop, HDR.out, List.drop_left]
   ·
    rw [HXL.out]; omega
   ·
    simp [intOf]; omega
  case stop =>
   rintro D cd k S Wd hD hS hk ⟨rfl, S1, h1, h2, h3, h6⟩ hK
   have H1 := Lib.hid h1
   have H2 := Lib.hid h2
   have H3 := Lib.hid h3
   have H6 := Lib.hid h6
   have HD := Lib.hid hD
   have HS := Lib.hid hS
   have HK := Lib.hid hK
   clear h1 h2 h3 h6 hD hS hK
   gi_wp2_with fail
   refine marks_leave (D :: Ds) _ ?_ ?_ (fun w' hk' => ?_)
   ·
    rw [List.nodup_cons]
    exact ⟨fun h => by have := HDL.out D h; have := HD.out; omega, hrel.out.nd⟩
   ·
    intro D' h
    rcases List.mem_cons.1 h with rfl | h
    ·
     exact HK.out
    ·
     exact H6.out D' h
   ·
    refine ⟨_, results_none rfl _ _ _, ⟨_, rfl⟩, .inr ⟨k0 + k, S1, by rw [HXL.out]; omega, ?_, fun i h => ⟨(H3.out i h).1, Nat.lt_of_lt_of_le (H3.out i h).2 hk'.size⟩⟩⟩
    refine HJX.out _ _ _ _ H1.out (hk'.mono (fun i _ h => ?_))
    rcases List.mem_cons.1 h with rfl | h
    ·
     refine ⟨by have := HD.out; have := HBW.out; omega, fun h => ?_⟩
     rcases H2.out _ h with h7 | h7
     ·
      have := HRL.out _ h7; have := HD.out; omega
     ·
      exact (HS.out _ h7).2.2 rfl
    ·
     refine ⟨(hrel.out.ds i h).1, fun h8 => ?_⟩
     rcases H2.out _ h8 with h7 | h7
     ·
      exact (hrel.out.ds i h).2.1 h7
     ·
      have := (HS.out _ h7).1; have := HDL.out i h; omega
 ·
  have f1 : decide (s ≥ z1) = false := decide_eq_false (by omega)
  gi_wp2_with fail
  refine marks_leave Ds _ hrel.out.nd (fun D h => (hrel.out.ds D h).2.2) (fun w' hk => ?_)
  refine ⟨_, results_none rfl _ _ _, ⟨_, rfl⟩, .inl ⟨S0, ?_, fun i h => ⟨by rw [← hB]; exact (hrel.out.sb i h).1, Nat.lt_of_lt_of_le (hrel.out.sb i h).2 hk.size⟩⟩⟩
  have h9 := hrel.out.dr
  rw [choL_end L (by omega)] at h9
  have hk0 : k0 = xs.length := by
   have := List.drop_eq_nil_iff.1 h9
   have := hrel.out.kl
   omega
  rw [← hk0]
  exact HJ.out _ _ _ _ hrel.out.j (hk.mono (fun i _ h => ⟨(hrel.out.ds i h).1, (hrel.out.ds i h).2.1⟩))
end
end Go.Proofs.YtklfficlegfhjaaGreat
/- What is taken from the quotas, plainly. -/
namespace Go.Proofs.YtklfficlegfhjaaGreat
open Go

def LOk (left : List Int) : Prop := ∀ v ∈ left, 0 ≤ v ∧ v ≤ 1099511627776
theorem zAt_nat {l : List Int} {k : Nat} (h : k < l.length) : zAt l (k : Int) = l[k] := by
 unfold zAt
 rw [Int.toNat_natCast, List.getD_eq_getElem?_getD, List.getElem?_eq_getElem h]; rfl
theorem free_pw (hs : List Hd) (ps : List Pl) (left : List Int) (w : Wt) : (freeP hs ps left w).Nodup := by
 unfold freeP
 exact ((upI_pw _).imp (fun h => Int.ne_of_lt h)).filter _
section
variable {hs : List Hd} {ps : List Pl} {ex : Option Int} {left c : List Int} {w : Wt}
theorem cho_idx (hc : c ∈ choP hs ps ex left w) : ∀ j ∈ c, 0 ≤ j ∧ j < (hs.length : Int) := fun j hj => by
 have h1 := (cho_mem hc).1.subset hj
 exact upI_mem.1 (List.mem_filter.1 h1).1
theorem cho_fits (hc : c ∈ choP hs ps ex left w) : ∀ j ∈ c, w.sz ≤ zAt left j := fun j hj => by
 have h1 := (List.mem_filter.1 ((cho_mem hc).1.subset hj)).2
 simp at h1
 exact h1.2
theorem cho_len (hc : c ∈ choP hs ps ex left w) : c.length ≤ hs.length := by
 have h1 := (cho_mem hc).1.length_le
 have h2 : (freeP hs ps left w).length ≤ hs.length := by
  refine Nat.le_trans (List.length_filter_le _ _) ?_
  rw [upI_length]; omega
 omega
theorem cho_count (hc : c ∈ choP hs ps ex left w) (j : Int) : c.count j ≤ 1 := List.nodup_iff_count.1 ((free_pw hs ps left w).sublist (cho_mem hc).1) j
theorem LOk.take (h : LOk left) (hc : c ∈ choP hs ps ex left w) (hl : left.length = hs.length) (hz : 0 ≤ w.sz) : LOk (takeL left c w.sz) := fun v hv => by
 obtain ⟨k, hk, rfl⟩ := List.getElem_of_mem hv
 have hkl : k < left.length := by rw [take_length] at hk; exact hk
 rw [← zAt_nat hk, take_at _ _ _ (fun j hj => (cho_idx hc j hj).1) _ (by omega) (by omega)]
 have h1 := h _ (List.getElem_mem hkl)
 rw [← zAt_nat hkl] at h1
 by_cases hm : (k : Int) ∈ c
 ·
  have h2 := cho_fits hc _ hm
  have h3 : c.count (k : Int) = 1 := Nat.le_antisymm (cho_count hc _) (List.count_pos_iff.2 hm)
  rw [h3]; omega
 ·
  rw [List.count_eq_zero_of_not_mem hm]; omega
end
theorem take_back {left c : List Int} (z : Int) (hc : ∀ j ∈ c, 0 ≤ j) : takeL (takeL left c z) c (-z) = left := by
 apply List.ext_getElem
 ·
  rw [take_length, take_length]
 ·
  intro k h1 h2
  rw [← zAt_nat h1, ← zAt_nat h2, take_at _ _ _ hc _ (by omega) (by rw [take_length]; omega), take_at _ _ _ hc _ (by omega) (by omega), Int.mul_neg]
  omega
end Go.Proofs.YtklfficlegfhjaaGreat
/- look: the search among the choices. -/
namespace Go.Proofs.YtklfficlegfhjaaGreat
open Go Go.RowKit Go.Shelf Go.WideMaps Go.ChangeMaps Gf Sha
attribute [local go_sem] Oper.semAt_some

theorem results_one {fn : Func} {p : Tmp} {t : TypeId} (hf : fn.results = #[.cell p t]) {P : Program} (ha : ∀ w : World, (isAgg t).run P w = .ok false w) {tmps : Array Value} {g : Nat} {v : Value} {w : World} (hp : tmps.getD p undef = .pointer (some ⟨g, 0, none⟩)) (hm : w.cell? ⟨g, 0, none⟩ = some v) :
  (results fn tmps).run P w = .ok v w := by
 have hp' : tmps[p]?.getD undef = .pointer (some ⟨g, 0, none⟩) := by simpa using hp
 simp [results, hf, hp', asAddr, loadVar, Sem.run_bind, ha, go_sem, hm]
theorem boolAgg (w : World) : (isAgg 4).run Tryz.prog w = .ok false w := by kernel_rfl
theorem boolZ1 : (Tryz.prog.info? 4).map (·.zero) = some (some (.bool false)) := by kernel_rfl
/-- The choices so far, in memory. -/
def Chs (W : World) (gc nw : Nat) (R : Nat → Prop) (cs : List (List Int)) : Prop :=
 ∃ csv, BL W gc 39 csv ∧ csv.length = nw ∧ ∀ (j : Nat) (d : List Int), cs[j]? = some d → ∃ A n c, csv[j]? = some (.slice A n c) ∧ LS rInt 1 8 W A n c d ∧ ∀ b o, A = some ⟨b, o, none⟩ → R b ∧ b < W.heap.size
section
variable {W W' : World} {gc nw : Nat} {R R' S : Nat → Prop} {cs : List (List Int)}
theorem Chs.kp (h : Chs W gc nw R cs) (hk : Kp S W W') (h1 : ¬ S gc) (h2 : ∀ b, R b → ¬ S b) : Chs W' gc nw R cs := by
 obtain ⟨csv, a, b, c⟩ := h
 refine ⟨csv, hk.bl a h1, b, fun j d hd => ?_⟩
 obtain ⟨A, n, k, e1, e2, e3⟩ := c j d hd
 exact ⟨A, n, k, e1, e2.kpB hk (fun b o e => h2 b (e3 b o e).1), fun b o e => ⟨(e3 b o e).1, Nat.lt_of_lt_of_le (e3 b o e).2 hk.size⟩⟩
theorem Chs.mono (h : Chs W gc nw R cs) (h2 : ∀ b, R b → b < W.heap.size → R' b) : Chs W gc nw R' cs := by
 obtain ⟨csv, a, b, c⟩ := h
 refine ⟨csv, a, b, fun j d hd => ?_⟩
 obtain ⟨A, n, k, e1, e2, e3⟩ := c j d hd
 exact ⟨A, n, k, e1, e2, fun b o e => ⟨h2 b (e3 b o e).1 (e3 b o e).2, (e3 b o e).2⟩⟩
theorem Chs.pre {d : List Int} (h : Chs W gc nw R (cs ++ [d])) : Chs W gc nw R cs := by
 obtain ⟨csv, a, b, c⟩ := h
 exact ⟨csv, a, b, fun j d hd => c j d (by rw [List.getElem?_append_left (List.getElem?_eq_some_iff.1 hd).1]; exact hd)⟩
theorem Chs.push {A : Option Addr} {n c : Nat} {d : List Int} {csv : List Value} (h : Chs W gc nw R cs) (hb0 : BL W gc 39 csv) (hk : Kp (· = gc) W W') (hb : BL W' gc 39 (csv.set cs.length (.slice A n c))) (hl : cs.length < nw) (h1 : ∀ b, R b → b ≠ gc) (hL : LS rInt 1 8 W' A n c d) (hA : ∀ b o, A = some ⟨b, o, none⟩ → R' b ∧ b < W'.heap.size) (hR : ∀ b, R b → R' b) : Chs W' gc nw R' (cs ++ [d]) := by
 obtain ⟨csv', a, b, c'⟩ := h
 obtain rfl : csv = csv' := by
  have h9 := hb0.symm.trans a
  cases h9; rfl
 refine ⟨_, hb, by rw [List.length_set]; exact b, fun j e he => ?_⟩
 by_cases hj : j < cs.length
 ·
  rw [List.getElem?_append_left hj] at he
  obtain ⟨A', n', k', e1, e2, e3⟩ := c' j e he
  exact ⟨A', n', k', by rw [List.getElem?_set_ne (by omega)]; exact e1, e2.kpB hk (fun b o e => h1 b (e3 b o e).1), fun b o e => ⟨hR b (e3 b o e).1, Nat.lt_of_lt_of_le (e3 b o e).2 hk.size⟩⟩
 ·
  rw [List.getElem?_append_right (by omega)] at he
  have hj0 : j - cs.length = 0 := by
   have := (List.getElem?_eq_some_iff.1 he).1
   simp at this; omega
  have hjl : j = cs.length := by omega
  subst hjl
  rw [hj0] at he
  obtain rfl : d = e := by simpa using he
  exact ⟨A, n, c, by rw [List.getElem?_set_self (by omega)], hL, hA⟩
end
/-- What a search's look stands on. -/
structure LkC {σ : Type} (W0 : World) (T : Nat → Prop) (x : SX) (ws : List Wt) (hs : List Hd) (ps : List Pl) (ex : Option Int) (sb bb gw lb budget : Nat) (fsz : FuncId) (lbs : Array Value) (ffd : FuncId) (lbf : Array Value) (fd : List (List Int) → σ → Bool × σ) (X : σ → (Nat → Prop) → World → Prop) (Tx : Nat → Prop) : Prop where
 c : SrC W0 T x ws hs ps
 w8 : ws.length ≤ 8
 h12 : hs.length ≤ 12
 wz : ∀ w ∈ ws, 0 ≤ w.sz ∧ w.sz ≤ 65536
 bu : budget ≤ 1000000000000
 psb : ∀ W, Kp T W0 W → BL W sb 94 [.pointer (some ⟨x.g, 0, none⟩)]
 pbb : ∀ W, Kp T W0 W → BL W bb 3 [.int .i64 (budget : Int)]
 plb : ∀ W, Kp T W0 W → BL W lb 103 [.func (.func 71) #[] #[.pointer (some ⟨sb, 0, none⟩), .pointer (some ⟨bb, 0, none⟩), .pointer (some ⟨gw, 0, none⟩), .pointer (some ⟨lb, 0, none⟩)]]
 tw : T gw
 vs : x.vs = .func (.func fsz) #[] lbs
 es : ∀ args w, (callFunc fsz args).run Tryz.prog w = .ok (.enter fsz args) w
 vf : x.vf = .func (.func ffd) #[] lbf
 ef : ∀ args w, (callFunc ffd args).run Tryz.prog w = .ok (.enter ffd args) w
 zb : ∀ (i : Nat) (w : Wt) (left : List Int), ws[i]? = some w → (0 ≤ (sizesP ps ex w ((freeP hs ps left w).length : Int)).1 ∧ (sizesP ps ex w ((freeP hs ps left w).length : Int)).1 ≤ 100) ∧ -1 ≤ (sizesP ps ex w ((freeP hs ps left w).length : Int)).2 ∧ (sizesP ps ex w ((freeP hs ps left w).length : Int)).2 ≤ 100
 sz : ∀ (W : World) (left : List Int) (n i : Nat) (w : Wt), ws[i]? = some w → SrV W0 W T x ws hs left n → Calls Tryz.prog fsz (#[.int .i64 (i : Int), .int .i64 ((freeP hs ps left w).length : Int)] ++ lbs) W fun e w' =>
  e = .returned (.tuple #[.int .i64 (sizesP ps ex w ((freeP hs ps left w).length : Int)).1, .int .i64 (sizesP ps ex w ((freeP hs ps left w).length : Int)).2]) ∧ Below W.heap.size W w'
 xk : ∀ (s : σ) (R S : Nat → Prop) (W W' : World), X s R W → Kp S W W' → (∀ b, R b → ¬ S b) → X s R W'
 xm : ∀ (s : σ) (R R' : Nat → Prop) (W : World), X s R W → (∀ b, R b → b < W.heap.size → R' b) → X s R' W
 tx : ∀ b, Tx b → T b ∧ b ≠ x.g ∧ x.vl.ownBlock ≠ some b ∧ b ≠ x.gc ∧ b ≠ gw
 fd : ∀ (W : World) (left : List Int) (n : Nat) (cs : List (List Int)) (s : σ) (R : Nat → Prop), cs.length = ws.length → SrV W0 W T x ws hs left n → Chs W x.gc ws.length R cs → X s R W → (∀ b, R b → b < W.heap.size) → Calls Tryz.prog ffd lbf W fun e W' =>
  e = .returned (.bool (fd cs s).1) ∧ X (fd cs s).2 (fun b => R b ∨ W.heap.size ≤ b) W' ∧ Chs W' x.gc ws.length R cs ∧ Kp Tx W W'
theorem SrV.upd {W0 W W' : World} {T : Nat → Prop} {x : SX} {ws : List Wt} {hs : List Hd} {left : List Int} {n m : Nat} (h : SrV W0 W T x ws hs left n) (ht : T x.g) (hb : BL W' x.g 100 (sxL x ws.length hs.length m)) (hk : Kp (· = x.g) W W') : SrV W0 W' T x ws hs left m :=
 ⟨h.kp.after hk (fun b _ e => by subst e; exact ht), hb, h.l.kp hk (fun b hb e => h.l.ne_bl h.bg (by decide) b hb e)⟩
theorem SrV.kp' {W0 W W' : World} {T S : Nat → Prop} {x : SX} {ws : List Wt} {hs : List Hd} {left : List Int} {n : Nat} (h : SrV W0 W T x ws hs left n) (hk : Kp S W W') (h1 : ∀ b, b < W0.heap.size → S b → T b) (h2 : ¬ S x.g) (h3 : ∀ b, x.vl.ownBlock = some b → ¬ S b) : SrV W0 W' T x ws hs left n :=
 ⟨h.kp.after hk h1, hk.bl h.bg h2, h.l.kp hk h3⟩
/-- The blocks that the search itself turns. -/
def T1 (x : SX) (gw b : Nat) : Prop := b = x.g ∨ x.vl.ownBlock = some b ∨ b = x.gc ∨ b = gw
def LkP {σ : Type} (W0 : World) (T : Nat → Prop) (x : SX) (ws : List Wt) (hs : List Hd) (gw budget : Nat) (X : σ → (Nat → Prop) → World → Prop) (cs : List (List Int)) (left : List Int) (R : Nat → Prop) (W : World) (p : Bool × PS σ) (e : Ending) (W' : World) : Prop :=
 e = .returned (.bool p.1) ∧ SrV W0 W' T x ws hs left p.2.n ∧ Chs W' x.gc ws.length (fun b => R b ∨ W.heap.size ≤ b) cs ∧ X p.2.x (fun b => R b ∨ W.heap.size ≤ b) W' ∧ BL W' gw 4 [.bool p.2.wi] ∧ Kp T W W' ∧ (p.1 = true → p.2.n ≤ budget)
section
variable {σ : Type} {W0 : World} {T : Nat → Prop} {x : SX} {ws : List Wt} {hs : List Hd} {ps : List Pl} {ex : Option Int} {sb bb gw lb budget : Nat} {fsz : FuncId} {lbs : Array Value} {ffd : FuncId} {lbf : Array Value} {fd : List (List Int) → σ → Bool × σ} {X : σ → (Nat → Prop) → World → Prop} {Tx : Nat → Prop}
set_option maxRecDepth 100000
set_option maxHeartbeats 4000000
theorem look_stop (h : LkC W0 T x ws hs ps ex sb bb gw lb budget fsz lbs ffd lbf fd X Tx) (i : Nat) (cs : List (List Int)) (left : List Int) (st : PS σ) (R : Nat → Prop) (W : World) (hn : st.n ≤ budget) (hV : SrV W0 W T x ws hs left st.n) (hCs : Chs W x.gc ws.length R cs) (hX : X st.x R W) (hw : BL W gw 4 [.bool st.wi])
  (hR : ∀ b, R b → b < W.heap.size ∧ ¬ T1 x gw b) (hb : budget < st.n + 1) :
  Calls Tryz.prog 71 #[.int .i64 (i : Int), .pointer (some ⟨sb, 0, none⟩), .pointer (some ⟨bb, 0, none⟩), .pointer (some ⟨gw, 0, none⟩), .pointer (some ⟨lb, 0, none⟩)] W fun e W' =>
   LkP W0 T x ws hs gw budget X cs left R W (false, ⟨st.n + 1, false, st.x⟩) e W' := by
 obtain ⟨xg, Aw, cw, Ah, ch, vl, bm, Am, cm, gc, cc, vs, vf⟩ := x
 have HL := Lib.hid h
 have HV := Lib.hid hV
 have HCS := Lib.hid hCs
 have HX := Lib.hid hX
 have HW := Lib.hid hw
 have HR := Lib.hid hR
 have hbu := h.bu
 clear h hV hCs hX hw hR
 have hws : IntKind.i64.wrap ((st.n : Int) + 1) = (st.n : Int) + 1 := IntWalk.i64_in _ (by omega)
 refine calls_fw (ro := none) (n := 3) ?_
 have f1 : decide ((st.n : Int) + 1 > (budget : Int)) = true := decide_eq_true (by omega)
 refine callsIn_of_wp_marks (F := Fence.wide) Tryz.func71 rfl trivial ?_ rfl
 simp only [Tryz.ntmps71, List.size_toArray, List.length_cons, List.length_nil, Nat.reduceAdd, Nat.reduceSub, Array.replicate_succ, Array.replicate_zero, List.push_toArray, List.append_toArray, List.nil_append, List.cons_append]
 gi_wp2_with (first
  | ((with_reducible show wpListIn _ _ _ _ _ (⟨some 5, _, _, _, _, _⟩ :: _) _ _); refine fw_list (by intro c h; cases h) ?_; refine wpList_box1 _ rfl 3 (.tmp 0) rfl _ rfl rfl ?_; intro w1 a1 a2 a3; have HV1 := Lib.hid a1; have HX1 := Lib.hid a2; have HZ1 := Lib.hid a3; clear a1 a2 a3; refine fw_back ?_)
  | ((with_reducible show wpListIn _ _ _ _ _ (⟨some 6, _, _, _, _, _⟩ :: _) _ _); refine fw_list (by intro c h; cases h) ?_; refine wpList_alloc1 _ rfl 4 rfl (.bool false) boolZ1 rfl ?_; intro w2 a1 a2 a3; have HV2 := Lib.hid a1; have HX2 : Hid (Below W.heap.size W w2) := Lib.hid (HX1.out.trans (a2.mono HX1.out.size)); have HI2 := Lib.hid (HV1.out.kept a2); rw [HZ1.out] at HV2 ⊢; have HZ2 : Hid (w2.heap.size = W.heap.size + 2) := Lib.hid (by rw [a3, HZ1.out]); have s0 := (HL.out.psb w2 (HV.out.kp.then HX2.out)).get (j := 0) rfl; have s8 := (HV.out.kept HX2.out).bg.get (j := 8) rfl; clear a1 a2 a3; refine fw_back ?_)
  | ((with_reducible show wpListIn _ _ _ _ _ (⟨none, _, _, _, _, _⟩ :: _) _ _); refine fw_list (by intro c h; cases h) ?_; refine wpList_store1 _ rfl 3 (.tmp 15) (.tmp 13) rfl (sz1 _ (by kernel_rfl) _) xg 8 _ _ (.int .i64 ((st.n : Int) + 1)) rfl rfl (HV.out.kept HX2.out).bg rfl rfl (by simp) ?_; intro w3 a1 a2 a3; have HV3 : Hid (BL w3 xg 100 (sxL ⟨xg, Aw, cw, Ah, ch, vl, bm, Am, cm, gc, cc, vs, vf⟩ ws.length hs.length (st.n + 1))) := Lib.hid a1; have HK3 := Lib.hid a2; have HZ3 : Hid (w3.heap.size = W.heap.size + 2) := Lib.hid (by rw [a3, HZ2.out]); clear a1 a2 a3 s0 s8; refine fw_back ?_))
 have HSV : Hid (SrV W0 w3 T ⟨xg, Aw, cw, Ah, ch, vl, bm, Am, cm, gc, cc, vs, vf⟩ ws hs left (st.n + 1)) := Lib.hid ((HV.out.kept HX2.out).upd HL.out.c.tg HV3.out HK3.out)
 have hgl : xg < W.heap.size := HV.out.bg.lt
 have HV0 : Hid (W0.heap.size ≤ W.heap.size) := Lib.hid HV.out.kp.size
 have HNG : Hid (∀ b, R b → ¬ b = xg) := Lib.hid (fun b h e => (HR.out b h).2 (.inl e))
 have HCS3 : Hid (Chs w3 gc ws.length R cs) := Lib.hid ((HCS.out.kp (S := fun _ => False) (Kp.of_below HX2.out) (fun h => h) (fun _ _ h => h)).kp HK3.out (fun e => by obtain ⟨csv, hb, _⟩ := HCS.out; have := (hb.kept HX2.out).ty (by rw [show gc = xg from e]; exact HV.out.bg.kept HX2.out); exact absurd this (by decide)) HNG.out)
 have HX3 : Hid (X st.x R w3) := Lib.hid (HL.out.xk _ _ _ _ _ (HL.out.xk _ _ (fun _ => False) _ _ HX.out (Kp.of_below HX2.out) (fun _ _ h => h)) HK3.out HNG.out)
 have HW3 : Hid (BL w3 gw 4 [.bool st.wi]) := Lib.hid (HK3.out.bl (HW.out.kept HX2.out) (fun e => by have := HW.out.ty (by rw [show gw = xg from e]; exact HV.out.bg); exact absurd this (by decide)))
 have HI3 : Hid (BL w3 W.heap.size 3 [.int .i64 (i : Int)]) := Lib.hid (HK3.out.bl HI2.out (fun e => by omega))
 have HG3 : Hid (BL w3 (W.heap.size + 1) 4 [.bool false]) := Lib.hid (HK3.out.bl HV2.out (fun e => by omega))
 have HKT : Hid (Kp T W w3) := Lib.hid (((Kp.of_below HX2.out)).after HK3.out (fun b _ e => by subst e; exact HL.out.c.tg))
 have r1 := (HL.out.psb w3 HSV.out.kp).drew.get (j := 0) rfl
 have r2 := (HL.out.pbb w3 HSV.out.kp).drew.get (j := 0) rfl
 have r3 := HSV.out.bg.drew.get (j := 8) rfl
 dsimp only at r1 r3
 have HGW : Hid (gw < W.heap.size ∧ gc < W.heap.size ∧ xg < W.heap.size ∧ ∀ b, vl.ownBlock = some b → b < W.heap.size) := Lib.hid ⟨HW.out.lt, by obtain ⟨csv, hb, _⟩ := HCS.out; exact hb.lt, hgl, fun b hb => HV.out.l.lt hb⟩
 have HNE : Hid (gw ≠ xg ∧ gw ≠ gc ∧ (∀ b, vl.ownBlock = some b → b ≠ gw ∧ b ≠ xg ∧ b ≠ gc) ∧ gc ≠ xg) := Lib.hid ⟨fun e => absurd (HW.out.ty (by rw [e]; exact HV.out.bg)) (by decide), fun e => by obtain ⟨csv, hb, _⟩ := HCS.out; exact absurd (HW.out.ty (by rw [e]; exact hb)) (by decide),
  fun b hb => ⟨fun e => HV.out.l.ne_bl HW.out (by decide) b hb e, fun e => HV.out.l.ne_bl HV.out.bg (by decide) b hb e, fun e => by obtain ⟨csv, hc, _⟩ := HCS.out; exact HV.out.l.ne_bl hc (by decide) b hb e⟩, fun e => by obtain ⟨csv, hb, _⟩ := HCS.out; exact absurd (hb.ty (by rw [e]; exact HV.out.bg)) (by decide)⟩
 clear HCS HX HW HV3 HK3 HV1 HI2 HV2 HV HX1 HZ1 HX2 HZ2 hgl
 refine Text.wp_region_text_in (fun _ => True) [(0, 1), (1, 4), (2, 4), (3, 1), (4, 1), (5, 4)] (by kernel_rfl) (by kernel_rfl) (nodef rfl) (trivial) ?_
 (refine Text.readk rfl rfl (fun K hK => ⟨_, by go_simp <;> rfl, ?_⟩); go_simp; refine hK _ ?_; clear hK K)
 iterate 2 (refine Text.purek rfl rfl (fun K hK => ⟨_, fun w' => by go_simp <;> rfl, ?_⟩); go_simp; refine hK _ ?_; clear hK K)
 iterate 2 (refine Text.readk rfl rfl (fun K hK => ⟨_, by go_simp <;> rfl, ?_⟩); go_simp; refine hK _ ?_; clear hK K)
 (refine Text.purek rfl rfl (fun K hK => ⟨_, fun w' => by go_simp <;> rfl, ?_⟩); go_simp; refine hK _ ?_; clear hK K)
 refine Text.done ⟨rfl, ?_⟩
 gi_wp2_with (first
  | ((with_reducible show wpListIn _ _ _ _ _ (⟨none, _, _, _, _, _⟩ :: _) _ _); refine fw_list (by intro c h; cases h) ?_; refine wpList_store1 _ rfl 4 (.tmp 3) (.const (.bool false)) rfl (sz1 _ (by kernel_rfl) _) gw 0 _ _ (.bool false) rfl rfl HW3.out.drew rfl rfl (by simp) ?_; intro w4 a1 a2 a3; have HW4 : Hid (BL w4 gw 4 [.bool false]) := Lib.hid a1; have HK4 : Hid (Kp (· = gw) w3 w4) := Lib.hid ((Kp.refl _ w3).drew.trans a2); have HG4 := Lib.hid (HK4.out.bl HG3.out (fun e => by have := HGW.out.1; omega)); clear a1 a2 a3; refine fw_back ?_)
  | ((with_reducible show wpListIn _ _ _ _ _ (⟨none, _, _, _, _, _⟩ :: _) _ _); refine fw_list (by intro c h; cases h) ?_; refine wpList_store1 _ rfl 4 (.tmp 6) (.const (.bool false)) rfl (sz1 _ (by kernel_rfl) _) (W.heap.size + 1) 0 _ _ (.bool false) rfl rfl HG4.out rfl rfl (by simp) ?_; intro w5 a1 a2 a3; have HG5 : Hid (BL w5 (W.heap.size + 1) 4 [.bool false]) := Lib.hid a1; have HK5 := Lib.hid a2; clear a1 a2 a3; refine fw_back ?_))
 refine ⟨_, results_one rfl boolAgg rfl (HG5.out.get (j := 0) rfl), ?_⟩
 have hgw := HGW.out
 obtain ⟨hg1, hg2, hg3, hg4⟩ := HGW.out
 have hne := HNE.out
 have hw0 := HV0.out
 have hk : Kp T W w5 := (HKT.out.after HK4.out (fun b _ e => by subst e; exact HL.out.tw)).after HK5.out (fun b hb e => by omega)
 have hkd : Kp (fun b => b = gw ∨ b = W.heap.size + 1) w3 w5 := (HK4.out.mono (fun _ _ h => .inl h)).trans (HK5.out.mono (fun _ _ h => .inr h))
 have hR9 : ∀ b, R b → ¬ (b = gw ∨ b = W.heap.size + 1) := fun b h e => by
  rcases e with e | e
  ·
   exact (HR.out b h).2 (.inr (.inr (.inr e)))
  ·
   have := (HR.out b h).1; omega
 refine ⟨rfl, HSV.out.kp' hkd (fun b h e => ?_) (fun e => ?_) (fun b hb e => ?_), (HCS3.out.kp hkd (fun e => ?_) hR9).mono (fun b h _ => .inl h), HL.out.xm _ _ _ _ (HL.out.xk _ _ _ _ _ HX3.out hkd hR9) (fun b h _ => .inl h), HK5.out.bl HW4.out (fun e => by omega), hk, fun h => by cases h⟩
 ·
  rcases e with e | e
  ·
   subst e; exact HL.out.tw
  ·
   omega
 ·
  rcases e with e | e
  ·
   exact hne.1 e.symm
  ·
   have e9 : xg = W.heap.size + 1 := e; omega
 ·
  rcases e with e | e
  ·
   exact (hne.2.2.1 b hb).1 e
  ·
   have := hg4 b hb; omega
 ·
  rcases e with e | e
  ·
   exact hne.2.1 e.symm
  ·
   have e9 : gc = W.heap.size + 1 := e; omega
theorem look_leaf (h : LkC W0 T x ws hs ps ex sb bb gw lb budget fsz lbs ffd lbf fd X Tx) (cs : List (List Int)) (left : List Int) (st : PS σ) (R : Nat → Prop) (W : World) (hcl : cs.length = ws.length) (hV : SrV W0 W T x ws hs left st.n) (hCs : Chs W x.gc ws.length R cs) (hX : X st.x R W) (hw : BL W gw 4 [.bool st.wi])
  (hR : ∀ b, R b → b < W.heap.size ∧ ¬ T1 x gw b) (hb : st.n + 1 ≤ budget) :
  Calls Tryz.prog 71 #[.int .i64 (ws.length : Int), .pointer (some ⟨sb, 0, none⟩), .pointer (some ⟨bb, 0, none⟩), .pointer (some ⟨gw, 0, none⟩), .pointer (some ⟨lb, 0, none⟩)] W fun e W' =>
   LkP W0 T x ws hs gw budget X cs left R W ((fd cs st.x).1, ⟨st.n + 1, st.wi, (fd cs st.x).2⟩) e W' := by
 obtain ⟨xg, Aw, cw, Ah, ch, vl, bm, Am, cm, gc, cc, vs, vf⟩ := x
 have hvf := h.vf
 dsimp only at hvf
 subst hvf
 obtain ⟨i, hi⟩ : ∃ i, i = ws.length := ⟨_, rfl⟩
 have HI := Lib.hid hi
 have hiI : ((i : Int) == (ws.length : Int)) = true := by rw [beq_iff_eq, hi]
 rw [show ((ws.length : Nat) : Int) = (i : Int) by rw [hi]]
 have HL := Lib.hid h
 have HV := Lib.hid hV
 have HCS := Lib.hid hCs
 have HX := Lib.hid hX
 have HW := Lib.hid hw
 have HR := Lib.hid hR
 have HCL := Lib.hid hcl
 have hbu := h.bu
 have ef := h.ef
 clear h hV hCs hX hw hR hi hcl
 have hws : IntKind.i64.wrap ((st.n : Int) + 1) = (st.n : Int) + 1 := IntWalk.i64_in _ (by omega)
 refine calls_fw (ro := none) (n := 3) ?_
 have f1 : decide ((st.n : Int) + 1 > (budget : Int)) = false := decide_eq_false (by omega)
 refine callsIn_of_wp_marks (F := Fence.wide) Tryz.func71 rfl trivial ?_ rfl
 simp only [Tryz.ntmps71, List.size_toArray, List.length_cons, List.length_nil, Nat.reduceAdd, Nat.reduceSub, Array.replicate_succ, Array.replicate_zero, List.push_toArray, List.append_toArray, List.nil_append, List.cons_append]
 gi_wp2_with (first
  | ((with_reducible show wpListIn _ _ _ _ _ (⟨some 5, _, _, _, _, _⟩ :: _) _ _); refine fw_list (by intro c h; cases h) ?_; refine wpList_box1 _ rfl 3 (.tmp 0) rfl _ rfl rfl ?_; intro w1 a1 a2 a3; have HV1 := Lib.hid a1; have HX1 := Lib.hid a2; have HZ1 := Lib.hid a3; clear a1 a2 a3; refine fw_back ?_)
  | ((with_reducible show wpListIn _ _ _ _ _ (⟨some 6, _, _, _, _, _⟩ :: _) _ _); refine fw_list (by intro c h; cases h) ?_; refine wpList_alloc1 _ rfl 4 rfl (.bool false) boolZ1 rfl ?_; intro w2 a1 a2 a3; have HV2 := Lib.hid a1; have HX2 : Hid (Below W.heap.size W w2) := Lib.hid (HX1.out.trans (a2.mono HX1.out.size)); have HI2 := Lib.hid (HV1.out.kept a2); rw [HZ1.out] at HV2 ⊢; have HZ2 : Hid (w2.heap.size = W.heap.size + 2) := Lib.hid (by rw [a3, HZ1.out]); have s0 := (HL.out.psb w2 (HV.out.kp.then HX2.out)).get (j := 0) rfl; have s8 := (HV.out.kept HX2.out).bg.get (j := 8) rfl; clear a1 a2 a3; refine fw_back ?_)
  | ((with_reducible show wpListIn _ _ _ _ _ (⟨none, _, _, _, _, _⟩ :: _) _ _); refine fw_list (by intro c h; cases h) ?_; refine wpList_store1 _ rfl 3 (.tmp 15) (.tmp 13) rfl (sz1 _ (by kernel_rfl) _) xg 8 _ _ (.int .i64 ((st.n : Int) + 1)) rfl rfl (HV.out.kept HX2.out).bg rfl rfl (by simp) ?_; intro w3 a1 a2 a3; have HV3 : Hid (BL w3 xg 100 (sxL ⟨xg, Aw, cw, Ah, ch, vl, bm, Am, cm, gc, cc, vs, (.func (.func ffd) #[] lbf)⟩ ws.length hs.length (st.n + 1))) := Lib.hid a1; have HK3 := Lib.hid a2; have HZ3 : Hid (w3.heap.size = W.heap.size + 2) := Lib.hid (by rw [a3, HZ2.out]); clear a1 a2 a3 s0 s8; refine fw_back ?_))
 have HSV : Hid (SrV W0 w3 T ⟨xg, Aw, cw, Ah, ch, vl, bm, Am, cm, gc, cc, vs, (.func (.func ffd) #[] lbf)⟩ ws hs left (st.n + 1)) := Lib.hid ((HV.out.kept HX2.out).upd HL.out.c.tg HV3.out HK3.out)
 have hgl : xg < W.heap.size := HV.out.bg.lt
 have HV0 : Hid (W0.heap.size ≤ W.heap.size) := Lib.hid HV.out.kp.size
 have HNG : Hid (∀ b, R b → ¬ b = xg) := Lib.hid (fun b h e => (HR.out b h).2 (.inl e))
 have HCS3 : Hid (Chs w3 gc ws.length R cs) := Lib.hid ((HCS.out.kp (S := fun _ => False) (Kp.of_below HX2.out) (fun h => h) (fun _ _ h => h)).kp HK3.out (fun e => by obtain ⟨csv, hb, _⟩ := HCS.out; have := (hb.kept HX2.out).ty (by rw [show gc = xg from e]; exact HV.out.bg.kept HX2.out); exact absurd this (by decide)) HNG.out)
 have HX3 : Hid (X st.x R w3) := Lib.hid (HL.out.xk _ _ _ _ _ (HL.out.xk _ _ (fun _ => False) _ _ HX.out (Kp.of_below HX2.out) (fun _ _ h => h)) HK3.out HNG.out)
 have HW3 : Hid (BL w3 gw 4 [.bool st.wi]) := Lib.hid (HK3.out.bl (HW.out.kept HX2.out) (fun e => by have := HW.out.ty (by rw [show gw = xg from e]; exact HV.out.bg); exact absurd this (by decide)))
 have HI3 : Hid (BL w3 W.heap.size 3 [.int .i64 (i : Int)]) := Lib.hid (HK3.out.bl HI2.out (fun e => by omega))
 have HG3 : Hid (BL w3 (W.heap.size + 1) 4 [.bool false]) := Lib.hid (HK3.out.bl HV2.out (fun e => by omega))
 have HKT : Hid (Kp T W w3) := Lib.hid (((Kp.of_below HX2.out)).after HK3.out (fun b _ e => by subst e; exact HL.out.c.tg))
 have r1 := (HL.out.psb w3 HSV.out.kp).drew.get (j := 0) rfl
 have r2 := (HL.out.pbb w3 HSV.out.kp).drew.get (j := 0) rfl
 have r3 := HSV.out.bg.drew.get (j := 8) rfl
 dsimp only at r1 r3
 have HGW : Hid (gw < W.heap.size ∧ gc < W.heap.size ∧ xg < W.heap.size ∧ ∀ b, vl.ownBlock = some b → b < W.heap.size) := Lib.hid ⟨HW.out.lt, by obtain ⟨csv, hb, _⟩ := HCS.out; exact hb.lt, hgl, fun b hb => HV.out.l.lt hb⟩
 have HNE : Hid (gw ≠ xg ∧ gw ≠ gc ∧ (∀ b, vl.ownBlock = some b → b ≠ gw ∧ b ≠ xg ∧ b ≠ gc) ∧ gc ≠ xg) := Lib.hid ⟨fun e => absurd (HW.out.ty (by rw [e]; exact HV.out.bg)) (by decide), fun e => by obtain ⟨csv, hb, _⟩ := HCS.out; exact absurd (HW.out.ty (by rw [e]; exact hb)) (by decide),
  fun b hb => ⟨fun e => HV.out.l.ne_bl HW.out (by decide) b hb e, fun e => HV.out.l.ne_bl HV.out.bg (by decide) b hb e, fun e => by obtain ⟨csv, hc, _⟩ := HCS.out; exact HV.out.l.ne_bl hc (by decide) b hb e⟩, fun e => by obtain ⟨csv, hb, _⟩ := HCS.out; exact absurd (hb.ty (by rw [e]; exact HV.out.bg)) (by decide)⟩
 clear HCS HX HW HV3 HK3 HV1 HI2 HV2 HV HX1 HZ1 HX2 HZ2 hgl
 refine Text.wp_region_text_in (fun _ => True) [(0, 1), (1, 4), (2, 4), (3, 1), (4, 1), (5, 4)] (by kernel_rfl) (by kernel_rfl) (nodef rfl) (trivial) ?_
 (refine Text.readk rfl rfl (fun K hK => ⟨_, by go_simp <;> rfl, ?_⟩); go_simp; refine hK _ ?_; clear hK K)
 iterate 2 (refine Text.purek rfl rfl (fun K hK => ⟨_, fun w' => by go_simp <;> rfl, ?_⟩); go_simp; refine hK _ ?_; clear hK K)
 iterate 2 (refine Text.readk rfl rfl (fun K hK => ⟨_, by go_simp <;> rfl, ?_⟩); go_simp; refine hK _ ?_; clear hK K)
 (refine Text.purek rfl rfl (fun K hK => ⟨_, fun w' => by go_simp <;> rfl, ?_⟩); go_simp; refine hK _ ?_; clear hK K)
 refine Text.done ⟨rfl, ?_⟩
 gi_wp2_with fail
 have r4 := HI3.out.drew.drew.get (j := 0) rfl
 have r5 := HSV.out.bg.drew.drew.get (j := 0) rfl
 have r6 := (HL.out.psb w3 HSV.out.kp).drew.drew.get (j := 0) rfl
 have r7 := HSV.out.bg.drew.drew.get (j := 7) rfl
 dsimp only at r5 r6
 refine Text.wp_region_text_in (fun _ => True) [(0, 1), (1, 1), (2, 4), (3, 4), (4, 1), (5, 4), (6, 4)] (by kernel_rfl) (by kernel_rfl) (nodef rfl) (trivial) ?_
 iterate 2 (refine Text.readk rfl rfl (fun K hK => ⟨_, by go_simp <;> rfl, ?_⟩); go_simp; refine hK _ ?_; clear hK K)
 iterate 2 (refine Text.purek rfl rfl (fun K hK => ⟨_, fun w' => by go_simp <;> rfl, ?_⟩); go_simp; refine hK _ ?_; clear hK K)
 (refine Text.readk rfl rfl (fun K hK => ⟨_, by go_simp <;> rfl, ?_⟩); go_simp; refine hK _ ?_; clear hK K)
 iterate 2 (refine Text.purek rfl rfl (fun K hK => ⟨_, fun w' => by go_simp <;> rfl, ?_⟩); go_simp; refine hK _ ?_; clear hK K)
 refine Text.done ⟨rfl, ?_⟩
 gi_wp2_with fail
 have HCS4 : Hid (Chs w3.drew.drew gc ws.length R cs) := Lib.hid (HCS3.out.kp (S := fun _ => False) ((Kp.refl _ _).drew.drew) (fun h => h) (fun _ _ h => h))
 have HX4 : Hid (X st.x R w3.drew.drew) := Lib.hid (HL.out.xk _ _ (fun _ => False) _ _ HX3.out ((Kp.refl _ _).drew.drew) (fun _ _ h => h))
 have hcall := HL.out.fd w3.drew.drew left (st.n + 1) cs st.x R HCL.out (HSV.out.kp' (S := fun _ => False) ((Kp.refl _ _).drew.drew) (fun _ _ h => h.elim) (fun h => h) (fun _ _ h => h)) HCS4.out HX4.out (fun b h => Nat.lt_of_lt_of_le (HR.out b h).1 HKT.out.size)
 refine ⟨trivial, (fw_calls (ro := none) (n := 2) hcall).mono ?_⟩
 rintro e w4 ⟨rfl, p1, p2, p3⟩
 have HP1 := Lib.hid p1
 have HP2 := Lib.hid p2
 have HP3 : Hid (Kp Tx w3 w4) := Lib.hid ((Kp.refl _ w3).drew.drew.trans p3)
 have HG4 : Hid (BL w4 (W.heap.size + 1) 4 [.bool false]) := Lib.hid (HP3.out.bl HG3.out (fun h => by have := HL.out.c.lt _ (HL.out.tx _ h).1; have := HV0.out; omega))
 clear p1 p2 p3 hcall
 gi_wp2_with (first
  | ((with_reducible show wpListIn _ _ _ _ _ (⟨none, _, _, _, _, _⟩ :: _) _ _); refine fw_list (by intro c h; cases h) ?_; refine wpList_store1 _ rfl 4 (.tmp 6) (.tmp 33) rfl (sz1 _ (by kernel_rfl) _) (W.heap.size + 1) 0 _ _ (.bool (fd cs st.x).1) rfl rfl HG4.out rfl rfl (by simp) ?_; intro w5 a1 a2 a3; have HG5 : Hid (BL w5 (W.heap.size + 1) 4 [.bool (fd cs st.x).1]) := Lib.hid a1; have HK5 := Lib.hid a2; clear a1 a2 a3; refine fw_back ?_))
 refine ⟨_, results_one rfl boolAgg rfl (HG5.out.get (j := 0) rfl), ?_⟩
 obtain ⟨hg1, hg2, hg3, hg4⟩ := HGW.out
 have hne := HNE.out
 have hw0 := HV0.out
 have hz3 : W.heap.size + 1 < w3.heap.size := HG3.out.lt
 have hk : Kp T W w5 := (HKT.out.trans (HP3.out.mono (fun b _ h => (HL.out.tx b h).1))).after HK5.out (fun b hb e => by omega)
 have hR9 : ∀ b, (R b ∨ w3.heap.size ≤ b) → ¬ b = W.heap.size + 1 := fun b h e => by
  rcases h with h | h
  ·
   have := (HR.out b h).1; omega
  ·
   omega
 have hRR : ∀ b, (R b ∨ w3.heap.size ≤ b) → (R b ∨ W.heap.size ≤ b) := fun b h => h.imp id (fun h => by omega)
 refine ⟨rfl, (HSV.out.kp' HP3.out (fun b _ h => (HL.out.tx b h).1) (fun h => (HL.out.tx _ h).2.1 rfl) (fun b hb h => (HL.out.tx _ h).2.2.1 hb)).kp' HK5.out (fun b h e => ?_) (fun e => ?_) (fun b hb e => ?_), (HP2.out.kp HK5.out (fun e => ?_) (fun b h => hR9 b (.inl h))).mono (fun b h _ => .inl h),
  HL.out.xm _ _ _ _ (HL.out.xk _ _ _ _ _ HP1.out HK5.out hR9) (fun b h _ => hRR b h), HK5.out.bl (HP3.out.bl HW3.out (fun h => (HL.out.tx _ h).2.2.2.2 rfl)) (fun e => by omega), hk, fun _ => hb⟩
 ·
  omega
 ·
  have e9 : xg = W.heap.size + 1 := e; omega
 ·
  have := hg4 b hb; omega
 ·
  have e9 : gc = W.heap.size + 1 := e; omega
end
end Go.Proofs.YtklfficlegfhjaaGreat
