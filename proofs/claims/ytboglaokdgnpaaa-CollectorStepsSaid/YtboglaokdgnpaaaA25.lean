/- Several texts in one: Vd, Ve, Vf. -/
import Derived.Test.YtboglaokdgnpaaaA23
import Derived.Test.YtboglaokdgnpaaaA24
import Derived.Maps.RangeRun
/- collector.Safe. -/
namespace Go.Proofs.Ytboglaokdgnpaaa
open Go Go.RowKit Gf Sha

theorem staym_stp : StayM rStp := fun _ _ _ _ ⟨A0, n0, c0, A1, n1, c1, e, h0, h1, r⟩ hb => ⟨A0, n0, c0, A1, n1, c1, e, h0.mp staym_str hb, h1.mp staym_rf hb, r⟩
theorem KM.below {m0 m1 m2 m3 m4 m5 m6 m7 : Nat} {w w1 w' : World} (h : KM m0 m1 m2 m3 m4 m5 m6 m7 w1 w') (hb : Below w.heap.size w w1) (hm : ∀ i ∈ [m0, m1, m2, m3, m4, m5, m6, m7], w.heap.size ≤ i) : Below w.heap.size w w' :=
 ((Kp.of_below (S := fun _ => False) hb).after h (fun i hi hS => by have := hm i hS; omega)).below (Nat.le_refl _) (fun _ h => h.elim)
theorem safeB_take {x : Si} {st : St} {l : List Stp} {k : Nat} {s : Stp} (h : l[k]? = some s) (h1 : safeB x st (l.take k) = true) (h2 : takeB x (safeRun x st (l.take k)) s = true) : safeB x st (l.take (k + 1)) = true := by
 rw [take_next h, safeB_snoc, h1, h2]; rfl
/-- What Safe returns. -/
def safeV (x : Si) (l : List Stp) : Value := if siB x then .tuple #[.bool (safeB x (st0 x) l), .int .i64 0] else .tuple #[.bool false, .int .i64 1]
set_option maxRecDepth 100000 in
set_option maxHeartbeats 4000000 in
theorem safe_any (a0 : Option Addr) (n0 c0 : Nat) (a1 : Option Addr) (n1 c1 : Nat) (a2 : Option Addr) (n2 c2 : Nat) (a3 : Option Addr) (n3 c3 : Nat) (a4 : Option Addr) (n4 c4 : Nat) (a5 : Option Addr) (n5 c5 : Nat) (x : Si) (w : World) (hq : SiOk w a0 n0 c0 a1 n1 c1 a2 n2 c2 a3 n3 c3 a4 n4 c4 a5 n5 c5 x) (hbig : x.sp.length ≤ 1000) (A : Option Addr) (n c : Nat) (l : List Stp) (hl : LS rStp 5 80 w A n c l) :
  Calls Try.prog 24 #[.agg (siC a0 n0 c0 a1 n1 c1 a2 n2 c2 a3 n3 c3 a4 n4 c4 a5 n5 c5 x.pct).toArray, .slice A n c] w fun e w' => e = .returned (safeV x l) ∧ Below w.heap.size w w' := by
 have hn := hl.len_le
 have H := Lib.hid hq
 have HL := Lib.hid hl
 have HN := Lib.hid hl.1
 have HBG := Lib.hid hbig
 clear hq hbig hl
 cases hv : siB x with
 | false =>
  have HR : Hid (safeV x l = .tuple #[.bool false, .int .i64 1]) := Lib.hid (by rw [safeV, hv]; rfl)
  go_enter Try.func24, Try.ntmps24
  go_wp2_with (first
   | ((with_reducible show OpW 2); refine wpList_box _ rfl 33 (.tmp 0) rfl (siC a0 n0 c0 a1 n1 c1 a2 n2 c2 a3 n3 c3 a4 n4 c4 a5 n5 c5 x.pct) rfl ?_; intro w1 a1 a2 a3; have HB1 := Lib.hid a2; have HS1 := Lib.hid a1; clear a1 a2 a3)
   | ((with_reducible show OpW 11); refine wpList_loadv _ rfl 33 (.tmp 2) rfl 7 (by kernel_rfl) w.heap.size 0 _ rfl (BL.all HS1.out) rfl ?_)
   | (go_at_call 38; refine (read_any a0 n0 c0 a1 n1 c1 a2 n2 c2 a3 n3 c3 a4 n4 c4 a5 n5 c5 x _ (H.out.kept HB1.out) HBG.out).mono ?_; unfold ReadR; rw [hv]; (simp only [Bool.false_eq_true, if_false]); rintro e wb ⟨rfl, b3⟩; have HB3 := Lib.hid (below_then HB1.out b3); clear b3))
  go_ret2
  exact ⟨congrArg Ending.returned HR.out.symm, HB3.out⟩
 | true =>
  go_enter Try.func24, Try.ntmps24
  go_wp2_with (first
   | ((with_reducible show OpW 2); refine wpList_box _ rfl 33 (.tmp 0) rfl (siC a0 n0 c0 a1 n1 c1 a2 n2 c2 a3 n3 c3 a4 n4 c4 a5 n5 c5 x.pct) rfl ?_; intro w1 a1 a2 a3; have HB1 := Lib.hid a2; have HS1 := Lib.hid a1; clear a1 a2 a3)
   | ((with_reducible show OpW 11); refine wpList_loadv _ rfl 33 (.tmp 2) rfl 7 (by kernel_rfl) w.heap.size 0 _ rfl (BL.all HS1.out) rfl ?_)
   | (go_at_call 38; refine (read_any a0 n0 c0 a1 n1 c1 a2 n2 c2 a3 n3 c3 a4 n4 c4 a5 n5 c5 x _ (H.out.kept HB1.out) HBG.out).mono ?_; unfold ReadR; rw [hv]; (simp only [if_true]); rintro e wb ⟨gb, m0, m1, m2, m3, m4, m5, m6, m7, rfl, hst, b3, h8, h9⟩; have HB3 := Lib.hid (below_then HB1.out b3); have HST3 := Lib.hid hst; have HM9 : Hid (∀ i ∈ [m0, m1, m2, m3, m4, m5, m6, m7], w.heap.size ≤ i) := Lib.hid (fun i hi => by have := h9 i hi; have := HB1.out.size; omega); clear hst b3 h8 h9))
  go_loopw [20] (fun iv wr => ∃ k : Nat, k ≤ n ∧ iv = .int .i64 (k : Int) ∧ Hid (safeB x (st0 x) (l.take k) = true) ∧ Hid (StM wr gb m0 m1 m2 m3 m4 m5 m6 m7 a0 n0 c0 a1 n1 c1 a2 n2 c2 a3 n3 c3 a4 n4 c4 a5 n5 c5 x.pct (safeRun x (st0 x) (l.take k))) ∧ Hid (KM m0 m1 m2 m3 m4 m5 m6 m7 wb wr)) (fun iv _ => n - (intOf iv).toNat)
  case atStart => exact ⟨0, by omega, rfl, Lib.hid rfl, HST3, Lib.hid (KM.of_below (Below.refl _ _))⟩
  case round =>
   obtain ⟨k, hk, rfl, hsf, hst, hkm⟩ := hrel
   obtain ⟨wx, hwx⟩ : ∃ x, x = wr := ⟨_, rfl⟩
   rw [← hwx] at hst hkm ⊢
   clear hwx
   have HP : Hid (Mp wb wx) := Lib.hid (hkm.out.mp HST3.out.maps)
   by_cases hlt : k < n
   ·
    obtain ⟨t, g, o, cs, hs, rfl, hat, hrt⟩ := ((HL.out.kept stay_stp HB3.out).mp staym_stp HP.out).at_ stay_stp (Below.refl _ _) hlt
    have HRT := Lib.hid hrt
    obtain ⟨B0, p0, d0, B1, p1, d1, rfl, _⟩ := hrt
    have HA := Lib.hid hat
    have HX := Lib.hid hs
    have HSPx := Lib.hid ((H.out.sp.kept stay_sp HB3.out).mp staym_sp HP.out)
    have HIV : Hid (Inv x (safeRun x (st0 x) (l.take k))) := Lib.hid (safe_inv hv _ (Inv.st0 x) hsf.out)
    clear hs hat
    cases h1 : takeB x (safeRun x (st0 x) (l.take k)) t with
    | true =>
     have HF := Lib.hid (safeB_take HX.out hsf.out h1)
     have HTK : Hid (safeRun x (st0 x) (l.take (k + 1)) = takeS x (safeRun x (st0 x) (l.take k)) t) := Lib.hid (by rw [take_next HX.out, safeRun_step])
     go_wp2_with (first
      | ((with_reducible show OpW 23); refine wpList_loadv _ rfl 44 (.tmp 22) rfl 5 (by kernel_rfl) g (o + k * 5) (stC2 t B0 p0 d0 B1 p1 d1) (by go_simp) HA.out rfl ?_)
      | ((with_reducible show OpW 9); refine wpList_alloc _ rfl 44 rfl stpZ stpZero ?_; intro w3 a1 a2 a3; have HV3 := Lib.hid a1; have HX3 := Lib.hid a2; clear a1 a2 a3)
      | ((with_reducible show OpN); refine wpList_storev _ rfl 44 (.tmp 9) (.tmp 23) rfl 5 (by kernel_rfl) wx.heap.size 0 _ stpZ (stC2 t B0 p0 d0 B1 p1 d1) rfl rfl HV3.out rfl (one_val _ rfl) (by decide) ?_; intro w4 a1 a2 a3; have HV4 : Hid (BL w4 wx.heap.size 44 (stC2 t B0 p0 d0 B1 p1 d1)) := Lib.hid a1; have HX4 : Hid (Below wx.heap.size wx w4) := Lib.hid (((Kp.of_below (S := fun _ => False) HX3.out).after a2 (fun i hi e => by omega)).below (Nat.le_refl _) (fun _ h => h.elim)); clear a1 a2 a3)
      | ((with_reducible show OpW 25); refine wpList_loadv _ rfl 44 (.tmp 9) rfl 5 (by kernel_rfl) wx.heap.size 0 (stC2 t B0 p0 d0 B1 p1 d1) rfl (BL.all HV4.out) rfl ?_)
      | (go_at_call 71; (refine (take_any _ gb _ _ _ _ _ _ _ _ _ _ _ _ _ _ _ _ _ _ _ _ _ _ _ _ _ _ x _ (hst.out.kept HX4.out) ((HSPx.out).kept stay_sp HX4.out) hv HBG.out HIV.out t _ (stay_stp _ _ _ _ HRT.out HX4.out)).mono ?_; rintro e w5 ⟨rfl, k5, s5⟩; rw [h1]; have HK5 : Hid (KM m0 m1 m2 m3 m4 m5 m6 m7 wb w5) := Lib.hid ((hkm.out.then HX4.out).trans k5); have HS5 := Lib.hid s5; clear k5 s5)))
     go_roundw
     case rel => exact ⟨k + 1, by omega, by go_num, HF, Lib.hid (by rw [HTK.out]; exact HS5.out h1), HK5⟩
     case measure => simp [intOf]; omega
    | false =>
     have HR : Hid (safeV x l = .tuple #[.bool false, .int .i64 0]) := Lib.hid (by rw [safeV, hv, safeB_bad x HX.out h1]; rfl)
     go_wp2_with (first
      | ((with_reducible show OpW 23); refine wpList_loadv _ rfl 44 (.tmp 22) rfl 5 (by kernel_rfl) g (o + k * 5) (stC2 t B0 p0 d0 B1 p1 d1) (by go_simp) HA.out rfl ?_)
      | ((with_reducible show OpW 9); refine wpList_alloc _ rfl 44 rfl stpZ stpZero ?_; intro w3 a1 a2 a3; have HV3 := Lib.hid a1; have HX3 := Lib.hid a2; clear a1 a2 a3)
      | ((with_reducible show OpN); refine wpList_storev _ rfl 44 (.tmp 9) (.tmp 23) rfl 5 (by kernel_rfl) wx.heap.size 0 _ stpZ (stC2 t B0 p0 d0 B1 p1 d1) rfl rfl HV3.out rfl (one_val _ rfl) (by decide) ?_; intro w4 a1 a2 a3; have HV4 : Hid (BL w4 wx.heap.size 44 (stC2 t B0 p0 d0 B1 p1 d1)) := Lib.hid a1; have HX4 : Hid (Below wx.heap.size wx w4) := Lib.hid (((Kp.of_below (S := fun _ => False) HX3.out).after a2 (fun i hi e => by omega)).below (Nat.le_refl _) (fun _ h => h.elim)); clear a1 a2 a3)
      | ((with_reducible show OpW 25); refine wpList_loadv _ rfl 44 (.tmp 9) rfl 5 (by kernel_rfl) wx.heap.size 0 (stC2 t B0 p0 d0 B1 p1 d1) rfl (BL.all HV4.out) rfl ?_)
      | (go_at_call 71; (refine (take_any _ gb _ _ _ _ _ _ _ _ _ _ _ _ _ _ _ _ _ _ _ _ _ _ _ _ _ _ x _ (hst.out.kept HX4.out) ((HSPx.out).kept stay_sp HX4.out) hv HBG.out HIV.out t _ (stay_stp _ _ _ _ HRT.out HX4.out)).mono ?_; rintro e w5 ⟨rfl, k5, s5⟩; rw [h1]; have HK5 : Hid (KM m0 m1 m2 m3 m4 m5 m6 m7 wb w5) := Lib.hid ((hkm.out.then HX4.out).trans k5); have HS5 := Lib.hid s5; clear k5 s5)))
     go_ret2
     exact ⟨congrArg Ending.returned HR.out.symm, HK5.out.below HB3.out HM9.out⟩
   ·
    obtain rfl : k = n := by omega
    have HR : Hid (safeV x l = .tuple #[.bool true, .int .i64 0]) := Lib.hid (by
     have := hsf.out
     rw [take_end HN.out] at this
     rw [safeV, hv, this]; rfl)
    go_wp2_with fail
    go_ret2
    exact ⟨congrArg Ending.returned HR.out.symm, hkm.out.below HB3.out HM9.out⟩
end Go.Proofs.Ytboglaokdgnpaaa
/- A range over a map of ints of the call's own, in any order. -/
namespace Go.Proofs.Ytboglaokdgnpaaa
open Go Go.RowKit Go.ChangeMaps Gf

section
variable {P : Program} {o : Oper} {a : Act} {Q : Exit → Act → World → Prop} {ops : Array Oper} {rest : List Oper}
theorem wpList_range (w : World) (hg : o.guard = none) (t k e : TypeId) (x : Operand) (hop : o.op = .range t x) (ht : P.underlying t = some (.map k e)) (m clock : Nat) (es : Array MapEntry) (hx : a.eval x = .map (some m)) (hb : w.heap[m]? = some (.map es clock))
  (h : ∀ w', w'.heap[w.heap.size]? = some (.mapIter (some m) clock #[] clock) → Below w.heap.size w w' → w'.heap.size = w.heap.size + 1 → wpList P ops Q rest (a.put o.dst (.pointer (some ⟨w.heap.size, 0, none⟩))) w') : wpList P ops Q (o :: rest) a w :=
 wpList_plain hg fun K hK => by
  unfold Oper.wp execOp
  simp only [hop, hx]
  simp [run_range_map w t k e m es clock ht hb, Result.andThen]
  exact hK _ _ (h _ (heap_alloc_new w _) ((Below.refl _ _).alloc (Nat.le_refl _) _) (by simp))
theorem wpList_run (w : World) (hg : o.guard = none) (v : Value) (w' : World) (hr : (execOp a.eval o).run P w = .ok (.value v) w') (h : wpList P ops Q rest (a.put o.dst v) w') : wpList P ops Q (o :: rest) a w :=
 wpList_plain hg fun K hK => by
  unfold Oper.wp
  rw [hr]
  exact hK _ _ h
theorem exec_next {w : World} {x : Operand} {v : Value} {w' : World} (hop : o.op = .next x false) (hr : (Instr.next (a.eval x) false o.type).run P w = .ok v w') : (execOp a.eval o).run P w = .ok (.value v) w' := by
 unfold execOp
 simp only [hop]
 simp [hr, Result.andThen]
theorem exec_entry {w : World} {x : Operand} {v : Value} {w' : World} (hop : o.op = .entry x) (hr : (Instr.entry (a.eval x)).run P w = .ok v w') : (execOp a.eval o).run P w = .ok (.value v) w' := by
 unfold execOp
 simp only [hop]
 simp [hr, Result.andThen]
end
theorem Kp.setBlock {S : Nat → Prop} {w w1 : World} (h : Kp S w w1) {r : Nat} (o : Obj) (hr : S r ∨ w.heap.size ≤ r) : Kp S w (setBlock w1 r o) :=
 ⟨h.os, h.tape, h.output, by show _ ≤ (w1.heap.setIfInBounds r o).size; rw [Array.size_setIfInBounds]; exact h.size, fun k hk hn => by
  show (w1.heap.setIfInBounds r o)[k]? = _
  rw [Array.getElem?_setIfInBounds_ne (fun e => by subst e; exact hr.elim hn (fun h9 => by omega))]
  exact h.block k hk hn⟩
theorem setBlock_at {w : World} {r : Nat} (o : Obj) (h : r < w.heap.size) : (setBlock w r o).heap[r]? = some o := by
 show (w.heap.setIfInBounds r o)[r]? = _
 simp [h]
/-- A map of ints, its entries in sight. -/
theorem MG.rng {κ : Type} {P : Program} {k : TypeId} {enc : κ → Value} {w : World} {b : Nat} {n : κ → Int} (h : MG P k enc (.int .i64 0) w b (fun x => .int .i64 (n x))) :
  ∃ es clock, w.heap[b]? = some (.map es clock) ∧ (∀ e ∈ es.toList, e.born < clock) ∧ (es.toList.map (·.born)).Nodup ∧ (∀ e ∈ es.toList, ∃ x, e.val = .int .i64 (n x)) ∧ ((∀ e ∈ es.toList, e.val = .int .i64 0) → ∀ x, n x = 0) := by
 obtain ⟨f, ⟨L, ⟨es, clock, hb, hst, _, rfl⟩, h2, h3⟩, h4⟩ := h
 refine ⟨es, clock, hb, hst.1, hst.2.1, fun e he => ?_, fun hz x => ?_⟩
 ·
  obtain ⟨x, hx⟩ := h3 (e.key, e.val) (List.mem_map.2 ⟨e, he, rfl⟩)
  have h5 := (h2 x e.val).1 (by rw [← hx]; exact List.mem_map.2 ⟨e, he, rfl⟩)
  have h6 := h4 x
  rw [h5] at h6
  exact ⟨x, h6⟩
 ·
  cases hf : f x with
  | none =>
   have h6 := h4 x
   rw [hf] at h6
   injection h6 with _ h6
   exact h6.symm
  | some v =>
   have h5 := (h2 x v).2 hf
   obtain ⟨e, he, hev⟩ := List.mem_map.1 h5
   injection hev with _ hev
   have h6 := h4 x
   rw [hf, ← hev, hz e he] at h6
   injection h6 with _ h6
   exact h6.symm
theorem seen_step {es : Array MapEntry} {seen : Array Nat} {e : MapEntry} (hn : (es.toList.map (·.born)).Nodup) (he : e ∈ es.toList) {p : MapEntry → Prop} (h : ∀ x ∈ es.toList, seen.contains x.born = true → p x) (hp : p e) : ∀ x ∈ es.toList, (seen.push e.born).contains x.born = true → p x := fun x hx hc => by
 simp only [Array.contains_push, Bool.or_eq_true, beq_iff_eq] at hc
 by_cases h1 : seen.contains x.born = true
 ·
  exact h x hx h1
 ·
  have e1 : x.born = e.born := by
   rcases hc with h9 | h9
   ·
    exact absurd h9 (by simpa using h1)
   ·
    exact h9
  obtain rfl : x = e := by
   obtain ⟨i, hi⟩ := List.mem_iff_getElem?.1 hx
   obtain ⟨j, hj⟩ := List.mem_iff_getElem?.1 he
   obtain ⟨hi1, hi2⟩ := List.getElem?_eq_some_iff.1 hi
   obtain ⟨hj1, hj2⟩ := List.getElem?_eq_some_iff.1 hj
   have hp := List.pairwise_iff_getElem.1 (show (es.toList.map (·.born)).Pairwise (· ≠ ·) from hn)
   have hij : i = j := by
    rcases Nat.lt_trichotomy i j with hlt | h9 | hlt
    ·
     exact absurd (by rw [List.getElem_map, List.getElem_map, hi2, hj2]; exact e1) (hp i j (by simpa using hi1) (by simpa using hj1) hlt)
    ·
     exact h9
    ·
     exact absurd (by rw [List.getElem_map, List.getElem_map, hi2, hj2]; exact e1.symm) (hp j i (by simpa using hj1) (by simpa using hi1) hlt)
   subst hij
   exact hi2.symm.trans hj2
  exact hp
theorem left_none {es : Array MapEntry} {seen : Array Nat} (h : (leftOf es seen).size = 0) : ∀ x ∈ es.toList, seen.contains x.born = true := fun x hx => by
 have h1 : leftOf es seen = #[] := Array.eq_empty_of_size_eq_zero h
 unfold leftOf at h1
 rw [Array.filter_eq_empty_iff] at h1
 have := h1 x (by simpa using hx)
 simpa using this
theorem wp_lookokF {κ : Type} {P : Program} (w : World) {o : Oper} {a : Act} {Q : Exit → Act → World → Prop} {enc : κ → Value} {K' : Act → World → Prop} (m x : Operand) (t k e : TypeId) (hop : o.op = .lookup t m x true) (K : Go.Maps.Keyed P k) (ht : P.underlying t = some (.map k e)) (z : Value) (hz : (P.info? e).map (·.zero) = some (some z))
  (b : Nat) (f : κ → Option Value) (hm : a.eval m = .map (some b)) (hb : MF P k enc w b f) (xv : κ) (hx : a.eval x = enc xv) (hk : ∃ lx, keyOf P k (enc xv) = some lx) (v : Value) (c : Bool) (hv : (f xv).getD z = v) (hc : (f xv).isSome = c)
  (h : K' (a.put o.dst (.tuple #[v, .bool c])) w) : o.wp P a w K' Q := by
 obtain ⟨L, h1, h2, _⟩ := hb
 obtain ⟨lx, hlx⟩ := hk
 obtain ⟨v', fl, hf, hr⟩ := h1.look K ht hz hlx true
 have e1 := (mf_found h2 hf).1
 have e2 := (mf_found h2 hf).2
 rw [hv] at e1
 rw [hc] at e2
 subst e1 e2
 unfold Oper.wp execOp
 simp only [hop, hm, hx]
 simp [hr, Result.andThen]
 exact h
end Go.Proofs.Ytboglaokdgnpaaa
/- The situation's fit. -/
namespace Go.Proofs.Ytboglaokdgnpaaa
open Go Go.RowKit Go.ChangeMaps Gf Sha

/-- Are stripes valid, new, and of exactly these refs? -/
def fitB (st : St) (refs : List Rf) (made : List Sp) : Bool := okB (fun t => (st.pl t.id).isNone && spB t) spN made && refs.isPerm (made.flatMap (·.refs))
theorem cntR_count (l : List Rf) (q : Rf) : cntR l q = (l.count q : Int) := by
 unfold cntR
 rw [List.count, List.countP_eq_length_filter]
theorem perm_cnt (a b : List Rf) : a.isPerm b = true ↔ ∀ q, cntR a q = cntR b q := by
 rw [List.isPerm_iff, List.perm_iff_count]
 constructor
 ·
  intro h q; rw [cntR_count, cntR_count, h q]
 ·
  intro h q; have := h q; rw [cntR_count, cntR_count] at this; omega
def balF (refs l : List Rf) (q : Rf) : Int := cntR refs q - cntR l q
theorem balF_bound (refs l : List Rf) (q : Rf) : -(l.length : Int) ≤ balF refs l q ∧ balF refs l q ≤ refs.length := by
 have h1 := cntR_le refs q
 have h2 := cntR_le l q
 unfold balF; omega
theorem fit_true {st : St} {refs : List Rf} {made : List Sp} (h : okB (fun t => (st.pl t.id).isNone && spB t) spN made = true) (hz : ∀ q, balF refs (made.flatMap (·.refs)) q = 0) : fitB st refs made = true := by
 rw [fitB, h, (perm_cnt _ _).2 (fun q => by have := hz q; unfold balF at this; omega)]; rfl
theorem fit_false {st : St} {refs : List Rf} {made : List Sp} {q : Rf} (hz : balF refs (made.flatMap (·.refs)) q ≠ 0) : fitB st refs made = false := by
 rw [fitB]
 have : refs.isPerm (made.flatMap (·.refs)) = false := by
  rw [Bool.eq_false_iff]
  intro h
  have := (perm_cnt _ _).1 h q
  unfold balF at hz; omega
 rw [this, Bool.and_false]
set_option maxRecDepth 100000 in
set_option maxHeartbeats 4000000 in
theorem fit_any (w : World) (b : Nat) (m0 m1 m2 m3 m4 m5 m6 m7 : Nat) (a0 : Option Addr) (n0 c0 : Nat) (a1 : Option Addr) (n1 c1 : Nat) (a2 : Option Addr) (n2 c2 : Nat) (a3 : Option Addr) (n3 c3 : Nat) (a4 : Option Addr) (n4 c4 : Nat) (a5 : Option Addr) (n5 c5 : Nat) (p : Int) (st : St) (h : StM w b m0 m1 m2 m3 m4 m5 m6 m7 a0 n0 c0 a1 n1 c1 a2 n2 c2 a3 n3 c3 a4 n4 c4 a5 n5 c5 p st) (A : Option Addr) (n c : Nat) (refs : List Rf) (hl : LS rRf 3 32 w A n c refs) (B : Option Addr) (l d : Nat) (made : List Sp) (hm : LS rSp 6 72 w B l d made) :
  Calls Try.prog 84 #[.pointer (some ⟨b, 0, none⟩), .slice A n c, .slice B l d] w fun e w' => e = .returned (.bool (fitB st refs made)) ∧ Below w.heap.size w w' := by
 have hn := hl.len_le
 have hn2 := hm.len_le
 have H := Lib.hid hl
 have HL := Lib.hid hl.1
 have HM := Lib.hid hm
 have HML := Lib.hid hm.1
 have HST := Lib.hid h
 have HNL : Hid (n ≤ 4398046511104) := Lib.hid (by omega)
 have HNM : Hid (l ≤ 1954687338268) := Lib.hid (by omega)
 clear h hl hm
 go_enter Try.func84, Try.ntmps84
 go_wp2_with (first
  | ((with_reducible show OpW 19); refine wpList_makeG (enc := usC) _ rfl 78 9 rfl (.bool false) ?_; intro w1 a1 a2 a3; have HM1 := Lib.hid a1; have HB1 := Lib.hid a2; have HZ1 := Lib.hid a3; clear a1 a2 a3)
  | ((with_reducible show OpW 20); refine wpList_makeG (enc := rfV) _ rfl 80 73 rfl (.int .i64 0) ?_; intro w2 a1 a2 a3; have HG2' := Lib.hid a1; have HM2' := Lib.hid (HM1.out.kept a2); have HB2 := Lib.hid (below_then HB1.out a2); clear a1 a2 a3))
 obtain ⟨g1, hg1e⟩ : ∃ g1, g1 = w.heap.size := ⟨_, rfl⟩
 obtain ⟨g2, hg2e⟩ : ∃ g2, g2 = w1.heap.size := ⟨_, rfl⟩
 have HGS : Hid (w.heap.size ≤ g1 ∧ w.heap.size ≤ g2 ∧ g1 ≠ g2) := Lib.hid (by have := HZ1.out; omega)
 rw [← hg1e] at HM2'
 rw [← hg2e] at HG2'
 rw [← hg1e, ← hg2e]
 clear hg1e hg2e HZ1 HM1
 go_loopw [23] (fun iv wr => ∃ k : Nat, k ≤ n ∧ iv = .int .i64 (k : Int) ∧ Hid (MG Try.prog 9 usC (.bool false) wr g1 (fun _ => .bool false)) ∧ Hid (MG Try.prog 73 rfV (.int .i64 0) wr g2 (fun q => .int .i64 (cntR (refs.take k) q))) ∧ Hid (Below w.heap.size w wr)) (fun iv _ => n - (intOf iv).toNat)
 case atStart => exact ⟨0, by omega, rfl, HM2', HG2', HB2⟩
 case round =>
  obtain ⟨k, hk, rfl, hg1, hg2, hb⟩ := hrel
  obtain ⟨wx, hwx⟩ : ∃ x, x = wr := ⟨_, rfl⟩
  rw [← hwx] at hg1 hg2 hb ⊢
  clear hwx
  by_cases hlt : k < n
  ·
   obtain ⟨r, g, o, cs, hs, rfl, hat, rfl, hok⟩ := H.out.at_ stay_rf (Below.refl _ _) hlt
   have HA := Lib.hid (hat.kept hb.out)
   have HKR := Lib.hid (keyR r hok)
   obtain ⟨N, hN⟩ : ∃ N, N = cntR (refs.take k) r := ⟨_, rfl⟩
   have eN : IntKind.i64.wrap (N + 1) = N + 1 := by
    rw [IntKind.wrap_i64]
    have h2 := cntR_le (refs.take k) r
    have h3 : (refs.take k).length ≤ k := by rw [List.length_take]; omega
    have := HNL.out
    omega
   have HN := Lib.hid hN
   have HG2 : Hid (∀ q, cntR (refs.take (k + 1)) q = if q = r then cntR (refs.take k) r + 1 else cntR (refs.take k) q) := Lib.hid (fun q => by
    rw [take_next hs, cntR_snoc]
    by_cases h : q = r
    ·
     rw [if_pos h, if_pos h, h]
    ·
     rw [if_neg h, if_neg h, Int.add_zero])
   clear hs hat hok hN
   go_wp2_with (first
    | ((with_reducible show OpW 26); refine wpList_loadv _ rfl 73 (.tmp 25) rfl 3 (by kernel_rfl) g (o + k * 3) (rfL r) (by go_simp) HA.out rfl ?_)
    | ((with_reducible show OpW 10); refine wpList_alloc _ rfl 73 rfl rfZ rfZero ?_; intro w3 a1 a2 a3; have HV3 := Lib.hid a1; have HX3 := Lib.hid a2; clear a1 a2 a3)
    | ((with_reducible show OpN); refine wpList_storev _ rfl 73 (.tmp 10) (.tmp 26) rfl 3 (by kernel_rfl) wx.heap.size 0 _ rfZ (rfL r) rfl rfl HV3.out rfl (one_rf r) (by decide) ?_; intro w4 a1 a2 a3; have HV4 : Hid (BL w4 wx.heap.size 73 (rfL r)) := Lib.hid a1; have HX4 : Hid (Below wx.heap.size wx w4) := Lib.hid (((Kp.of_below (S := fun _ => False) HX3.out).after a2 (fun i hi e => by omega)).below (Nat.le_refl _) (fun _ h => h.elim)); clear a1 a2 a3)
    | fail)
   refine Text.wp_region_text (fun w' => MG Try.prog 73 rfV (.int .i64 0) w' g2 (fun q => .int .i64 (cntR (refs.take k) q)) ∧ BL w' wx.heap.size 73 (rfL r)) [(0, 4), (1, 0), (2, 0), (3, 4), (4, 2), (5, 4), (6, 3)] (by kernel_rfl) (by kernel_rfl) (fun _ _ _ _ _ h => h) (⟨(hg2.out.kept HX4.out.drew), HV4.out.kept (Below.refl _ _).drew⟩) ?_
   (refine Text.purek rfl rfl (fun K hK => ⟨_, fun w' => by go_simp <;> rfl, ?_⟩); go_simp; refine hK _ ?_; clear hK K)
   refine Text.heldk rfl rfl (fun K hK => ?_)
   refine ⟨_, fun w' hw' => exec_loadv 73 (.tmp 10) rfl 3 (by kernel_rfl) wx.heap.size 0 (rfL r) rfl (BL.all hw'.2) rfl, ?_⟩
   go_simp
   refine hK _ ?_
   clear hK K
   refine Text.heldk rfl rfl (fun K hK => ?_)
   refine ⟨_, fun w' hw' => exec_lookG w' (.tmp 27) (.tmp 28) 80 73 3 rfl refKeyed mapRI (.int .i64 0) intZero g2 _ rfl hw'.1 r rfl HKR.out, ?_⟩
   rw [← HN.out]
   go_simp
   refine hK _ ?_
   clear hK K
   (refine Text.purek rfl rfl (fun K hK => ⟨_, fun w' => by go_simp <;> rfl, ?_⟩); go_simp; refine hK _ ?_; clear hK K)
   refine Text.eff rfl rfl (fun K hK => ?_)
   refine wp_entryG _ rfV_inj (.tmp 27) (.tmp 28) 80 73 3 rfl refKeyed mapRI (.int .i64 0) intZero g2 _ rfl (hg2.out.kept HX4.out.drew) r rfl HKR.out ?_
   intro w6 v6 st6 a1 a2 a3 a4
   have HG6 := Lib.hid a1
   have HE6 := Lib.hid a4
   have HZ6 : Hid (Kp (· = g2) wx w6) := Lib.hid ((Kp.of_below HX4.out.drew).trans a2)
   have HV6 : Hid (BL w6 wx.heap.size 73 (rfL r)) := Lib.hid (a2.bl (HV4.out.kept (Below.refl _ _).drew) (by have := hg2.out.lt; omega))
   clear a1 a2 a3 a4
   go_simp
   refine hK _ _ ⟨HG6.out, HV6.out⟩ ?_
   clear hK K
   (refine Text.purek rfl rfl (fun K hK => ⟨_, fun w' => by go_simp <;> rfl, ?_⟩); go_simp; refine hK _ ?_; clear hK K)
   refine Text.last rfl rfl (fun K hK => ?_)
   obtain ⟨w7, s1, s2, s3, s4⟩ := HE6.out w6 (.int .i64 (N + 1)) rfl
   refine wp_entryStore _ rfl rfl rfl rfl s1 ?_
   have HG7 : Hid (MG Try.prog 73 rfV (.int .i64 0) w7 g2 (fun q => .int .i64 (cntR (refs.take (k + 1)) q))) := Lib.hid (s2.to (fun q => by
    by_cases h : q = r
    ·
     rw [if_pos h, HG2.out, h, if_pos rfl, HN.out]
    ·
     rw [if_neg h, HG2.out, if_neg h]))
   have HK7 : Hid (Kp (· = g2) wx w7) := Lib.hid (HZ6.out.trans s3)
   clear s1 s2 s3 s4
   go_simp
   refine hK _ _ ?_
   clear hK K
   refine Text.done ?_
   go_wp2_with fail
   go_roundw
   case rel => exact ⟨k + 1, by omega, by go_num, Lib.hid (hg1.out.kp HK7.out HGS.out.2.2), HG7, Lib.hid (((Kp.of_below (S := fun _ => False) hb.out).after HK7.out (fun i hi e => by have := HGS.out.2.1; omega)).below (Nat.le_refl _) (fun _ h => h.elim))⟩
   case measure => simp [intOf]; omega
  ·
   obtain rfl : k = n := by omega
   have HGA : Hid (MG Try.prog 73 rfV (.int .i64 0) wx g2 (fun q => .int .i64 (balF refs [] q))) := Lib.hid (by
    have h9 := hg2.out
    rw [take_end HL.out] at h9
    exact h9.to (fun q => by unfold balF; simp [cntR]))
   have HID := hg1
   have HW1 := hb
   clear hg1 hg2 hb
   go_wp2_with fail
   go_loopw [36] (fun iv wr => ∃ k : Nat, k ≤ l ∧ iv = .int .i64 (k : Int) ∧ Hid (∀ j, j < k → okAt (fun t => (st.pl t.id).isNone && spB t) spN made j = true) ∧ Hid (MG Try.prog 9 usC (.bool false) wr g1 (fun x => .bool ((made.take k).any fun y => spN y == x))) ∧ Hid (MG Try.prog 73 rfV (.int .i64 0) wr g2 (fun q => .int .i64 (balF refs ((made.take k).flatMap (·.refs)) q))) ∧ Hid (((made.take k).flatMap (·.refs)).length ≤ 8 * k) ∧ Hid (Below w.heap.size w wr)) (fun iv _ => l - (intOf iv).toNat)
   case atStart => exact ⟨0, by omega, rfl, Lib.hid (fun j hj => absurd hj (by omega)), HID, HGA, Lib.hid (Nat.le_refl _), HW1⟩
   case round =>
    obtain ⟨k, hk, rfl, hall, hg1, hg2, hlen, hb⟩ := hrel
    obtain ⟨wx, hwx⟩ : ∃ x, x = wr := ⟨_, rfl⟩
    rw [← hwx] at hg1 hg2 hb ⊢
    clear hwx
    by_cases hlt : k < l
    ·
     obtain ⟨t, g, o, cs, hs, rfl, hat, hst⟩ := HM.out.at_ stay_sp (Below.refl _ _) hlt
     have HTS := Lib.hid hst
     obtain ⟨A', m, c', rfl, hlr, hid, _⟩ := hst
     have HLR := Lib.hid hlr
     have hm' := hlr.len_le
     have HA := Lib.hid (hat.kept hb.out)
     have HKS := Lib.hid (keyS t.id (reach_key hid))
     have HX := Lib.hid hs
     clear hs hat hlr hid
     cases h1 : st.pl t.id with
     | some i =>
      have HF : Hid (fitB st refs made = false) := Lib.hid (by rw [fitB, ok_bad (f := spN) HX.out (by simp [h1])]; rfl)
      go_wp2_with (first
       | ((with_reducible show OpW 39); refine wpList_loadv _ rfl 61 (.tmp 38) rfl 6 (by kernel_rfl) g (o + k * 6) (spC t A' m c') (by go_simp) HA.out rfl ?_)
       | ((with_reducible show OpW 12); refine wpList_alloc _ rfl 61 rfl spZ spZero ?_; intro w3 a1 a2 a3; have HV3 := Lib.hid a1; have HX3 := Lib.hid a2; clear a1 a2 a3)
       | ((with_reducible show OpN); refine wpList_storev _ rfl 61 (.tmp 12) (.tmp 39) rfl 6 (by kernel_rfl) wx.heap.size 0 _ spZ (spC t A' m c') rfl rfl HV3.out rfl (one_sp t A' m c') (by decide) ?_; intro w4 a1 a2 a3; have HV4 : Hid (BL w4 wx.heap.size 61 (spC t A' m c')) := Lib.hid a1; have HX4 : Hid (Below wx.heap.size wx w4) := Lib.hid (((Kp.of_below (S := fun _ => False) HX3.out).after a2 (fun i hi e => by omega)).below (Nat.le_refl _) (fun _ h => h.elim)); clear a1 a2 a3; have r0 := HV4.out.get (j := 0) rfl; have r5 := HV4.out.get (j := 5) rfl; have q7 := (HST.out.blk.kept (below_thenB hb.out hb.out.size HX4.out)).get (j := 7) rfl)
       | fail)
      refine Text.wp_region_text (fun _ => True) [(0, 4), (1, 4), (2, 4), (4, 4), (3, 1), (5, 1), (6, 2), (7, 4), (8, 4), (9, 4), (10, 4), (11, 4)] (by kernel_rfl) (by kernel_rfl) (fun _ _ _ _ _ h => h) (trivial) ?_
      iterate 4 (refine Text.purek rfl rfl (fun K hK => ⟨_, fun w' => by go_simp <;> rfl, ?_⟩); go_simp; refine hK _ ?_; clear hK K)
      iterate 2 (refine Text.readk rfl rfl (fun K hK => ⟨_, by go_simp <;> rfl, ?_⟩); go_simp; refine hK _ ?_; clear hK K)
      refine Text.eff rfl rfl (fun K hK => ?_)
      refine wp_lookokF _ (.tmp 44) (.tmp 46) 77 9 3 rfl strKeyed mapSI (.int .i64 0) intZero m0 _ rfl (HST.out.maps.kept (below_thenB hb.out hb.out.size HX4.out.drew)).pl t.id rfl HKS.out (.int .i64 (i : Int)) true (by rw [h1]; rfl) (by rw [h1]; rfl) ?_
      go_simp
      refine hK _ _ trivial ?_
      clear hK K
      iterate 5 (refine Text.purek rfl rfl (fun K hK => ⟨_, fun w' => by go_simp <;> rfl, ?_⟩); go_simp; refine hK _ ?_; clear hK K)
      refine Text.done ?_
      go_wp2_with fail
      go_ret
      exact ⟨ret_bool HF.out.symm, below_thenB hb.out hb.out.size HX4.out.drew⟩
     | none =>
      cases h2 : (made.take k).any fun y => spN y == t.id with
      | true =>
       have HF : Hid (fitB st refs made = false) := Lib.hid (by
        obtain ⟨j, y, hjk, hj, e⟩ := any_take_hit h2
        rw [fitB, ok_twice (f := spN) HX.out hj hjk (show spN y = spN t from e)]; rfl)
       go_wp2_with (first
        | ((with_reducible show OpW 39); refine wpList_loadv _ rfl 61 (.tmp 38) rfl 6 (by kernel_rfl) g (o + k * 6) (spC t A' m c') (by go_simp) HA.out rfl ?_)
        | ((with_reducible show OpW 12); refine wpList_alloc _ rfl 61 rfl spZ spZero ?_; intro w3 a1 a2 a3; have HV3 := Lib.hid a1; have HX3 := Lib.hid a2; clear a1 a2 a3)
        | ((with_reducible show OpN); refine wpList_storev _ rfl 61 (.tmp 12) (.tmp 39) rfl 6 (by kernel_rfl) wx.heap.size 0 _ spZ (spC t A' m c') rfl rfl HV3.out rfl (one_sp t A' m c') (by decide) ?_; intro w4 a1 a2 a3; have HV4 : Hid (BL w4 wx.heap.size 61 (spC t A' m c')) := Lib.hid a1; have HX4 : Hid (Below wx.heap.size wx w4) := Lib.hid (((Kp.of_below (S := fun _ => False) HX3.out).after a2 (fun i hi e => by omega)).below (Nat.le_refl _) (fun _ h => h.elim)); clear a1 a2 a3; have r0 := HV4.out.get (j := 0) rfl; have r5 := HV4.out.get (j := 5) rfl; have q7 := (HST.out.blk.kept (below_thenB hb.out hb.out.size HX4.out)).get (j := 7) rfl)
        | fail)
       refine Text.wp_region_text (fun _ => True) [(0, 4), (1, 4), (2, 4), (4, 4), (3, 1), (5, 1), (6, 2), (7, 4), (8, 4), (9, 4), (10, 4), (11, 4)] (by kernel_rfl) (by kernel_rfl) (fun _ _ _ _ _ h => h) (trivial) ?_
       iterate 4 (refine Text.purek rfl rfl (fun K hK => ⟨_, fun w' => by go_simp <;> rfl, ?_⟩); go_simp; refine hK _ ?_; clear hK K)
       iterate 2 (refine Text.readk rfl rfl (fun K hK => ⟨_, by go_simp <;> rfl, ?_⟩); go_simp; refine hK _ ?_; clear hK K)
       refine Text.eff rfl rfl (fun K hK => ?_)
       refine wp_lookokF _ (.tmp 44) (.tmp 46) 77 9 3 rfl strKeyed mapSI (.int .i64 0) intZero m0 _ rfl (HST.out.maps.kept (below_thenB hb.out hb.out.size HX4.out.drew)).pl t.id rfl HKS.out (.int .i64 0) false (by rw [h1]; rfl) (by rw [h1]; rfl) ?_
       go_simp
       refine hK _ _ trivial ?_
       clear hK K
       iterate 5 (refine Text.purek rfl rfl (fun K hK => ⟨_, fun w' => by go_simp <;> rfl, ?_⟩); go_simp; refine hK _ ?_; clear hK K)
       refine Text.done ?_
       go_wp2_with (first
        | ((with_reducible show OpW 55); refine wpList_lookGgv _ rfl (.tmp 52) (.tmp 54) 78 9 4 rfl strKeyed mapSB (.bool false) boolZero g1 _ rfl (hg1.out.kept HX4.out.drew) t.id rfl HKS.out _ (by rw [h2]) ?_)
        | fail)
       go_ret
       exact ⟨ret_bool HF.out.symm, below_thenB hb.out hb.out.size HX4.out.drew⟩
      | false =>
       cases h3 : spB t with
       | false =>
        have HF : Hid (fitB st refs made = false) := Lib.hid (by rw [fitB, ok_bad (f := spN) HX.out (by simp [h3])]; rfl)
        go_wp2_with (first
         | ((with_reducible show OpW 39); refine wpList_loadv _ rfl 61 (.tmp 38) rfl 6 (by kernel_rfl) g (o + k * 6) (spC t A' m c') (by go_simp) HA.out rfl ?_)
         | ((with_reducible show OpW 12); refine wpList_alloc _ rfl 61 rfl spZ spZero ?_; intro w3 a1 a2 a3; have HV3 := Lib.hid a1; have HX3 := Lib.hid a2; clear a1 a2 a3)
         | ((with_reducible show OpN); refine wpList_storev _ rfl 61 (.tmp 12) (.tmp 39) rfl 6 (by kernel_rfl) wx.heap.size 0 _ spZ (spC t A' m c') rfl rfl HV3.out rfl (one_sp t A' m c') (by decide) ?_; intro w4 a1 a2 a3; have HV4 : Hid (BL w4 wx.heap.size 61 (spC t A' m c')) := Lib.hid a1; have HX4 : Hid (Below wx.heap.size wx w4) := Lib.hid (((Kp.of_below (S := fun _ => False) HX3.out).after a2 (fun i hi e => by omega)).below (Nat.le_refl _) (fun _ h => h.elim)); clear a1 a2 a3; have r0 := HV4.out.get (j := 0) rfl; have r5 := HV4.out.get (j := 5) rfl; have q7 := (HST.out.blk.kept (below_thenB hb.out hb.out.size HX4.out)).get (j := 7) rfl)
         | fail)
        refine Text.wp_region_text (fun _ => True) [(0, 4), (1, 4), (2, 4), (4, 4), (3, 1), (5, 1), (6, 2), (7, 4), (8, 4), (9, 4), (10, 4), (11, 4)] (by kernel_rfl) (by kernel_rfl) (fun _ _ _ _ _ h => h) (trivial) ?_
        iterate 4 (refine Text.purek rfl rfl (fun K hK => ⟨_, fun w' => by go_simp <;> rfl, ?_⟩); go_simp; refine hK _ ?_; clear hK K)
        iterate 2 (refine Text.readk rfl rfl (fun K hK => ⟨_, by go_simp <;> rfl, ?_⟩); go_simp; refine hK _ ?_; clear hK K)
        refine Text.eff rfl rfl (fun K hK => ?_)
        refine wp_lookokF _ (.tmp 44) (.tmp 46) 77 9 3 rfl strKeyed mapSI (.int .i64 0) intZero m0 _ rfl (HST.out.maps.kept (below_thenB hb.out hb.out.size HX4.out.drew)).pl t.id rfl HKS.out (.int .i64 0) false (by rw [h1]; rfl) (by rw [h1]; rfl) ?_
        go_simp
        refine hK _ _ trivial ?_
        clear hK K
        iterate 5 (refine Text.purek rfl rfl (fun K hK => ⟨_, fun w' => by go_simp <;> rfl, ?_⟩); go_simp; refine hK _ ?_; clear hK K)
        refine Text.done ?_
        go_wp2_with (first
         | ((with_reducible show OpW 55); refine wpList_lookGgv _ rfl (.tmp 52) (.tmp 54) 78 9 4 rfl strKeyed mapSB (.bool false) boolZero g1 _ rfl (hg1.out.kept HX4.out.drew) t.id rfl HKS.out _ (by rw [h2]) ?_)
         | ((with_reducible show OpW 58); refine wpList_loadvg _ rfl 61 (.tmp 12) rfl 6 (by kernel_rfl) wx.heap.size 0 (spC t A' m c') rfl (BL.all (HV4.out.kept (Below.refl _ _).drew)) rfl ?_)
         | (go_at_call 69; refine (spCheck_any _ t _ (stay_sp _ _ _ _ HTS.out (below_thenB hb.out hb.out.size HX4.out.drew))).mono ?_; rintro e w5 ⟨rfl, b5⟩; rw [h3]; have HX5 := Lib.hid (below_thenB HX4.out.drew HX4.out.size b5); have HV5 := Lib.hid (HV4.out.kept (below_ofDrew b5)); have p0 := (HV4.out.kept (below_ofDrew b5)).get (j := 0) rfl; have p5 := (HV4.out.kept (below_ofDrew b5)).get (j := 5) rfl; clear b5)
         | fail)
        go_ret
        exact ⟨ret_bool HF.out.symm, below_thenB hb.out hb.out.size HX5.out⟩
       | true =>
        have HF : Hid (∀ j, j < k + 1 → okAt (fun t => (st.pl t.id).isNone && spB t) spN made j = true) := Lib.hid (fun i hi => by
         rcases Nat.lt_succ_iff_lt_or_eq.1 hi with h | rfl
         ·
          exact hall.out i h
         ·
          exact ok_hit HX.out (by simp [h1, h3]) h2)
        have HM8 : Hid (m ≤ 8) := Lib.hid (by have := (spB_refs h3).1; have := HLR.out.1; omega)
        go_wp2_with (first
         | ((with_reducible show OpW 39); refine wpList_loadv _ rfl 61 (.tmp 38) rfl 6 (by kernel_rfl) g (o + k * 6) (spC t A' m c') (by go_simp) HA.out rfl ?_)
         | ((with_reducible show OpW 12); refine wpList_alloc _ rfl 61 rfl spZ spZero ?_; intro w3 a1 a2 a3; have HV3 := Lib.hid a1; have HX3 := Lib.hid a2; clear a1 a2 a3)
         | ((with_reducible show OpN); refine wpList_storev _ rfl 61 (.tmp 12) (.tmp 39) rfl 6 (by kernel_rfl) wx.heap.size 0 _ spZ (spC t A' m c') rfl rfl HV3.out rfl (one_sp t A' m c') (by decide) ?_; intro w4 a1 a2 a3; have HV4 : Hid (BL w4 wx.heap.size 61 (spC t A' m c')) := Lib.hid a1; have HX4 : Hid (Below wx.heap.size wx w4) := Lib.hid (((Kp.of_below (S := fun _ => False) HX3.out).after a2 (fun i hi e => by omega)).below (Nat.le_refl _) (fun _ h => h.elim)); clear a1 a2 a3; have r0 := HV4.out.get (j := 0) rfl; have r5 := HV4.out.get (j := 5) rfl; have q7 := (HST.out.blk.kept (below_thenB hb.out hb.out.size HX4.out)).get (j := 7) rfl)
         | fail)
        refine Text.wp_region_text (fun _ => True) [(0, 4), (1, 4), (2, 4), (4, 4), (3, 1), (5, 1), (6, 2), (7, 4), (8, 4), (9, 4), (10, 4), (11, 4)] (by kernel_rfl) (by kernel_rfl) (fun _ _ _ _ _ h => h) (trivial) ?_
        iterate 4 (refine Text.purek rfl rfl (fun K hK => ⟨_, fun w' => by go_simp <;> rfl, ?_⟩); go_simp; refine hK _ ?_; clear hK K)
        iterate 2 (refine Text.readk rfl rfl (fun K hK => ⟨_, by go_simp <;> rfl, ?_⟩); go_simp; refine hK _ ?_; clear hK K)
        refine Text.eff rfl rfl (fun K hK => ?_)
        refine wp_lookokF _ (.tmp 44) (.tmp 46) 77 9 3 rfl strKeyed mapSI (.int .i64 0) intZero m0 _ rfl (HST.out.maps.kept (below_thenB hb.out hb.out.size HX4.out.drew)).pl t.id rfl HKS.out (.int .i64 0) false (by rw [h1]; rfl) (by rw [h1]; rfl) ?_
        go_simp
        refine hK _ _ trivial ?_
        clear hK K
        iterate 5 (refine Text.purek rfl rfl (fun K hK => ⟨_, fun w' => by go_simp <;> rfl, ?_⟩); go_simp; refine hK _ ?_; clear hK K)
        refine Text.done ?_
        go_wp2_with (first
         | ((with_reducible show OpW 55); refine wpList_lookGgv _ rfl (.tmp 52) (.tmp 54) 78 9 4 rfl strKeyed mapSB (.bool false) boolZero g1 _ rfl (hg1.out.kept HX4.out.drew) t.id rfl HKS.out _ (by rw [h2]) ?_)
         | ((with_reducible show OpW 58); refine wpList_loadvg _ rfl 61 (.tmp 12) rfl 6 (by kernel_rfl) wx.heap.size 0 (spC t A' m c') rfl (BL.all (HV4.out.kept (Below.refl _ _).drew)) rfl ?_)
         | (go_at_call 69; refine (spCheck_any _ t _ (stay_sp _ _ _ _ HTS.out (below_thenB hb.out hb.out.size HX4.out.drew))).mono ?_; rintro e w5 ⟨rfl, b5⟩; rw [h3]; have HX5 := Lib.hid (below_thenB HX4.out.drew HX4.out.size b5); have HV5 := Lib.hid (HV4.out.kept (below_ofDrew b5)); have p0 := (HV4.out.kept (below_ofDrew b5)).get (j := 0) rfl; have p5 := (HV4.out.kept (below_ofDrew b5)).get (j := 5) rfl; clear b5)
         | ((with_reducible show OpN); refine wpList_updG _ (fun x y h => usC_inj h) rfl (.tmp 62) (.tmp 64) (.const (.bool true)) 78 9 4 rfl strKeyed mapSB (.bool false) g1 _ rfl (hg1.out.kept HX5.out) t.id (.bool true) rfl rfl HKS.out ?_; intro w6 a1 a2 a3; have HI6 : Hid (MG Try.prog 9 usC (.bool false) w6 g1 (fun y => .bool ((made.take (k + 1)).any fun z => spN z == y))) := Lib.hid (a1.to (fun y => set_next (f := spN) HX.out y)); have HK6 := Lib.hid a2; have HV6 : Hid (BL w6 wx.heap.size 61 (spC t A' m c')) := Lib.hid (a2.bl HV5.out (by have := hg1.out.lt; omega)); have p5 := (a2.bl HV5.out (by have := hg1.out.lt; omega)).get (j := 5) rfl; clear a1 a2 a3))
        have HG6 : Hid (MG Try.prog 73 rfV (.int .i64 0) w6 g2 (fun q => .int .i64 (balF refs ((made.take k).flatMap (·.refs)) q))) := Lib.hid ((hg2.out.kept HX5.out).kp HK6.out (fun e => HGS.out.2.2 e.symm))
        have HB6 : Hid (Below w.heap.size w w6) := Lib.hid (((Kp.of_below (S := fun _ => False) (below_thenB hb.out hb.out.size HX5.out)).after HK6.out (fun i hi e => by have := HGS.out.1; omega)).below (Nat.le_refl _) (fun _ h => h.elim))
        clear p0
        have HTK : Hid ((made.take (k + 1)).flatMap (·.refs) = (made.take k).flatMap (·.refs) ++ t.refs) := Lib.hid (by rw [take_next HX.out, List.flatMap_append]; simp)
        clear hb hg1 hg2
        go_loopw [68] (fun iv wr => ∃ j : Nat, j ≤ m ∧ iv = .int .i64 (j : Int) ∧ Hid (MG Try.prog 9 usC (.bool false) wr g1 (fun y => .bool ((made.take (k + 1)).any fun z => spN z == y))) ∧ Hid (MG Try.prog 73 rfV (.int .i64 0) wr g2 (fun q => .int .i64 (balF refs ((made.take k).flatMap (·.refs) ++ t.refs.take j) q))) ∧ Hid (Below w.heap.size w wr)) (fun iv _ => m - (intOf iv).toNat)
        case atStart => exact ⟨0, by omega, rfl, HI6, Lib.hid (by rw [List.take_zero, List.append_nil]; exact HG6.out), HB6⟩
        case round =>
         obtain ⟨j, hj, rfl, hg1, hg2, hb⟩ := hrel
         obtain ⟨wy, hwy⟩ : ∃ x, x = wr := ⟨_, rfl⟩
         rw [← hwy] at hg1 hg2 hb ⊢
         clear hwy
         by_cases hjm : j < m
         ·
          obtain ⟨r, g', o', cs', hr', rfl, hat', rfl, hok⟩ := HLR.out.at_ stay_rf (Below.refl _ _) hjm
          have HA' := Lib.hid (hat'.kept hb.out)
          have HKR := Lib.hid (keyR r hok)
          obtain ⟨N, hN⟩ : ∃ N, N = balF refs ((made.take k).flatMap (·.refs) ++ t.refs.take j) r := ⟨_, rfl⟩
          have eN : IntKind.i64.wrap (N - 1) = N - 1 := by
           rw [IntKind.wrap_i64]
           have h2 := balF_bound refs ((made.take k).flatMap (·.refs) ++ t.refs.take j) r
           rw [List.length_append, List.length_take] at h2
           have := HNL.out
           have := HNM.out
           have := hlen.out
           have := HL.out
           have := HM8.out
           omega
          have HN := Lib.hid hN
          have HG2 : Hid (∀ q, balF refs ((made.take k).flatMap (·.refs) ++ t.refs.take (j + 1)) q = if q = r then balF refs ((made.take k).flatMap (·.refs) ++ t.refs.take j) r - 1 else balF refs ((made.take k).flatMap (·.refs) ++ t.refs.take j) q) := Lib.hid (fun q => by
           rw [take_next hr', ← List.append_assoc]
           unfold balF
           rw [cntR_snoc]
           by_cases h : q = r
           ·
            rw [if_pos h, if_pos h, h]; omega
           ·
            rw [if_neg h, if_neg h, Int.add_zero])
          clear hr' hat' hok hN
          go_wp2_with (first
           | ((with_reducible show OpW 71); refine wpList_loadv _ rfl 73 (.tmp 70) rfl 3 (by kernel_rfl) g' (o' + j * 3) (rfL r) (by go_simp) HA'.out rfl ?_)
           | ((with_reducible show OpW 16); refine wpList_alloc _ rfl 73 rfl rfZ rfZero ?_; intro w3 a1 a2 a3; have HV3 := Lib.hid a1; have HX3 := Lib.hid a2; clear a1 a2 a3)
           | ((with_reducible show OpN); refine wpList_storev _ rfl 73 (.tmp 16) (.tmp 71) rfl 3 (by kernel_rfl) wy.heap.size 0 _ rfZ (rfL r) rfl rfl HV3.out rfl (one_rf r) (by decide) ?_; intro w4 a1 a2 a3; have HV4 : Hid (BL w4 wy.heap.size 73 (rfL r)) := Lib.hid a1; have HX4 : Hid (Below wy.heap.size wy w4) := Lib.hid (((Kp.of_below (S := fun _ => False) HX3.out).after a2 (fun i hi e => by omega)).below (Nat.le_refl _) (fun _ h => h.elim)); clear a1 a2 a3)
           | fail)
          refine Text.wp_region_text (fun w' => MG Try.prog 73 rfV (.int .i64 0) w' g2 (fun q => .int .i64 (balF refs ((made.take k).flatMap (·.refs) ++ t.refs.take j) q)) ∧ BL w' wy.heap.size 73 (rfL r)) [(0, 4), (1, 0), (2, 0), (3, 4), (4, 2), (5, 4), (6, 3)] (by kernel_rfl) (by kernel_rfl) (fun _ _ _ _ _ h => h) (⟨(hg2.out.kept HX4.out.drew), HV4.out.kept (Below.refl _ _).drew⟩) ?_
          (refine Text.purek rfl rfl (fun K hK => ⟨_, fun w' => by go_simp <;> rfl, ?_⟩); go_simp; refine hK _ ?_; clear hK K)
          refine Text.heldk rfl rfl (fun K hK => ?_)
          refine ⟨_, fun w' hw' => exec_loadv 73 (.tmp 16) rfl 3 (by kernel_rfl) wy.heap.size 0 (rfL r) rfl (BL.all hw'.2) rfl, ?_⟩
          go_simp
          refine hK _ ?_
          clear hK K
          refine Text.heldk rfl rfl (fun K hK => ?_)
          refine ⟨_, fun w' hw' => exec_lookG w' (.tmp 72) (.tmp 73) 80 73 3 rfl refKeyed mapRI (.int .i64 0) intZero g2 _ rfl hw'.1 r rfl HKR.out, ?_⟩
          rw [← HN.out]
          go_simp
          refine hK _ ?_
          clear hK K
          (refine Text.purek rfl rfl (fun K hK => ⟨_, fun w' => by go_simp <;> rfl, ?_⟩); go_simp; refine hK _ ?_; clear hK K)
          refine Text.eff rfl rfl (fun K hK => ?_)
          refine wp_entryG _ rfV_inj (.tmp 72) (.tmp 73) 80 73 3 rfl refKeyed mapRI (.int .i64 0) intZero g2 _ rfl (hg2.out.kept HX4.out.drew) r rfl HKR.out ?_
          intro w6 v6 st6 a1 a2 a3 a4
          have HG6 := Lib.hid a1
          have HE6 := Lib.hid a4
          have HZ6 : Hid (Kp (· = g2) wy w6) := Lib.hid ((Kp.of_below HX4.out.drew).trans a2)
          have HV6 : Hid (BL w6 wy.heap.size 73 (rfL r)) := Lib.hid (a2.bl (HV4.out.kept (Below.refl _ _).drew) (by have := hg2.out.lt; omega))
          clear a1 a2 a3 a4
          go_simp
          refine hK _ _ ⟨HG6.out, HV6.out⟩ ?_
          clear hK K
          (refine Text.purek rfl rfl (fun K hK => ⟨_, fun w' => by go_simp <;> rfl, ?_⟩); go_simp; refine hK _ ?_; clear hK K)
          refine Text.last rfl rfl (fun K hK => ?_)
          obtain ⟨w7, s1, s2, s3, s4⟩ := HE6.out w6 (.int .i64 (N - 1)) rfl
          refine wp_entryStore _ rfl rfl rfl rfl s1 ?_
          have HG7 : Hid (MG Try.prog 73 rfV (.int .i64 0) w7 g2 (fun q => .int .i64 (balF refs ((made.take k).flatMap (·.refs) ++ t.refs.take (j + 1)) q))) := Lib.hid (s2.to (fun q => by
           by_cases h : q = r
           ·
            rw [if_pos h, HG2.out, h, if_pos rfl, HN.out]
           ·
            rw [if_neg h, HG2.out, if_neg h]))
          have HK7 : Hid (Kp (· = g2) wy w7) := Lib.hid (HZ6.out.trans s3)
          clear s1 s2 s3 s4
          go_simp
          refine hK _ _ ?_
          clear hK K
          refine Text.done ?_
          go_wp2_with fail
          go_roundw
          case rel => exact ⟨j + 1, by omega, by go_num, Lib.hid (hg1.out.kp HK7.out HGS.out.2.2), HG7, Lib.hid (((Kp.of_below (S := fun _ => False) hb.out).after HK7.out (fun i hi e => by have := HGS.out.2.1; omega)).below (Nat.le_refl _) (fun _ h => h.elim))⟩
          case measure => simp [intOf]; omega
         ·
          obtain rfl : j = m := by omega
          have HGE : Hid (MG Try.prog 73 rfV (.int .i64 0) wy g2 (fun q => .int .i64 (balF refs ((made.take (k + 1)).flatMap (·.refs)) q))) := Lib.hid (by
           have h9 := hg2.out
           rw [take_end HLR.out.1, ← HTK.out] at h9; exact h9)
          have HLE : Hid (((made.take (k + 1)).flatMap (·.refs)).length ≤ 8 * (k + 1)) := Lib.hid (by
           rw [HTK.out, List.length_append]
           have := hlen.out
           have := HM8.out
           have := HLR.out.1
           omega)
          go_wp2_with fail
          go_roundw
          case rel => exact ⟨k + 1, by omega, by go_num, HF, hg1, HGE, HLE, hb⟩
          case measure => simp [intOf]; omega
    ·
     obtain rfl : k = l := by omega
     have HOK : Hid (okB (fun t => (st.pl t.id).isNone && spB t) spN made = true) := Lib.hid (ok_all (by rw [HML.out]; exact hall.out))
     have HGZ : Hid (MG Try.prog 73 rfV (.int .i64 0) wx g2 (fun q => .int .i64 (balF refs (made.flatMap (·.refs)) q))) := Lib.hid (by
      have h9 := hg2.out
      rw [take_end HML.out] at h9; exact h9)
     obtain ⟨es, clock, hmap, hold, hnd, hval, hzero⟩ := HGZ.out.rng
     have HMP := Lib.hid hmap
     have HOLD := Lib.hid hold
     have HND := Lib.hid hnd
     have HVAL := Lib.hid hval
     have HZERO := Lib.hid hzero
     have HG2L : Hid (g2 < wx.heap.size) := Lib.hid hg2.out.lt
     clear hmap hold hnd hval hzero hg1 hg2 hall hlen
     go_wp2_with (first
      | ((with_reducible show OpW 81); refine wpList_range _ rfl 80 73 3 (.tmp 80) rfl mapRI g2 clock es rfl HMP.out ?_; intro w1 a1 a2 a3; have HI1 := Lib.hid a1; have HR1 := Lib.hid a2; clear a1 a2 a3))
     go_simp
     obtain ⟨gr, hgr⟩ : ∃ gr, gr = wx.heap.size := ⟨_, rfl⟩
     have HGR := Lib.hid hgr
     rw [← hgr] at HI1 ⊢
     clear hgr
     go_loopw [18] (fun _ wr => ∃ seen : Array Nat, Hid (wr.heap[gr]? = some (.mapIter (some g2) clock seen clock)) ∧ Hid (∀ e ∈ es.toList, seen.contains e.born = true → e.val = .int .i64 0) ∧ Hid (Below wx.heap.size wx wr)) (fun _ wr => (leftOf es (wr.iterSeen gr)).size)
     case atStart => exact ⟨#[], HI1, Lib.hid (fun e _ h => by simp at h), HR1⟩
     case round =>
      obtain ⟨seen, hi, hz, hbr⟩ := hrel
      obtain ⟨wy, hwy⟩ : ∃ x, x = wr := ⟨_, rfl⟩
      rw [← hwy] at hi hbr ⊢
      clear hwy
      have HMy := Lib.hid ((hbr.out.block g2 HG2L.out).trans HMP.out)
      have e1 : wy.iterSeen gr = seen := by unfold World.iterSeen; rw [hi.out]
      rcases run_next_at (P := Try.prog) wy 0 gr g2 clock clock seen es clock hi.out HMy.out HOLD.out (Nat.le_refl _) with ⟨h0, hrun⟩ | ⟨e, he, wq, hq, hrun⟩
      ·
       have HF : Hid (fitB st refs made = true) := Lib.hid (fit_true HOK.out (HZERO.out (fun e he => hz.out e he (left_none h0 e he))))
       go_wp2_with (first
        | ((with_reducible show OpW 82); refine wpList_run _ rfl _ _ (exec_next (x := .tmp 81) rfl hrun) ?_))
       go_ret
       exact ⟨ret_bool HF.out.symm, below_thenB hb.out hb.out.size hbr.out⟩
      ·
       have hmem := mem_left he
       have hshr := left_shrinks es seen e he
       obtain ⟨q, hq1⟩ := HVAL.out e hmem.1
       obtain ⟨w2, hw2⟩ : ∃ w2, w2 = setBlock wq gr (.mapIter (some g2) clock (seen.push e.born) clock) := ⟨_, rfl⟩
       rw [← hw2] at hrun
       have hgl : gr < wq.heap.size := by
        have h8 := (Array.getElem?_eq_some_iff.1 hi.out).1
        rcases hq with rfl | rfl
        ·
         exact h8
        ·
         exact h8
       have HI2 : Hid (w2.heap[gr]? = some (.mapIter (some g2) clock (seen.push e.born) clock)) := Lib.hid (by rw [hw2]; exact setBlock_at _ hgl)
       have HB2 : Hid (Below wx.heap.size wx w2) := Lib.hid (by
        rw [hw2]
        have h8 : Below wx.heap.size wx wq := by
         rcases hq with rfl | rfl
         ·
          exact hbr.out
         ·
          exact hbr.out.drew
        exact (Kp.setBlock (S := fun _ => False) (Kp.of_below h8) _ (.inr (by have := HGR.out; omega))).below (Nat.le_refl _) (fun _ h => h.elim))
       have HMz := Lib.hid ((HB2.out.block g2 HG2L.out).trans HMP.out)
       have hent := run_entry_at (P := Try.prog) w2 gr g2 clock seen es clock e HI2.out HMz.out hmem.1 HND.out
       have HSTP : Hid (e.val = .int .i64 0 → ∀ x ∈ es.toList, (seen.push e.born).contains x.born = true → x.val = .int .i64 0) := Lib.hid (fun h9 => seen_step HND.out hmem.1 hz.out h9)
       have e2 : w2.iterSeen gr = seen.push e.born := by unfold World.iterSeen; rw [HI2.out]
       clear hw2 hq hgl hmem he
       obtain ⟨N, hN⟩ : ∃ N, N = balF refs (made.flatMap (·.refs)) q := ⟨_, rfl⟩
       rw [← hN] at hq1
       rw [hq1] at hent hrun HSTP
       have HNN := Lib.hid hN
       clear hN hq1
       have HRUN := Lib.hid hrun
       have HENT := Lib.hid hent
       clear hrun hent
       by_cases h9 : N = 0
       ·
        have e9 : (N != 0) = false := by simp [h9]
        have HSN := Lib.hid (HSTP.out (by rw [h9]))
        clear h9
        go_wp2_with (first
         | ((with_reducible show OpW 82); refine wpList_run _ rfl _ w2 (exec_next (x := .tmp 81) rfl HRUN.out) ?_)
         | ((with_reducible show OpW 84); refine wpList_run _ rfl _ w2 (exec_entry (x := .tmp 81) rfl HENT.out) ?_))
        go_roundw
        case rel => exact ⟨_, HI2, HSN, HB2⟩
        case measure => rw [e1, e2]; exact hshr
       ·
        have e9 : (N != 0) = true := by simp [h9]
        have HF : Hid (fitB st refs made = false) := Lib.hid (fit_false (q := q) (by rw [← HNN.out]; exact h9))
        clear h9
        go_wp2_with (first
         | ((with_reducible show OpW 82); refine wpList_run _ rfl _ w2 (exec_next (x := .tmp 81) rfl HRUN.out) ?_)
         | ((with_reducible show OpW 84); refine wpList_run _ rfl _ w2 (exec_entry (x := .tmp 81) rfl HENT.out) ?_))
        go_ret
        exact ⟨ret_bool HF.out.symm, below_thenB hb.out hb.out.size HB2.out⟩
end Go.Proofs.Ytboglaokdgnpaaa
