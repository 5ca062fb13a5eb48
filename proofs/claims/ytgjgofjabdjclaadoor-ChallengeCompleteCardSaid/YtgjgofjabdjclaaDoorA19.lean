/- Several texts in one: LawKit, LawOpen, LawOpen2, Tabs, LawOpen44. -/
import Derived.Test.YtgjgofjabdjclaaDoorRows
import Derived.WalkKit
import Derived.ProofKit
import Derived.OpenShut
import Derived.Below
import Derived.Carry
import Derived.SizedLaws
import Derived.ChangeSame
import Derived.WideKeyArgs
import Derived.Test.YtgjgofjabdjclaaDoorA2
import Derived.Deep.Matrix
import Derived.ChangeSlices
import Derived.Test.YtgjgofjabdjclaaDoorA6
import Derived.LaidMore
import Derived.Stop.Joined
import Derived.LaidLaws
import Derived.MakeChecks
import Derived.Test.YtgjgofjabdjclaaDoorA3
/- The last step of a law's row: the call returned true and nothing older has changed, so the arguments read as before. -/
namespace Go.Proofs.YtgjgofjabdjclaaDoor
open Go.ChangeShapes Go.WideShapes Go.ChangeAt Go.RowKit

section
variable {H : Type} {enc : TypeId × Value → H} {P : Program} {W W' : World} {sp : Nat → Bool}

theorem args_stay (hl : laidOutB P = true) : ∀ {ts : List TypeId} {vs : List Value} {ds : List (DataW H)} {ps : List MemPlace}, (∀ t ∈ ts, P.readableRec t = true ∧ t < P.types.size) →
    DataW.TrodAll enc P W 0 (fun _ => true) true ts vs ds ps → (∀ p ∈ ps, W.sameAt W' p) → (∀ p ∈ ps, sp p.block = true) → DataW.TrodAll enc P W' 0 sp true ts vs ds ps
  | [], _, _, _, _, h, _, _ => by
    obtain ⟨rfl, rfl, rfl⟩ := trodAll_nil h
    exact trodAll_mk0
  | t :: ts, _, _, _, ht, h, hs, hp => by
    obtain ⟨v, vs, d, ds, p, q, rfl, rfl, rfl, h1, h2⟩ := trodAll_cons h
    have h3 := WideElems.Trod_stays hl (ht t (by simp)).1 (ht t (by simp)).2 h1 (sp' := sp) (fun x hx => hs x (List.mem_append_left _ hx)) (fun x hx => hp x (List.mem_append_left _ hx))
    exact trodAll_cons_mk h3 (args_stay hl (fun t' ht' => ht t' (by simp [ht'])) h2 (fun x hx => hs x (List.mem_append_right _ hx)) (fun x hx => hp x (List.mem_append_right _ hx)))

theorem law_post {f : Func} {s : ChangeSpec} {apart fresh handsOn again : Bool} {args : Array Value} {ds : List (DataW H)} {before : List MemPlace} {t : TypeId}
    (hl : laidOutB P = true) (hvars : s.vars = []) (hW : DataW.Whole enc P f.params.toList s.vars apart W args.toList ds [] before)
    (hts : ∀ t ∈ f.params.toList, P.readableRec t = true ∧ t < P.types.size) (hrt : f.resultTypes = #[t]) (ht : P.underlying t = some .bool)
    (h1 : (s.fn H (ds ++ [])).results = [.lit (.bool true)]) (h2 : (s.fn H (ds ++ [])).args = ds) (h3 : (s.fn H (ds ++ [])).vars = [])
    (hb : Below W.heap.size W W') : s.post enc P f apart fresh handsOn again W args (.bool true) W' := by
  have hlt : ∀ p ∈ before, p.block < W.heap.size := fun p hp => hW.lt p hp
  have hW2 := hW
  obtain ⟨p, q, hA, hV, rfl, hz, hn⟩ := hW
  rw [hvars] at hV
  obtain ⟨_, rfl⟩ := trodVars_none hV
  simp only [List.append_nil] at hlt hW2 hz hn
  have stay : ∀ sp : Nat → Bool, (∀ x ∈ p, sp x.block = true) → DataW.TrodAll enc P W' 0 sp true f.params.toList args.toList ds p := fun sp hsp =>
    args_stay hl hts hA (fun x hx => hb.same (hlt x hx)) hsp
  have res : ∀ (b : Nat) (sp : Nat → Bool) (hd : Bool), DataW.TrodAll enc P W' b sp hd f.resultTypes.toList ((Value.bool true).resultList f.resultTypes.size) [.lit (.bool true)] [] := fun b sp hd => by
    rw [hrt]
    exact trodAll_cons_mk (shut_bool ht _) trodAll_mk0
  refine ⟨ds, [], p, [], p, [], hW2, by rw [h1]; exact res _ _ _, by rw [h2]; exact stay _ (fun x hx => by simpa using hlt x hx), by rw [h3, hvars]; exact rfl, World.keptBut_mono (fun x hx => ⟨hx, .inr (by simpa using hx)⟩) (hb.frame (· ∈ p)), fun _ => ⟨?_, ?_⟩⟩
  · exact ok_one hrt rfl (okWide_bool_mk ht _)
  · refine ⟨_, [], ([] ++ p) ++ [], ⟨[] ++ p, [], trodAll_append (stay _ (fun _ _ => rfl)) (res _ _ _), by rw [hvars]; exact rfl, rfl, ?_, ?_⟩, ?_⟩
    · intro b off hp
      have hin : MemPlace.cell b off ∈ p := by simpa using hp
      rw [hb.frozen (hlt _ hin)]
      exact hz b off hin
    · intro ha
      simpa using hn ha
    · intro x hx _
      simpa using hx
end
theorem own : ownKnob Tryd.prog.godebug = none := by kernel_rfl
theorem laidOut : laidOutB Tryd.prog = true := by kernel_rfl
end Go.Proofs.YtgjgofjabdjclaaDoor
/- Arguments that are slices of ints and slices of byte slices, opened. -/
namespace Go.Proofs.YtgjgofjabdjclaaDoor
open Go.ChangeShapes Go.WideShapes Go.ChangeAt Go.RowKit Gf

section
variable {H : Type} {enc : TypeId × Value → H} {P : Program} {W : World}

theorem mem_weightsAll {e : TypeId} {n : Nat} {d : DataW H} (hn : n ∈ d.weights P e) : ∀ {ds : List (DataW H)}, d ∈ ds → n ∈ DataW.weightsAll P e ds
  | [], h => by cases h
  | d0 :: ds, h => by
    simp only [DataW.weightsAll, List.mem_append]
    rcases List.mem_cons.1 h with rfl | h
    · exact .inl hn
    · exact .inr (mem_weightsAll hn h)

theorem addr_spot {a : Addr} {v : Value} (h : W.cell? a = some v) : a.spot = none := by
  cases hs : a.spot with
  | none => rfl
  | some s =>
    simp only [World.cell?] at h
    split at h
    · simp [hs] at h
    · cases h
theorem addr_addL {a : Addr} {k : Nat} {v : Value} (h : W.cell? (a.add k) = some v) : W.cell? ⟨a.block, a.off + k, none⟩ = some v := by
  have h1 := addr_spot h
  by_cases h0 : k = 0
  · subst h0
    have e : a.add 0 = a := by simp [Addr.add]
    rw [e] at h h1
    obtain ⟨b, o, s⟩ := a
    simp only at h1
    subst h1
    exact h
  · simp only [Addr.add, h0, if_false] at h
    exact h

theorem byte_of {n : Int} (h : (Lit.int .u8 n).wf = true) : bv (UInt8.ofNat n.toNat) = n := by
  simp only [Lit.wf, Bool.and_eq_true, decide_eq_true_eq] at h
  have h1 : (0 : Int) ≤ n := by have := h.1; simpa [IntKind.min, IntKind.signed] using this
  have h2 : n ≤ 255 := by have := h.2; simpa [IntKind.max, IntKind.signed, IntKind.bits] using this
  exact bv_ofNat n h1 (by omega)

theorem open_is {t e : TypeId} {fuel len cap : Nat} {A : Option Addr} {d : DataW H} {ps : List MemPlace} (ht : P.underlying t = some (.slice e)) (he : P.underlying e = some (.int .i64)) (hc : P.cellsOf e = 1) (hby : P.bytesOf e = 8)
    (h : DataW.trod enc P W 0 (fun _ => true) true fuel t [.slice A len cap] = some (d, ps)) (hsz : ∀ n ∈ d.weights P t, n ≤ reachBytes) : ∃ z : List Int, IS W A len cap z := by
  rcases open_ints ht he hc h with ⟨hcs, _⟩ | ⟨a, len', cap', zs, hcs, _, hl, _, hz, hx, hcell, _⟩
  · injection hcs with h1
    injection h1 with h1 h2 h3
    subst h1 h2 h3
    exact ⟨[], IS.nil⟩
  · injection hcs with h1
    injection h1 with h1 h2 h3
    subst h1 h2 h3
    simp only [if_true] at hz
    injection hx with hd _
    subst hd
    have hw := hsz ((zs.take len).length * 8 + (zs.drop len).length * 8) (by simp [DataW.weights, ht, hby, lits]; omega)
    refine ⟨zs.take len, by rw [List.length_take]; omega, hl, ?_, fun k hk => ⟨a.block, a.off, ?_, ?_⟩⟩
    · simp only [List.length_take, List.length_drop, reachBytes] at hw
      unfold lim
      omega
    · have := addr_spot (W := W) (hcell 0 (by omega))
      have e : a.add 0 = a := by simp [Addr.add]
      rw [e] at this
      obtain ⟨b, o, s⟩ := a
      simp only at this
      subst this
      rfl
    · rw [addr_addL (hcell k (by omega))]
      show some (Value.int .i64 (zs.getD k 0)) = some (Value.int .i64 (gI (zs.take len) k))
      rw [gI_eq (by rw [List.length_take]; omega)]
      simp [List.getD, List.getElem?_eq_getElem (show k < zs.length by omega)]

theorem open_ms {t e q : TypeId} {fuel len cap : Nat} {A : Option Addr} {d : DataW H} {ps : List MemPlace} (ht : P.underlying t = some (.slice e)) (he : P.underlying e = some (.slice q)) (hq : P.underlying q = some (.int .u8)) (ce : P.cellsOf e = 1) (cq : P.cellsOf q = 1) (be : P.bytesOf e = 24) (bq : P.bytesOf q = 1)
    (h : DataW.trod enc P W 0 (fun _ => true) true fuel t [.slice A len cap] = some (d, ps)) (hsz : ∀ n ∈ d.weights P t, n ≤ reachBytes) : ∃ m : List (List UInt8), MS W A len cap m := by
  rcases Deep.open_int_rows ht he hq ce cq h with ⟨hcs, _⟩ | ⟨a, len', cap', Ar, Lr, Cr, Z, hcs, _, hl, _, hx, hrow⟩
  · injection hcs with h1
    injection h1 with h1 h2 h3
    subst h1 h2 h3
    exact ⟨[], MS.nil⟩
  · injection hcs with h1
    injection h1 with h1 h2 h3
    subst h1 h2 h3
    injection hx with hd _
    subst hd
    have hw := hsz (((List.range len).length + (List.range (cap - len)).length) * 24) (by simp [DataW.weights, ht, be])
    have hin : ∀ r, r < len → Cr r ≤ reachBytes := fun r hr => by
      obtain ⟨_, _, _, hzl, _, hnone, _⟩ := hrow r (by omega)
      cases hA : Ar r with
      | none => rw [hnone hA]; exact Nat.zero_le _
      | some a' =>
        refine hsz (Cr r) ?_
        simp only [DataW.weights, ht, List.mem_cons, List.mem_append]
        refine .inr (.inl (mem_weightsAll (d := Deep.intRow .u8 (Ar r) (Lr r) (Z r)) ?_ (List.mem_map.2 ⟨r, List.mem_range.2 hr, rfl⟩)))
        simp only [Deep.intRow, hA, DataW.weights, he, bq, lits, List.length_map, List.mem_cons]
        left
        rw [List.length_take, List.length_drop, hzl]
        have := (hrow r (by omega)).2.1
        omega
    refine ⟨(List.range len).map fun r => ((Z r).take (Lr r)).map fun z => UInt8.ofNat z.toNat, by simp, hl, ?_, fun k hk => ?_⟩
    · simp only [List.length_range, reachBytes] at hw
      unfold lim
      omega
    · obtain ⟨hc, hlc, _, hzl, hwf, hnone, hcells⟩ := hrow k (by omega)
      have hsp := addr_spot (W := W) (hrow 0 (by omega)).1
      have e0 : a.add 0 = a := by simp [Addr.add]
      rw [e0] at hsp
      obtain ⟨b, o, s⟩ := a
      simp only at hsp
      subst hsp
      have hg : gR ((List.range len).map fun r => ((Z r).take (Lr r)).map fun z => UInt8.ofNat z.toNat) k = ((Z k).take (Lr k)).map fun z => UInt8.ofNat z.toNat := by
        rw [gR_eq (by simpa using hk)]; simp
      refine ⟨b, o, Ar k, Lr k, Cr k, rfl, addr_addL hc, ?_⟩
      rw [hg]
      refine ⟨by rw [List.length_map, List.length_take]; omega, hlc, by have := hin k hk; unfold lim; simp only [reachBytes] at this; omega, fun i hi => ?_⟩
      cases hA : Ar k with
      | none => have := hnone hA; omega
      | some a' =>
        have hcell := (hcells a' hA).2
        have hs' := addr_spot (W := W) (hcell 0 (by omega))
        have e1 : a'.add 0 = a' := by simp [Addr.add]
        rw [e1] at hs'
        have hci := hcell i (by omega)
        obtain ⟨b', o', s'⟩ := a'
        simp only at hs'
        subst hs'
        refine ⟨b', o', rfl, ?_⟩
        rw [addr_addL hci]
        have hil : i < ((Z k).take (Lr k)).length := by rw [List.length_take]; omega
        have hiz : i < (Z k).length := by omega
        show _ = some (B (gB _ i))
        rw [gB_eq (by rw [List.length_map]; exact hil), B]
        simp only [List.getElem_map, List.getElem_take]
        rw [byte_of (hwf _ (List.getElem_mem hiz))]
        simp [List.getD, List.getElem?_eq_getElem hiz]
end
end Go.Proofs.YtgjgofjabdjclaaDoor
/- Arguments that are slices of bytes, opened. -/
namespace Go.Proofs.YtgjgofjabdjclaaDoor
open Go.ChangeShapes Go.WideShapes Go.ChangeAt Go.RowKit Gf

section
variable {H : Type} {enc : TypeId × Value → H} {P : Program} {W : World}

theorem open_bs {t e : TypeId} {fuel len cap : Nat} {A : Option Addr} {d : DataW H} {ps : List MemPlace} (ht : P.underlying t = some (.slice e)) (he : P.underlying e = some (.int .u8)) (hc : P.cellsOf e = 1) (hby : P.bytesOf e = 1)
    (h : DataW.trod enc P W 0 (fun _ => true) true fuel t [.slice A len cap] = some (d, ps)) (hsz : ∀ n ∈ d.weights P t, n ≤ reachBytes) : ∃ z : List UInt8, BS W A len cap z := by
  rcases open_ints ht he hc h with ⟨hcs, _⟩ | ⟨a, len', cap', zs, hcs, _, hl, _, hz, hx, hcell, hwf⟩
  · injection hcs with h1
    injection h1 with h1 h2 h3
    subst h1 h2 h3
    exact ⟨[], BS.nil⟩
  · injection hcs with h1
    injection h1 with h1 h2 h3
    subst h1 h2 h3
    simp only [if_true] at hz
    injection hx with hd _
    subst hd
    have hw := hsz ((zs.take len).length * 1 + (zs.drop len).length * 1) (by simp [DataW.weights, ht, hby, lits])
    refine ⟨(zs.take len).map fun z => UInt8.ofNat z.toNat, by rw [List.length_map, List.length_take]; omega, hl, ?_, fun k hk => ⟨a.block, a.off, ?_, ?_⟩⟩
    · simp only [List.length_take, List.length_drop, reachBytes] at hw
      unfold lim
      omega
    · have := addr_spot (W := W) (hcell 0 (by omega))
      have e : a.add 0 = a := by simp [Addr.add]
      rw [e] at this
      obtain ⟨b, o, s⟩ := a
      simp only at this
      subst this
      rfl
    · rw [addr_addL (hcell k (by omega))]
      have hkz : k < zs.length := by omega
      have hkl : k < (zs.take len).length := by rw [List.length_take]; omega
      show _ = some (B (gB _ k))
      rw [gB_eq (by rw [List.length_map]; exact hkl), B]
      simp only [List.getElem_map, List.getElem_take]
      rw [byte_of (hwf _ (List.getElem_mem hkz))]
      simp [List.getD, List.getElem?_eq_getElem hkz]
end
end Go.Proofs.YtgjgofjabdjclaaDoor
/- The tables of sha256 and hmac, out of the condition that the row's card ties to the program's text. -/
namespace Go.Proofs.YtgjgofjabdjclaaDoor
open Go Go.ChangeShapes Go.WideShapes Go.ChangeAt Go.RowKit Gf Sha

section
variable {H : Type} {enc : TypeId × Value → H} {P : Program} {w : World} {base : Nat} {spare : Nat → Bool} {held : Bool} {fuel : Nat} {t e : TypeId} {cs : List Value} {ps : List MemPlace} {k : IntKind}
theorem trod_ints (zs : List Int) (ht : P.underlying t = some (.array zs.length e)) (he : P.underlying e = some (.int k)) (ce : P.cellsOf e = 1) (ct : P.cellsOf t = zs.length)
    (h : DataW.trod enc P w base spare held fuel t cs = some (.agg (zs.map fun z => .lit (.int k z)), ps)) : cs = zs.map (.int k ·) := by
  obtain ⟨xs, m, rfl, hx, hl, hn, hel⟩ := DataW.trod_array ht h
  rw [ct] at hl
  simp only [Prod.mk.injEq, DataW.agg.injEq] at hx
  refine List.ext_getElem (by simp [hl]) (fun i h1 h2 => ?_)
  have hi : i < zs.length := by omega
  have hg := hel i hi
  rw [ce, Nat.mul_one, List.getElem?_eq_getElem (by omega)] at hg
  obtain ⟨z, e1, e2, _⟩ := DataW.trod_int he hg
  have h3 : (xs.map (·.1))[i]'(by simp; omega) = DataW.lit (.int k zs[i]) := by
    have : (xs.map (·.1)) = zs.map fun z => DataW.lit (.int k z) := hx.1.symm
    simp only [this, List.getElem_map]
  rw [List.getElem_map, e2] at h3
  simp only [DataW.lit.injEq, Lit.int.injEq, true_and] at h3
  subst h3
  have e3 : (cs.drop i).take 1 = [cs[i]] := by
    rw [List.drop_eq_getElem_cons h1]; rfl
  rw [e3] at e1
  simp only [List.cons.injEq, and_true] at e1
  rw [e1, List.getElem_map]
theorem cells_at {g : Nat} {n : String} {cs : Array Value} {l : List Value} (hg : P.globalNamed n = some g) (h : w.var? P n = some cs) (e : cs.toList = l) : At w g 0 l := by
  intro j v hj
  rw [Nat.zero_add, World.var?_cell hg h, ← hj, ← e]
  simp
end

theorem gPads : Tryd.prog.globalNamed "kinkeep/hmac.pads" = some 0 := by kernel_rfl
theorem gIni : Tryd.prog.globalNamed "kinkeep/sha256.initial" = some 1 := by kernel_rfl
theorem gCon : Tryd.prog.globalNamed "kinkeep/sha256.constants" = some 2 := by kernel_rfl
theorem tPads : (Tryd.prog.globals[0]?).map (·.type) = some 145 := by kernel_rfl
theorem tIni : (Tryd.prog.globals[1]?).map (·.type) = some 122 := by kernel_rfl
theorem tCon : (Tryd.prog.globals[2]?).map (·.type) = some 150 := by kernel_rfl
/-- What the rows list. -/
def laid3 : List (String × DataW Unit) := [("kinkeep/sha256.initial", Rows.laid_kinkeep_sha256_initial), ("kinkeep/sha256.constants", Rows.laid_kinkeep_sha256_constants), ("kinkeep/hmac.pads", Rows.laid_kinkeep_hmac_pads)]

set_option maxRecDepth 100000 in
theorem tabs_of_laid {W : World} (h : laidMetH Tryd.prog laid3 W) : Tabs W := by
  rw [MakeChecks.laidMetH_plain _ _ _ (by kernel_rfl)] at h
  obtain ⟨ps, ⟨g0, t0, cs0, f0, p0, q0, hg0, ht0, hv0, hd0, ⟨g1, t1, cs1, f1, p1, q1, hg1, ht1, hv1, hd1, ⟨g2, t2, cs2, f2, p2, q2, hg2, ht2, hv2, hd2, _, _⟩, _⟩, _⟩, _, _⟩ := h
  obtain rfl := Option.some.inj (gIni.symm.trans hg0)
  obtain rfl := Option.some.inj (gCon.symm.trans hg1)
  obtain rfl := Option.some.inj (gPads.symm.trans hg2)
  obtain rfl := Option.some.inj (tIni.symm.trans ht0)
  obtain rfl := Option.some.inj (tCon.symm.trans ht1)
  obtain rfl := Option.some.inj (tPads.symm.trans ht2)
  have e0 := trod_ints ([ini.a, ini.b, ini.c, ini.d, ini.e, ini.f, ini.g, ini.h].map wv) Tryd.underlying122 Tryd.underlying121 (by kernel_rfl) (by kernel_rfl) hd0
  have e1 := trod_ints (ks.map wv) Tryd.underlying150 Tryd.underlying121 (by kernel_rfl) (by kernel_rfl) hd1
  have e2 := trod_ints [54, 92] Tryd.underlying145 Tryd.underlying5 (by kernel_rfl) (by kernel_rfl) hd2
  exact ⟨cells_at gPads hv2 e2, cells_at gIni hv0 e0, cells_at gCon hv1 (by rw [e1]; rfl)⟩
end Go.Proofs.YtgjgofjabdjclaaDoor
/- Arguments opened: strings; the heap that the door leaves meets the rows' condition. -/
namespace Go.Proofs.YtgjgofjabdjclaaDoor
open Go Go.ChangeShapes Go.WideShapes Go.ChangeAt Go.RowKit Gf Sha

section
variable {H : Type} {enc : TypeId × Value → H} {P : Program} {W : World} {base b0 : Nat} {sp : Nat → Bool} {held : Bool} {r : Reach}
theorem open_str {t : TypeId} {v : Value} {d : DataW H} {ps : List MemPlace} (ht : P.underlying t = some .string) (hval : Value.okWide P W r b0 t v) (hd : DataW.Trod enc P W base sp held t v d ps) :
    ∃ l : List UInt8, v = .string (strB l) ∧ l.length ≤ 9223372036854775807 := by
  obtain ⟨s, rfl, _, _, hs⟩ := ChangeMaps.open_string ht hval hd
  exact ⟨s.data.toList, by rw [strB_of], by simpa [maxLen] using hs⟩
end

set_option maxRecDepth 100000 in
theorem door_met (os : Os) (args : Array Value) : laidMetH Tryd.prog laid3 ((World.doorLaid Tryd.prog 24 os).forCall (fun _ _ => 0) ⟨#[], args, []⟩).memory :=
  laidMetH_of_parts3 (fuel := 8) (laidMet_of_run' 8 (by kernel_rfl) (by kernel_rfl)) (by kernel_rfl) (by kernel_rfl)
end Go.Proofs.YtgjgofjabdjclaaDoor
