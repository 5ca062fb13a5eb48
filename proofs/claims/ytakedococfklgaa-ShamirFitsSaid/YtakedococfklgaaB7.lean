/- Several texts in one: LawKit, LawOpen, LawOpen2, LawOpen3, LawOpen4. -/
import Derived.Test.YtakedococfklgaaRows
import Derived.WalkKit
import Derived.ProofKit
import Derived.OpenShut
import Derived.Below
import Derived.Carry
import Derived.SizedLaws
import Derived.ChangeSame
import Derived.WideKeyArgs
import Derived.Test.YtakedococfklgaaB1
import Derived.Deep.Matrix
import Derived.ChangeSlices
import Derived.Test.YtakedococfklgaaB2
import Derived.Deep.SlicePairs
/- The last step of a law's row: the call returned true and nothing older has changed, so the arguments read as before. -/
namespace Go.Proofs.Ytakedococfklgaa
open Go.ChangeShapes Go.WideShapes Go.ChangeAt Go.RowKit

section
variable {H : Type} {enc : TypeId × Value → H} {P : Program} {W W' : World} {sp : Nat → Bool}

theorem args_stay (hl : laidOutB P = true) : ∀ {ts : List TypeId} {vs : List Value} {ds : List (DataW H)} {ps : List MemPlace}, (∀ t ∈ ts, P.readableRec t = true ∧ t < P.types.size) →
    DataW.TrodAll enc P W 0 (fun _ => true) true ts vs ds ps → (∀ p ∈ ps, W.sameAt W' p) → (∀ p ∈ ps, sp p.block = true) → DataW.TrodAll enc P W' 0 sp true ts vs ds ps
  | [], _, _, _, _, h, _, _ => by
    obtain ⟨rfl, rfl, rfl⟩ := trodAll_nil h
    exact trodAll_mk0
  | t :: ts, _, _, _, ht, h, hs, hp => by
    obtain ⟨v, vs, d, ds, p, q, rfl, rfl, rfl, h1, h2⟩ := trodAll_cons h
    have h3 := WideElems.Trod_stays hl (ht t (by simp)).1 (ht t (by simp)).2 h1 (sp' := sp) (fun x hx => hs x (List.mem_append_left _ hx)) (fun x hx => hp x (List.mem_append_left _ hx))
    exact trodAll_cons_mk h3 (args_stay hl (fun t' ht' => ht t' (by simp [ht'])) h2 (fun x hx => hs x (List.mem_append_right _ hx)) (fun x hx => hp x (List.mem_append_right _ hx)))

theorem law_post {f : Func} {s : ChangeSpec} {apart fresh handsOn again : Bool} {args : Array Value} {ds : List (DataW H)} {before : List MemPlace} {t : TypeId}
    (hl : laidOutB P = true) (hvars : s.vars = []) (hW : DataW.Whole enc P f.params.toList s.vars apart W args.toList ds [] before)
    (hts : ∀ t ∈ f.params.toList, P.readableRec t = true ∧ t < P.types.size) (hrt : f.resultTypes = #[t]) (ht : P.underlying t = some .bool)
    (h1 : (s.fn H (ds ++ [])).results = [.lit (.bool true)]) (h2 : (s.fn H (ds ++ [])).args = ds) (h3 : (s.fn H (ds ++ [])).vars = [])
    (hb : Below W.heap.size W W') : s.post enc P f apart fresh handsOn again W args (.bool true) W' := by
  have hlt : ∀ p ∈ before, p.block < W.heap.size := fun p hp => hW.lt p hp
  have hW2 := hW
  obtain ⟨p, q, hA, hV, rfl, hz, hn⟩ := hW
  rw [hvars] at hV
  obtain ⟨_, rfl⟩ := trodVars_none hV
  simp only [List.append_nil] at hlt hW2 hz hn
  have stay : ∀ sp : Nat → Bool, (∀ x ∈ p, sp x.block = true) → DataW.TrodAll enc P W' 0 sp true f.params.toList args.toList ds p := fun sp hsp =>
    args_stay hl hts hA (fun x hx => hb.same (hlt x hx)) hsp
  have res : ∀ (b : Nat) (sp : Nat → Bool) (hd : Bool), DataW.TrodAll enc P W' b sp hd f.resultTypes.toList ((Value.bool true).resultList f.resultTypes.size) [.lit (.bool true)] [] := fun b sp hd => by
    rw [hrt]
    exact trodAll_cons_mk (shut_bool ht _) trodAll_mk0
  refine ⟨ds, [], p, [], p, [], hW2, by rw [h1]; exact res _ _ _, by rw [h2]; exact stay _ (fun x hx => by simpa using hlt x hx), by rw [h3, hvars]; exact rfl, World.keptBut_mono (fun x hx => ⟨hx, .inr (by simpa using hx)⟩) (hb.frame (· ∈ p)), fun _ => ⟨?_, ?_⟩⟩
  · exact ok_one hrt rfl (okWide_bool_mk ht _)
  · refine ⟨_, [], ([] ++ p) ++ [], ⟨[] ++ p, [], trodAll_append (stay _ (fun _ _ => rfl)) (res _ _ _), by rw [hvars]; exact rfl, rfl, ?_, ?_⟩, ?_⟩
    · intro b off hp
      have hin : MemPlace.cell b off ∈ p := by simpa using hp
      rw [hb.frozen (hlt _ hin)]
      exact hz b off hin
    · intro ha
      simpa using hn ha
    · intro x hx _
      simpa using hx
end
theorem own : ownKnob Try.prog.godebug = none := by kernel_rfl
theorem laidOut : laidOutB Try.prog = true := by kernel_rfl
end Go.Proofs.Ytakedococfklgaa
/- Arguments that are slices of ints and slices of byte slices, opened. -/
namespace Go.Proofs.Ytakedococfklgaa
open Go.ChangeShapes Go.WideShapes Go.ChangeAt Go.RowKit Gf

section
variable {H : Type} {enc : TypeId × Value → H} {P : Program} {W : World}

theorem mem_weightsAll {e : TypeId} {n : Nat} {d : DataW H} (hn : n ∈ d.weights P e) : ∀ {ds : List (DataW H)}, d ∈ ds → n ∈ DataW.weightsAll P e ds
  | [], h => by cases h
  | d0 :: ds, h => by
    simp only [DataW.weightsAll, List.mem_append]
    rcases List.mem_cons.1 h with rfl | h
    · exact .inl hn
    · exact .inr (mem_weightsAll hn h)

theorem addr_spot {a : Addr} {v : Value} (h : W.cell? a = some v) : a.spot = none := by
  cases hs : a.spot with
  | none => rfl
  | some s =>
    simp only [World.cell?] at h
    split at h
    · simp [hs] at h
    · cases h
theorem addr_add {a : Addr} {k : Nat} {v : Value} (h : W.cell? (a.add k) = some v) : W.cell? ⟨a.block, a.off + k, none⟩ = some v := by
  have h1 := addr_spot h
  by_cases h0 : k = 0
  · subst h0
    have e : a.add 0 = a := by simp [Addr.add]
    rw [e] at h h1
    obtain ⟨b, o, s⟩ := a
    simp only at h1
    subst h1
    exact h
  · simp only [Addr.add, h0, if_false] at h
    exact h

theorem byte_of {n : Int} (h : (Lit.int .u8 n).wf = true) : bv (UInt8.ofNat n.toNat) = n := by
  simp only [Lit.wf, Bool.and_eq_true, decide_eq_true_eq] at h
  have h1 : (0 : Int) ≤ n := by have := h.1; simpa [IntKind.min, IntKind.signed] using this
  have h2 : n ≤ 255 := by have := h.2; simpa [IntKind.max, IntKind.signed, IntKind.bits] using this
  exact bv_ofNat n h1 (by omega)

theorem open_is {t e : TypeId} {fuel len cap : Nat} {A : Option Addr} {d : DataW H} {ps : List MemPlace} (ht : P.underlying t = some (.slice e)) (he : P.underlying e = some (.int .i64)) (hc : P.cellsOf e = 1) (hby : P.bytesOf e = 8)
    (h : DataW.trod enc P W 0 (fun _ => true) true fuel t [.slice A len cap] = some (d, ps)) (hsz : ∀ n ∈ d.weights P t, n ≤ reachBytes) : ∃ z : List Int, IS W A len cap z := by
  rcases open_ints ht he hc h with ⟨hcs, _⟩ | ⟨a, len', cap', zs, hcs, _, hl, _, hz, hx, hcell, _⟩
  · injection hcs with h1
    injection h1 with h1 h2 h3
    subst h1 h2 h3
    exact ⟨[], IS.nil⟩
  · injection hcs with h1
    injection h1 with h1 h2 h3
    subst h1 h2 h3
    simp only [if_true] at hz
    injection hx with hd _
    subst hd
    have hw := hsz ((zs.take len).length * 8 + (zs.drop len).length * 8) (by simp [DataW.weights, ht, hby, lits]; omega)
    refine ⟨zs.take len, by rw [List.length_take]; omega, hl, ?_, fun k hk => ⟨a.block, a.off, ?_, ?_⟩⟩
    · simp only [List.length_take, List.length_drop, reachBytes] at hw
      unfold lim
      omega
    · have := addr_spot (W := W) (hcell 0 (by omega))
      have e : a.add 0 = a := by simp [Addr.add]
      rw [e] at this
      obtain ⟨b, o, s⟩ := a
      simp only at this
      subst this
      rfl
    · rw [addr_add (hcell k (by omega))]
      show some (Value.int .i64 (zs.getD k 0)) = some (Value.int .i64 (gI (zs.take len) k))
      rw [gI_eq (by rw [List.length_take]; omega)]
      simp [List.getD, List.getElem?_eq_getElem (show k < zs.length by omega)]

theorem open_ms {t e q : TypeId} {fuel len cap : Nat} {A : Option Addr} {d : DataW H} {ps : List MemPlace} (ht : P.underlying t = some (.slice e)) (he : P.underlying e = some (.slice q)) (hq : P.underlying q = some (.int .u8)) (ce : P.cellsOf e = 1) (cq : P.cellsOf q = 1) (be : P.bytesOf e = 24) (bq : P.bytesOf q = 1)
    (h : DataW.trod enc P W 0 (fun _ => true) true fuel t [.slice A len cap] = some (d, ps)) (hsz : ∀ n ∈ d.weights P t, n ≤ reachBytes) : ∃ m : List (List UInt8), MS W A len cap m := by
  rcases Deep.open_int_rows ht he hq ce cq h with ⟨hcs, _⟩ | ⟨a, len', cap', Ar, Lr, Cr, Z, hcs, _, hl, _, hx, hrow⟩
  · injection hcs with h1
    injection h1 with h1 h2 h3
    subst h1 h2 h3
    exact ⟨[], MS.nil⟩
  · injection hcs with h1
    injection h1 with h1 h2 h3
    subst h1 h2 h3
    injection hx with hd _
    subst hd
    have hw := hsz (((List.range len).length + (List.range (cap - len)).length) * 24) (by simp [DataW.weights, ht, be])
    have hin : ∀ r, r < len → Cr r ≤ reachBytes := fun r hr => by
      obtain ⟨_, _, _, hzl, _, hnone, _⟩ := hrow r (by omega)
      cases hA : Ar r with
      | none => rw [hnone hA]; exact Nat.zero_le _
      | some a' =>
        refine hsz (Cr r) ?_
        simp only [DataW.weights, ht, List.mem_cons, List.mem_append]
        refine .inr (.inl (mem_weightsAll (d := Deep.intRow .u8 (Ar r) (Lr r) (Z r)) ?_ (List.mem_map.2 ⟨r, List.mem_range.2 hr, rfl⟩)))
        simp only [Deep.intRow, hA, DataW.weights, he, bq, lits, List.length_map, List.mem_cons]
        left
        rw [List.length_take, List.length_drop, hzl]
        have := (hrow r (by omega)).2.1
        omega
    refine ⟨(List.range len).map fun r => ((Z r).take (Lr r)).map fun z => UInt8.ofNat z.toNat, by simp, hl, ?_, fun k hk => ?_⟩
    · simp only [List.length_range, reachBytes] at hw
      unfold lim
      omega
    · obtain ⟨hc, hlc, _, hzl, hwf, hnone, hcells⟩ := hrow k (by omega)
      have hsp := addr_spot (W := W) (hrow 0 (by omega)).1
      have e0 : a.add 0 = a := by simp [Addr.add]
      rw [e0] at hsp
      obtain ⟨b, o, s⟩ := a
      simp only at hsp
      subst hsp
      have hg : gR ((List.range len).map fun r => ((Z r).take (Lr r)).map fun z => UInt8.ofNat z.toNat) k = ((Z k).take (Lr k)).map fun z => UInt8.ofNat z.toNat := by
        rw [gR_eq (by simpa using hk)]; simp
      refine ⟨b, o, Ar k, Lr k, Cr k, rfl, addr_add hc, ?_⟩
      rw [hg]
      refine ⟨by rw [List.length_map, List.length_take]; omega, hlc, by have := hin k hk; unfold lim; simp only [reachBytes] at this; omega, fun i hi => ?_⟩
      cases hA : Ar k with
      | none => have := hnone hA; omega
      | some a' =>
        have hcell := (hcells a' hA).2
        have hs' := addr_spot (W := W) (hcell 0 (by omega))
        have e1 : a'.add 0 = a' := by simp [Addr.add]
        rw [e1] at hs'
        have hci := hcell i (by omega)
        obtain ⟨b', o', s'⟩ := a'
        simp only at hs'
        subst hs'
        refine ⟨b', o', rfl, ?_⟩
        rw [addr_add hci]
        have hil : i < ((Z k).take (Lr k)).length := by rw [List.length_take]; omega
        have hiz : i < (Z k).length := by omega
        show _ = some (B (gB _ i))
        rw [gB_eq (by rw [List.length_map]; exact hil), B]
        simp only [List.getElem_map, List.getElem_take]
        rw [byte_of (hwf _ (List.getElem_mem hiz))]
        simp [List.getD, List.getElem?_eq_getElem hiz]
end
end Go.Proofs.Ytakedococfklgaa
/- Arguments that are slices of bytes, opened. -/
namespace Go.Proofs.Ytakedococfklgaa
open Go.ChangeShapes Go.WideShapes Go.ChangeAt Go.RowKit Gf

section
variable {H : Type} {enc : TypeId × Value → H} {P : Program} {W : World}

theorem open_bs {t e : TypeId} {fuel len cap : Nat} {A : Option Addr} {d : DataW H} {ps : List MemPlace} (ht : P.underlying t = some (.slice e)) (he : P.underlying e = some (.int .u8)) (hc : P.cellsOf e = 1) (hby : P.bytesOf e = 1)
    (h : DataW.trod enc P W 0 (fun _ => true) true fuel t [.slice A len cap] = some (d, ps)) (hsz : ∀ n ∈ d.weights P t, n ≤ reachBytes) : ∃ z : List UInt8, BS W A len cap z := by
  rcases open_ints ht he hc h with ⟨hcs, _⟩ | ⟨a, len', cap', zs, hcs, _, hl, _, hz, hx, hcell, hwf⟩
  · injection hcs with h1
    injection h1 with h1 h2 h3
    subst h1 h2 h3
    exact ⟨[], BS.nil⟩
  · injection hcs with h1
    injection h1 with h1 h2 h3
    subst h1 h2 h3
    simp only [if_true] at hz
    injection hx with hd _
    subst hd
    have hw := hsz ((zs.take len).length * 1 + (zs.drop len).length * 1) (by simp [DataW.weights, ht, hby, lits])
    refine ⟨(zs.take len).map fun z => UInt8.ofNat z.toNat, by rw [List.length_map, List.length_take]; omega, hl, ?_, fun k hk => ⟨a.block, a.off, ?_, ?_⟩⟩
    · simp only [List.length_take, List.length_drop, reachBytes] at hw
      unfold lim
      omega
    · have := addr_spot (W := W) (hcell 0 (by omega))
      have e : a.add 0 = a := by simp [Addr.add]
      rw [e] at this
      obtain ⟨b, o, s⟩ := a
      simp only at this
      subst this
      rfl
    · rw [addr_add (hcell k (by omega))]
      have hkz : k < zs.length := by omega
      have hkl : k < (zs.take len).length := by rw [List.length_take]; omega
      show _ = some (B (gB _ k))
      rw [gB_eq (by rw [List.length_map]; exact hkl), B]
      simp only [List.getElem_map, List.getElem_take]
      rw [byte_of (hwf _ (List.getElem_mem hkz))]
      simp [List.getD, List.getElem?_eq_getElem hkz]
end
end Go.Proofs.Ytakedococfklgaa
/- A 16-bit argument. -/
namespace Go.Proofs.Ytakedococfklgaa
open Go.ChangeShapes Go.WideShapes Go.ChangeAt Go.RowKit Gf

theorem short_of {n : Int} (h : (Lit.int .u16 n).wf = true) : 0 ≤ n ∧ n < 65536 := by
  simp only [Lit.wf, Bool.and_eq_true, decide_eq_true_eq] at h
  have h1 : (0 : Int) ≤ n := by have := h.1; simpa [IntKind.min, IntKind.signed] using this
  have h2 : n ≤ 65535 := by have := h.2; simpa [IntKind.max, IntKind.signed, IntKind.bits] using this
  exact ⟨h1, by omega⟩
end Go.Proofs.Ytakedococfklgaa
/- Arguments that are slices of shares, opened. -/
namespace Go.Proofs.Ytakedococfklgaa
open Go.ChangeShapes Go.WideShapes Go.ChangeAt Go.RowKit Gf

section
variable {H : Type} {enc : TypeId × Value → H} {P : Program} {W : World}

theorem open_ss {t e q : TypeId} {f0 f1 : Field} {fuel len cap : Nat} {A : Option Addr} {d : DataW H} {ps : List MemPlace} (ht : P.underlying t = some (.slice e)) (he : P.underlying e = some (.struct #[f0, f1]))
    (ce : P.cellsOf e = 2) (o0 : f0.offset = 0) (o1 : f1.offset = 1) (c0 : P.cellsOf f0.type = 1) (c1 : P.cellsOf f1.type = 1) (u0 : P.underlying f0.type = some (.int .i64)) (u1 : P.underlying f1.type = some (.slice q)) (uq : P.underlying q = some (.int .u8)) (cq : P.cellsOf q = 1) (bq : P.bytesOf q = 1) (be : P.bytesOf e = 32)
    (h : DataW.trod enc P W 0 (fun _ => true) true fuel t [.slice A len cap] = some (d, ps)) (hsz : ∀ n ∈ d.weights P t, n ≤ reachBytes) : ∃ l : List (Int × List UInt8), SS W A len cap l := by
  rcases Deep.open_slice_pairs ht he ce o0 o1 c0 c1 h with ⟨hcs, _⟩ | ⟨a, len', cap', m, n, V0, V1, D0, D1, P0, P1, hcs, _, hl, _, hm, hx, hall⟩
  · injection hcs with h1
    injection h1 with h1 h2 h3
    subst h1 h2 h3
    exact ⟨[], SS.nil⟩
  · injection hcs with h1
    injection h1 with h1 h2 h3
    subst h1 h2 h3
    simp only [if_true] at hm
    subst hm
    injection hx with hd _
    subst hd
    have hw := hsz (((List.range len).length + (List.range (m - len)).length) * 32) (by simp [DataW.weights, ht, be])
    have hin : ∀ i, i < len → ∀ k ∈ (D1 i).weights P f1.type, k ≤ reachBytes := fun i hi k hk => by
      refine hsz k ?_
      simp only [DataW.weights, ht, List.mem_cons, List.mem_append]
      refine .inr (.inl (mem_weightsAll (d := .agg [D0 i, D1 i]) ?_ (List.mem_map.2 ⟨i, List.mem_range.2 hi, rfl⟩)))
      simp only [DataW.weights, he, List.map_cons, List.map_nil, DataW.weightsEach, List.mem_append]
      exact .inr (.inl hk)
    have each : ∀ i, i < len → ∃ p : Int × List UInt8, ∃ A' n' c', V0 i = .int .i64 p.1 ∧ V1 i = .slice A' n' c' ∧ BS W A' n' c' p.2 := fun i hi => by
      obtain ⟨_, _, t0, t1⟩ := hall i (by omega)
      obtain ⟨x, e0, _, _⟩ := DataW.trod_int u0 t0
      have e0' : V0 i = .int .i64 x := by simpa using e0
      have : ∃ A' n' c', V1 i = .slice A' n' c' := by
        rcases open_ints u1 uq cq t1 with ⟨e1, _⟩ | ⟨a1, l1, k1, _, e1, _⟩
        · exact ⟨none, 0, 0, by simpa using e1⟩
        · exact ⟨some a1, l1, k1, by simpa using e1⟩
      obtain ⟨A', n', c', e1⟩ := this
      rw [e1] at t1
      obtain ⟨z, hz⟩ := open_bs u1 uq cq bq t1 (hin i hi)
      exact ⟨(x, z), A', n', c', e0', e1, hz⟩
    obtain ⟨p, hp⟩ : ∃ p : Nat → Int × List UInt8, ∀ i, i < len → ∃ A' n' c', V0 i = .int .i64 (p i).1 ∧ V1 i = .slice A' n' c' ∧ BS W A' n' c' (p i).2 :=
      ⟨fun i => if hi : i < len then Classical.choose (each i hi) else (0, []), fun i hi => by simp only [dif_pos hi]; exact Classical.choose_spec (each i hi)⟩
    have hlen : ((List.range len).map p).length = len := by simp
    refine ⟨(List.range len).map p, hlen, hl, ?_, fun k hk => ?_⟩
    · simp only [List.length_range, reachBytes] at hw
      unfold lim
      omega
    · obtain ⟨h0, h1, _, _⟩ := hall k (by omega)
      obtain ⟨A', n', c', e0, e1, hb⟩ := hp k hk
      have hsp := addr_spot (W := W) (hall 0 (by omega)).1
      have ea : a.add (0 * 2) = a := by simp [Addr.add]
      rw [ea] at hsp
      obtain ⟨b, o, s⟩ := a
      simp only at hsp
      subst hsp
      have hg : gS ((List.range len).map p) k = p k := by rw [gS_eq (by rw [hlen]; exact hk)]; simp
      rw [e0] at h0
      rw [e1] at h1
      refine ⟨b, o, A', n', c', rfl, ?_, ?_, ?_⟩
      · rw [hg]; exact addr_add h0
      · have := addr_add h1
        rw [← Nat.add_assoc] at this
        exact this
      · rw [hg]; exact hb
end
end Go.Proofs.Ytakedococfklgaa
