/- Arguments that are slices of ints and slices of byte slices, opened. -/
import Derived.Test.YtakedococfklgaaLawKit
import Derived.Test.YtakedococfklgaaMem
import Derived.Deep.Matrix
import Derived.ChangeSlices
namespace Go.Proofs.Ytakedococfklgaa
open Go.ChangeShapes Go.WideShapes Go.ChangeAt Go.RowKit Gf

section
variable {H : Type} {enc : TypeId × Value → H} {P : Program} {W : World}

theorem mem_weightsAll {e : TypeId} {n : Nat} {d : DataW H} (hn : n ∈ d.weights P e) : ∀ {ds : List (DataW H)}, d ∈ ds → n ∈ DataW.weightsAll P e ds
  | [], h => by cases h
  | d0 :: ds, h => by
    simp only [DataW.weightsAll, List.mem_append]
    rcases List.mem_cons.1 h with rfl | h
    · exact .inl hn
    · exact .inr (mem_weightsAll hn h)

theorem addr_spot {a : Addr} {v : Value} (h : W.cell? a = some v) : a.spot = none := by
  cases hs : a.spot with
  | none => rfl
  | some s =>
    simp only [World.cell?] at h
    split at h
    · simp [hs] at h
    · cases h
theorem addr_add {a : Addr} {k : Nat} {v : Value} (h : W.cell? (a.add k) = some v) : W.cell? ⟨a.block, a.off + k, none⟩ = some v := by
  have h1 := addr_spot h
  by_cases h0 : k = 0
  · subst h0
    have e : a.add 0 = a := by simp [Addr.add]
    rw [e] at h h1
    obtain ⟨b, o, s⟩ := a
    simp only at h1
    subst h1
    exact h
  · simp only [Addr.add, h0, if_false] at h
    exact h

theorem byte_of {n : Int} (h : (Lit.int .u8 n).wf = true) : bv (UInt8.ofNat n.toNat) = n := by
  simp only [Lit.wf, Bool.and_eq_true, decide_eq_true_eq] at h
  have h1 : (0 : Int) ≤ n := by have := h.1; simpa [IntKind.min, IntKind.signed] using this
  have h2 : n ≤ 255 := by have := h.2; simpa [IntKind.max, IntKind.signed, IntKind.bits] using this
  exact bv_ofNat n h1 (by omega)

theorem open_is {t e : TypeId} {fuel len cap : Nat} {A : Option Addr} {d : DataW H} {ps : List MemPlace} (ht : P.underlying t = some (.slice e)) (he : P.underlying e = some (.int .i64)) (hc : P.cellsOf e = 1) (hby : P.bytesOf e = 8)
    (h : DataW.trod enc P W 0 (fun _ => true) true fuel t [.slice A len cap] = some (d, ps)) (hsz : ∀ n ∈ d.weights P t, n ≤ reachBytes) : ∃ z : List Int, IS W A len cap z := by
  rcases open_ints ht he hc h with ⟨hcs, _⟩ | ⟨a, len', cap', zs, hcs, _, hl, _, hz, hx, hcell, _⟩
  · injection hcs with h1
    injection h1 with h1 h2 h3
    subst h1 h2 h3
    exact ⟨[], IS.nil⟩
  · injection hcs with h1
    injection h1 with h1 h2 h3
    subst h1 h2 h3
    simp only [if_true] at hz
    injection hx with hd _
    subst hd
    have hw := hsz ((zs.take len).length * 8 + (zs.drop len).length * 8) (by simp [DataW.weights, ht, hby, lits]; omega)
    refine ⟨zs.take len, by rw [List.length_take]; omega, hl, ?_, fun k hk => ⟨a.block, a.off, ?_, ?_⟩⟩
    · simp only [List.length_take, List.length_drop, reachBytes] at hw
      unfold lim
      omega
    · have := addr_spot (W := W) (hcell 0 (by omega))
      have e : a.add 0 = a := by simp [Addr.add]
      rw [e] at this
      obtain ⟨b, o, s⟩ := a
      simp only at this
      subst this
      rfl
    · rw [addr_add (hcell k (by omega))]
      show some (Value.int .i64 (zs.getD k 0)) = some (Value.int .i64 (gI (zs.take len) k))
      rw [gI_eq (by rw [List.length_take]; omega)]
      simp [List.getD, List.getElem?_eq_getElem (show k < zs.length by omega)]

theorem open_ms {t e q : TypeId} {fuel len cap : Nat} {A : Option Addr} {d : DataW H} {ps : List MemPlace} (ht : P.underlying t = some (.slice e)) (he : P.underlying e = some (.slice q)) (hq : P.underlying q = some (.int .u8)) (ce : P.cellsOf e = 1) (cq : P.cellsOf q = 1) (be : P.bytesOf e = 24) (bq : P.bytesOf q = 1)
    (h : DataW.trod enc P W 0 (fun _ => true) true fuel t [.slice A len cap] = some (d, ps)) (hsz : ∀ n ∈ d.weights P t, n ≤ reachBytes) : ∃ m : List (List UInt8), MS W A len cap m := by
  rcases Deep.open_int_rows ht he hq ce cq h with ⟨hcs, _⟩ | ⟨a, len', cap', Ar, Lr, Cr, Z, hcs, _, hl, _, hx, hrow⟩
  · injection hcs with h1
    injection h1 with h1 h2 h3
    subst h1 h2 h3
    exact ⟨[], MS.nil⟩
  · injection hcs with h1
    injection h1 with h1 h2 h3
    subst h1 h2 h3
    injection hx with hd _
    subst hd
    have hw := hsz (((List.range len).length + (List.range (cap - len)).length) * 24) (by simp [DataW.weights, ht, be])
    have hin : ∀ r, r < len → Cr r ≤ reachBytes := fun r hr => by
      obtain ⟨_, _, _, hzl, _, hnone, _⟩ := hrow r (by omega)
      cases hA : Ar r with
      | none => rw [hnone hA]; exact Nat.zero_le _
      | some a' =>
        refine hsz (Cr r) ?_
        simp only [DataW.weights, ht, List.mem_cons, List.mem_append]
        refine .inr (.inl (mem_weightsAll (d := Deep.intRow .u8 (Ar r) (Lr r) (Z r)) ?_ (List.mem_map.2 ⟨r, List.mem_range.2 hr, rfl⟩)))
        simp only [Deep.intRow, hA, DataW.weights, he, bq, lits, List.length_map, List.mem_cons]
        left
        rw [List.length_take, List.length_drop, hzl]
        have := (hrow r (by omega)).2.1
        omega
    refine ⟨(List.range len).map fun r => ((Z r).take (Lr r)).map fun z => UInt8.ofNat z.toNat, by simp, hl, ?_, fun k hk => ?_⟩
    · simp only [List.length_range, reachBytes] at hw
      unfold lim
      omega
    · obtain ⟨hc, hlc, _, hzl, hwf, hnone, hcells⟩ := hrow k (by omega)
      have hsp := addr_spot (W := W) (hrow 0 (by omega)).1
      have e0 : a.add 0 = a := by simp [Addr.add]
      rw [e0] at hsp
      obtain ⟨b, o, s⟩ := a
      simp only at hsp
      subst hsp
      have hg : gR ((List.range len).map fun r => ((Z r).take (Lr r)).map fun z => UInt8.ofNat z.toNat) k = ((Z k).take (Lr k)).map fun z => UInt8.ofNat z.toNat := by
        rw [gR_eq (by simpa using hk)]; simp
      refine ⟨b, o, Ar k, Lr k, Cr k, rfl, addr_add hc, ?_⟩
      rw [hg]
      refine ⟨by rw [List.length_map, List.length_take]; omega, hlc, by have := hin k hk; unfold lim; simp only [reachBytes] at this; omega, fun i hi => ?_⟩
      cases hA : Ar k with
      | none => have := hnone hA; omega
      | some a' =>
        have hcell := (hcells a' hA).2
        have hs' := addr_spot (W := W) (hcell 0 (by omega))
        have e1 : a'.add 0 = a' := by simp [Addr.add]
        rw [e1] at hs'
        have hci := hcell i (by omega)
        obtain ⟨b', o', s'⟩ := a'
        simp only at hs'
        subst hs'
        refine ⟨b', o', rfl, ?_⟩
        rw [addr_add hci]
        have hil : i < ((Z k).take (Lr k)).length := by rw [List.length_take]; omega
        have hiz : i < (Z k).length := by omega
        show _ = some (B (gB _ i))
        rw [gB_eq (by rw [List.length_map]; exact hil), B]
        simp only [List.getElem_map, List.getElem_take]
        rw [byte_of (hwf _ (List.getElem_mem hiz))]
        simp [List.getD, List.getElem?_eq_getElem hiz]
end
end Go.Proofs.Ytakedococfklgaa
