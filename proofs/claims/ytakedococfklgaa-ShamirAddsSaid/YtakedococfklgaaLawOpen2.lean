/- Arguments that are slices of bytes, opened. -/
import Derived.Test.YtakedococfklgaaLawOpen
namespace Go.Proofs.Ytakedococfklgaa
open Go.ChangeShapes Go.WideShapes Go.ChangeAt Go.RowKit Gf

section
variable {H : Type} {enc : TypeId × Value → H} {P : Program} {W : World}

theorem open_bs {t e : TypeId} {fuel len cap : Nat} {A : Option Addr} {d : DataW H} {ps : List MemPlace} (ht : P.underlying t = some (.slice e)) (he : P.underlying e = some (.int .u8)) (hc : P.cellsOf e = 1) (hby : P.bytesOf e = 1)
    (h : DataW.trod enc P W 0 (fun _ => true) true fuel t [.slice A len cap] = some (d, ps)) (hsz : ∀ n ∈ d.weights P t, n ≤ reachBytes) : ∃ z : List UInt8, BS W A len cap z := by
  rcases open_ints ht he hc h with ⟨hcs, _⟩ | ⟨a, len', cap', zs, hcs, _, hl, _, hz, hx, hcell, hwf⟩
  · injection hcs with h1
    injection h1 with h1 h2 h3
    subst h1 h2 h3
    exact ⟨[], BS.nil⟩
  · injection hcs with h1
    injection h1 with h1 h2 h3
    subst h1 h2 h3
    simp only [if_true] at hz
    injection hx with hd _
    subst hd
    have hw := hsz ((zs.take len).length * 1 + (zs.drop len).length * 1) (by simp [DataW.weights, ht, hby, lits])
    refine ⟨(zs.take len).map fun z => UInt8.ofNat z.toNat, by rw [List.length_map, List.length_take]; omega, hl, ?_, fun k hk => ⟨a.block, a.off, ?_, ?_⟩⟩
    · simp only [List.length_take, List.length_drop, reachBytes] at hw
      unfold lim
      omega
    · have := addr_spot (W := W) (hcell 0 (by omega))
      have e : a.add 0 = a := by simp [Addr.add]
      rw [e] at this
      obtain ⟨b, o, s⟩ := a
      simp only at this
      subst this
      rfl
    · rw [addr_add (hcell k (by omega))]
      have hkz : k < zs.length := by omega
      have hkl : k < (zs.take len).length := by rw [List.length_take]; omega
      show _ = some (B (gB _ k))
      rw [gB_eq (by rw [List.length_map]; exact hkl), B]
      simp only [List.getElem_map, List.getElem_take]
      rw [byte_of (hwf _ (List.getElem_mem hkz))]
      simp [List.getD, List.getElem?_eq_getElem hkz]
end
end Go.Proofs.Ytakedococfklgaa
