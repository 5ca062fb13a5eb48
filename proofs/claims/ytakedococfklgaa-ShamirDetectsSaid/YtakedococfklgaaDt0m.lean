/- ShamirDetects: gf256.Add; a byte of one share stored; what Check, Combine and Wrong say of an altered share. -/
import Derived.Test.YtakedococfklgaaSp3m
import Derived.Test.YtakedococfklgaaDe1m
import Derived.Test.YtakedococfklgaaCb1m
import Derived.Test.YtakedococfklgaaGdm
namespace Go.Proofs.Ytakedococfklgaa
open Go.RowKit Gf

attribute [local go_sem] Gf.xor_bits in
set_option maxRecDepth 100000 in
theorem gadd_any (a b : UInt8) (w : World) : Calls Try.prog 32 #[B a, B b] w fun e w' => e = .returned (B (a ^^^ b)) ∧ w = w' := by
  unfold B
  go_enter Try.func32, Try.ntmps32
  go_wp2_with fail
  go_ret
  exact ⟨rfl, rfl⟩

theorem BS.put {w : World} {A : Option Addr} {k c g o b : Nat} {d : List UInt8} (h : BS w A k c d) (hA : A = some ⟨g, o, none⟩) (hb : b < k) (x : UInt8) : BS (w.setCell ⟨g, o + b, none⟩ (B x)) A k c (d.set b x) := by
  refine ⟨by rw [List.length_set]; exact h.1, h.2.1, h.2.2.1, fun i hi => ?_⟩
  obtain ⟨g', o', e, hc⟩ := h.2.2.2 i hi
  rw [hA] at e
  injection e with e
  injection e with e1 e2
  subst e1 e2
  refine ⟨g, o, hA, ?_⟩
  by_cases hib : i = b
  · subst hib
    have hx : gB (d.set i x) i = x := by rw [gB_set _ (by rw [h.1]; exact hi), if_pos rfl]
    show _ = some (B (gB (d.set i x) i))
    rw [hx]
    exact World.cell?_setCell_same' _ _ _ (by rw [hc]; rfl)
  · have hx : gB (d.set b x) i = gB d i := by rw [gB_set _ (by rw [h.1]; exact hb), if_neg hib]
    show _ = some (B (gB (d.set b x) i))
    rw [hx]
    rw [World.cell?_setCell_other _ _ _ _ (by intro e9; injection e9 with _ e9; omega)]
    exact hc
theorem BS.away {w : World} {A : Option Addr} {k c : Nat} {d : List UInt8} (h : BS w A k c d) (p : Addr) (v : Value) (hA : 0 < k → AtB A (· ≠ p.block)) : BS (w.setCell p v) A k c d :=
  ⟨h.1, h.2.1, h.2.2.1, fun i hi => by
    obtain ⟨g', o', e, hc⟩ := h.2.2.2 i hi
    refine ⟨g', o', e, ?_⟩
    rw [World.cell?_setCell_other _ _ _ _ (by
      intro e9
      have := hA (by omega) _ e
      rw [e9] at this
      exact this rfl)]
    exact hc⟩
/-- The shares with the byte b of the share i turned to x. -/
def altS (l : List (Int × List UInt8)) (i b : Nat) (x : UInt8) : List (Int × List UInt8) := l.set i ((gS l i).1, (gS l i).2.set b x)
theorem altS_length (l : List (Int × List UInt8)) (i b : Nat) (x : UInt8) : (altS l i b x).length = l.length := by unfold altS; rw [List.length_set]
theorem gS_altS (l : List (Int × List UInt8)) (i b : Nat) (x : UInt8) (hi : i < l.length) (j : Nat) : gS (altS l i b x) j = if j = i then ((gS l i).1, (gS l i).2.set b x) else gS l j := by
  by_cases e : j = i
  · subst e; rw [if_pos rfl]; unfold altS gS; rw [List.getD_eq_getElem?_getD, List.getElem?_set_self hi]; rfl
  · rw [if_neg e]; unfold altS gS; rw [List.getD_eq_getElem?_getD, List.getElem?_set_ne (fun e' => e e'.symm), ← List.getD_eq_getElem?_getD]
/-- The store. -/
theorem OwnQ.alt {w : World} {base : Nat} {v : Value} {n : Nat} {l : List (Int × List UInt8)} {q : List (Int × Value)} (h : OwnQ w base v n l q) (hn : n * 32 ≤ lim) {i b : Nat} (hi : i < n) (hb : b < (gS l i).2.length) :
    ∃ gl cl g o k c, v = .slice (some ⟨gl, 0, none⟩) n cl ∧ k = (gS l i).2.length ∧ SS w (some ⟨gl, 0, none⟩) n cl l ∧ base ≤ g ∧ w.cell? ⟨gl, i * 2 + 1, none⟩ = some (.slice (some ⟨g, o, none⟩) k c) ∧ w.cell? ⟨g, o + b, none⟩ = some (B (gB (gS l i).2 b)) ∧ w.frozen? ⟨g, o + b, none⟩ = false ∧ w.cell? ⟨gl, i * 2, none⟩ = some (.int .i64 (gS l i).1) ∧ gl ≠ g ∧
      ∀ x, SS (w.setCell ⟨g, o + b, none⟩ (B x)) (some ⟨gl, 0, none⟩) n cl (altS l i b x) := by
  obtain ⟨A, k, c, h1, h2, h3⟩ := h.rows i hi
  have hk : 0 < k := by have := h2.1; omega
  obtain ⟨g, o, rfl, hc⟩ := h2.2.2.2 b (by rw [← h2.1]; exact hb)
  obtain ⟨h4, h5⟩ := h3 hk
  rcases h.own.2 with ⟨rfl, rfl⟩ | ⟨gl, cl, cur, rfl, hgl, hh, hnc, hx⟩
  · omega
  have hss := h.owns.ss hn
  obtain ⟨A', c', e', hs'⟩ := hss
  injection e' with e1 e2 e3
  subst e1 e3
  have hlq := h.ql
  obtain ⟨s1, s2⟩ := shC_get q i _ h1
  have hlen := h.len
  have cellq : ∀ j, j < n → w.cell? ⟨gl, j * 2, none⟩ = (shC q)[j * 2]? ∧ w.cell? ⟨gl, j * 2 + 1, none⟩ = (shC q)[j * 2 + 1]? := fun j hj => ⟨h.own.cellAt (j * 2) (by omega), h.own.cellAt (j * 2 + 1) (by omega)⟩
  have hne : gl ≠ g := fun e => h4 ⟨g, o, none⟩ rfl (by rw [← e]; rfl)
  refine ⟨gl, cl, g, o, k, c, rfl, h2.1.symm, hs', h5 ⟨g, o, none⟩ rfl, by rw [(cellq i hi).2]; exact s2, hc, (let ⟨_, _, hk9⟩ := h.fz i hi _ _ _ _ h1 hk _ rfl; hk9.frozen _), by rw [(cellq i hi).1]; exact s1, hne, fun x => ⟨by rw [altS_length]; exact hlen, hs'.2.1, hs'.2.2.1, fun j hj => ?_⟩⟩
  obtain ⟨Aj, kj, cj, j1, j2, j3⟩ := h.rows j hj
  obtain ⟨t1, t2⟩ := shC_get q j _ j1
  refine ⟨gl, 0, Aj, kj, cj, rfl, ?_, ?_, ?_⟩
  · rw [World.cell?_setCell_other _ _ _ _ (by intro e9; injection e9 with e9 _; exact hne e9.symm), Nat.zero_add, (cellq j hj).1, t1, gS_altS _ _ _ _ (by omega)]
    split
    · rename_i e; rw [e]
    · rfl
  · rw [World.cell?_setCell_other _ _ _ _ (by intro e9; injection e9 with e9 _; exact hne e9.symm), Nat.zero_add, (cellq j hj).2, t2]
  · rw [gS_altS _ _ _ _ (by omega)]
    by_cases e : j = i
    · subst e
      rw [if_pos rfl]
      rw [h1] at j1
      injection j1 with j1
      injection j1 with _ j1
      injection j1 with e1 e2 e3
      subst e1 e2 e3
      exact h2.put rfl (by rw [← h2.1]; exact hb) x
    · rw [if_neg e]
      refine j2.away _ _ (fun h0 a ea => ?_)
      rcases Nat.lt_or_gt_of_ne e with hlt | hgt
      · exact h.far j i hlt hi _ _ _ _ _ _ _ _ j1 h1 h0 hk a ⟨g, o, none⟩ ea rfl
      · exact (h.far i j hgt hj _ _ _ _ _ _ _ _ h1 j1 hk h0 ⟨g, o, none⟩ a rfl ea).symm
end Go.Proofs.Ytakedococfklgaa
