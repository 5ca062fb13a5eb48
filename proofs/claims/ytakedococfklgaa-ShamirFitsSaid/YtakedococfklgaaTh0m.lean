/- A row of byte slices that the call owns (empty ones too), and the reference kinkeepref10.Through. -/
import Derived.Test.YtakedococfklgaaRe6m
import Derived.Test.YtakedococfklgaaRe7m
namespace Go.Proofs.Ytakedococfklgaa
open Go.RowKit Gf

def OwnR (w : World) (base : Nat) (v : Value) (n : Nat) (m : List (List UInt8)) : Prop :=
  m.length = n ∧ ∃ ps : List Value, ps.length = n ∧ w.ownsRow base 22 1 v n ps ∧ ∀ j, j < n → ∃ A k c, ps[j]? = some (.slice A k c) ∧ BS w A k c (gR m j) ∧ (0 < k → AtB A (fun b => v.ownBlock ≠ some b))
theorem OwnR.nil (w : World) (base : Nat) : OwnR w base (.slice none 0 0) 0 [] := ⟨rfl, [], rfl, World.ownsRow_nil _ _ _ _, fun j hj => absurd hj (by omega)⟩
theorem OwnR.ms {w : World} {base : Nat} {v : Value} {n : Nat} {m : List (List UInt8)} (h : OwnR w base v n m) (hn : n * 24 ≤ lim) : ∃ A c, v = .slice A n c ∧ MS w A n c m := by
  obtain ⟨hm, ps, _, hown, hps⟩ := h
  rcases hown.2 with ⟨rfl, rfl⟩ | ⟨g, cap, cur, rfl, _, hh, hnc, _, hsz, htk⟩
  · exact ⟨none, 0, rfl, hm, Nat.le_refl _, hn, fun k hk => absurd hk (by omega)⟩
  · refine ⟨some ⟨g, 0, none⟩, cap, rfl, hm, hnc, hn, fun k hk => ?_⟩
    obtain ⟨A, k', c, h1, h2, _⟩ := hps k hk
    exact ⟨g, 0, A, k', c, rfl, by rw [Nat.zero_add, hown.cellAt k (by omega)]; exact h1, h2⟩
theorem OwnR.kept {w w' : World} {base : Nat} {v : Value} {n : Nat} {m : List (List UInt8)} (h : OwnR w base v n m) (hb : Below w.heap.size w w') : OwnR w' base v n m := by
  obtain ⟨hm, ps, hl, hown, hps⟩ := h
  refine ⟨hm, ps, hl, Kp.own (S := fun _ => False) (Kp.of_below hb) hown (fun _ _ => id), fun j hj => ?_⟩
  obtain ⟨A, k, c, h1, h2, h3⟩ := hps j hj
  exact ⟨A, k, c, h1, h2.kept hb, h3⟩
theorem OwnR.base {w : World} {base : Nat} {v : Value} {n : Nat} {m : List (List UInt8)} (h : OwnR w base v n m) : ∀ k, v.ownBlock = some k → base ≤ k ∧ k < w.heap.size := fun k hk => by
  obtain ⟨_, ps, _, hown, _⟩ := h
  exact hown.lt k hk
theorem gR_app_left {m m' : List (List UInt8)} {j : Nat} (h : j < m.length) : gR (m ++ m') j = gR m j := by
  unfold gR; rw [List.getD_eq_getElem?_getD, List.getD_eq_getElem?_getD, List.getElem?_append_left h]
theorem gR_app_self {m : List (List UInt8)} {l : List UInt8} : gR (m ++ [l]) m.length = l := by
  unfold gR; rw [List.getD_eq_getElem?_getD, List.getElem?_append_right (Nat.le_refl _), Nat.sub_self]; rfl
theorem OwnR.push {w w' : World} {base : Nat} {v v' : Value} {n : Nat} {m : List (List UInt8)} {ps : List Value} (hm : m.length = n) (hpl : ps.length = n)
    (hps : ∀ j, j < n → ∃ A k c, ps[j]? = some (.slice A k c) ∧ BS w A k c (gR m j) ∧ (0 < k → AtB A (fun b => v.ownBlock ≠ some b)))
    {A : Option Addr} {k c : Nat} {l : List UInt8} (hl : BS w A k c l) (hA : 0 < k → AtB A (fun b => v.ownBlock ≠ some b))
    (hp : AppPost base 22 v n 1 (ps ++ [.slice A k c]) v' w w') : OwnR w' base v' (n + 1) (m ++ [l]) := by
  have hK : Kp (fun b => v.ownBlock = some b) w w' := (Kp.refl _ _).grown hp.2.1 (fun _ e => .inl e)
  have hrow : ∀ (A : Option Addr) (k c : Nat) (l : List UInt8), BS w A k c l → (0 < k → AtB A (fun b => v.ownBlock ≠ some b)) → BS w' A k c l ∧ (0 < k → AtB A (fun b => v'.ownBlock ≠ some b)) := by
    intro A k c l hb hA
    refine ⟨⟨hb.1, hb.2.1, hb.2.2.1, fun i hi => ?_⟩, fun h0 a e e' => ?_⟩
    · obtain ⟨g, o, e, hc⟩ := hb.2.2.2 i hi
      exact ⟨g, o, e, hK.cell hc (hA (by omega) ⟨g, o, none⟩ e)⟩
    · rcases hp.2.2 with h1 | h1
      · exact hA h0 a e (h1.symm.trans e')
      · obtain ⟨g', o', e2, hc⟩ := hb.2.2.2 0 h0
        rw [e] at e2
        injection e2 with e2
        have := cell_lt hc
        rw [h1] at e'
        injection e' with e'
        rw [e2] at e'
        simp only at this e'
        omega
  refine ⟨by simp [hm], ps ++ [.slice A k c], by simp [hpl], hp.1, fun j hj => ?_⟩
  by_cases hjn : j < n
  · obtain ⟨A1, k1, c1, h1, h2, h3⟩ := hps j hjn
    obtain ⟨r1, r2⟩ := hrow A1 k1 c1 _ h2 h3
    exact ⟨A1, k1, c1, by rw [List.getElem?_append_left (by omega)]; exact h1, by rw [gR_app_left (by omega)]; exact r1, r2⟩
  · obtain rfl : j = n := by omega
    obtain ⟨r1, r2⟩ := hrow A k c l hl hA
    exact ⟨A, k, c, by rw [List.getElem?_append_right (by omega), hpl, Nat.sub_self]; rfl, by rw [← hm, gR_app_self]; exact r1, r2⟩

/-- The sharing through shares: k polynomials. -/
def shgK (l : List (Int × List UInt8)) (k : Nat) : List (List UInt8) := (List.range k).map fun b => Py.itP (coX l) (coY l b)
theorem shgK_length (l : List (Int × List UInt8)) (k : Nat) : (shgK l k).length = k := by rw [shgK, List.length_map, List.length_range]
theorem shgK_succ (l : List (Int × List UInt8)) (k : Nat) : shgK l (k + 1) = shgK l k ++ [Py.itP (coX l) (coY l k)] := by
  rw [shgK, List.range_succ, List.map_append]; rfl
end Go.Proofs.Ytakedococfklgaa
