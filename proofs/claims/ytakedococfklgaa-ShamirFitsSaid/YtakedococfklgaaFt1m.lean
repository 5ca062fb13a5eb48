/- A slice of byte slices that a call owns, each of them growing in a block of its own. -/
import Derived.Test.YtakedococfklgaaFi1m
import Derived.Test.YtakedococfklgaaTh0m
import Derived.Test.YtakedococfklgaaLo0m
namespace Go.Proofs.Ytakedococfklgaa
open Go.RowKit Gf

def gV (vs : List Value) (j : Nat) : Value := vs.getD j undef
theorem gV_eq {vs : List Value} {j : Nat} (h : j < vs.length) : vs[j]? = some (gV vs j) := by simp [gV, List.getD, h]
theorem gV_left {vs us : List Value} {j : Nat} (h : j < vs.length) : gV (vs ++ us) j = gV vs j := by simp [gV, List.getD, List.getElem?_append_left h]
theorem gV_last {vs : List Value} {u : Value} : gV (vs ++ [u]) vs.length = u := by simp [gV, List.getD]
theorem gV_set {vs : List Value} {j i : Nat} {u : Value} (h : j < vs.length) : gV (vs.set j u) i = if i = j then u else gV vs i := by
  by_cases e : i = j
  · subst e; simp [gV, List.getD, h]
  · rw [if_neg e]; simp [gV, List.getD, List.getElem?_set_ne (fun e' => e e'.symm)]
theorem gR_set' {m : List (List UInt8)} {j i : Nat} {r : List UInt8} (h : j < m.length) : gR (m.set j r) i = if i = j then r else gR m i := by
  by_cases e : i = j
  · subst e; simp [gR, List.getD, h]
  · rw [if_neg e]; simp [gR, List.getD, List.getElem?_set_ne (fun e' => e e'.symm)]
/-- A store into an owned row. -/
theorem own_put {w : World} {base : Nat} {e : TypeId} {g n c j : Nat} {xs : List Value} (h : w.ownsRow base e 1 (.slice (some ⟨g, 0, none⟩) n c) n xs) (hj : j < n) (u : Value) : (w.setCell ⟨g, j, none⟩ u).ownsRow base e 1 (.slice (some ⟨g, 0, none⟩) n c) n (xs.set j u) := by
  obtain ⟨h1, h2⟩ := h
  refine ⟨by rw [List.length_set]; exact h1, ?_⟩
  rcases h2 with ⟨h3, h4⟩ | ⟨g', cap, cur, e1, hb, hh, h3, h4, h5, h6⟩
  · omega
  · injection e1 with e1 e2 e3
    injection e1 with e1
    injection e1 with e1 _
    subst e1 e3
    refine .inr ⟨g, c, cur.setIfInBounds j u, rfl, hb, ?_, h3, h4, by simp [h5], ?_⟩
    · simp [World.setCell, Array.getElem?_modify, hh]
    · rw [Nat.mul_one] at h6 ⊢
      rw [← h6]
      simp [List.take_set]
/-- The table. -/
structure GT (w : World) (base : Nat) (v : Value) (n : Nat) (vs : List Value) (m : List (List UInt8)) : Prop where
  len : m.length = n
  vl : vs.length = n
  out : w.ownsRow base 22 1 v n vs
  row : ∀ j, j < n → w.ownsRow base 5 1 (gV vs j) (gR m j).length ((gR m j).map B)
  far : ∀ i j, i < n → j < n → i ≠ j → ∀ g, (gV vs i).ownBlock = some g → (gV vs j).ownBlock ≠ some g
  fo : ∀ j, j < n → ∀ g, v.ownBlock = some g → (gV vs j).ownBlock ≠ some g
section
variable {w w' : World} {base : Nat} {v v' : Value} {n : Nat} {vs : List Value} {m : List (List UInt8)}
theorem GT.kept (h : GT w base v n vs m) (hb : Below w.heap.size w w') : GT w' base v n vs m := ⟨h.len, h.vl, Kp.ownN hb h.out, fun j hj => Kp.ownN hb (h.row j hj), h.far, h.fo⟩
theorem GT.drew (h : GT w base v n vs m) : GT w.drew base v n vs m := ⟨h.len, h.vl, h.out, h.row, h.far, h.fo⟩
theorem GT.push (h : GT w base v n vs m) {g : Nat} (hk : Blk w g 5 #[]) (hg : base ≤ g) (hlt : ∀ j, j < n → ∀ b, (gV vs j).ownBlock = some b → b < g) (hvo : ∀ b, v.ownBlock = some b → b < g)
    (hp : AppPost base 22 v n 1 (vs ++ [.slice (some ⟨g, 0, none⟩) 0 0]) v' w w') : GT w' base v' (n + 1) (vs ++ [.slice (some ⟨g, 0, none⟩) 0 0]) (m ++ [[]]) := by
  have hK : Kp (fun b => v.ownBlock = some b) w w' := (Kp.refl _ _).grown hp.2.1 (fun _ e => .inl e)
  have hl := h.len
  have hvl := h.vl
  have hv' : ∀ b, v'.ownBlock = some b → v.ownBlock = some b ∨ b = w.heap.size := fun b hb => by
    rcases hp.2.2 with h1 | h1
    · exact .inl (h1 ▸ hb)
    · rw [h1] at hb; injection hb with hb; exact .inr hb.symm
  refine ⟨by simp [hl], by simp [hvl], hp.1, fun j hj => ?_, fun i j hi hj hne b hb hb' => ?_, fun j hj b hb hb' => ?_⟩
  · by_cases hjn : j < n
    · rw [gV_left (by omega), gR_append_left (by omega)]
      exact Kp.own hK (h.row j hjn) (fun b hb hb' => h.fo j hjn b hb' hb)
    · obtain rfl : j = n := by omega
      have e1 : gV (vs ++ [.slice (some ⟨g, 0, none⟩) 0 0]) j = .slice (some ⟨g, 0, none⟩) 0 0 := by rw [← hvl]; exact gV_last
      have e2 : gR (m ++ [[]]) j = [] := by rw [← hl]; exact gR_append_self
      rw [e1, e2]
      refine ⟨rfl, .inr ⟨g, 0, #[], rfl, hg, ?_, Nat.le_refl _, by simp [maxLen], rfl, rfl⟩⟩
      exact (hK.block g hk.lt (fun e => by have := hvo g e; omega)).trans hk
  · by_cases hin : i < n
    · rw [gV_left (by omega)] at hb
      by_cases hjn : j < n
      · rw [gV_left (by omega)] at hb'; exact h.far i j hin hjn hne b hb hb'
      · obtain rfl : j = n := by omega
        rw [← hvl, gV_last] at hb'
        simp only [Value.ownBlock] at hb'
        injection hb' with hb'
        have := hlt i hin b hb
        omega
    · obtain rfl : i = n := by omega
      rw [← hvl, gV_last] at hb
      simp only [Value.ownBlock] at hb
      injection hb with hb
      rw [gV_left (by omega)] at hb'
      have := hlt j (by omega) b hb'
      omega
  · by_cases hjn : j < n
    · rw [gV_left (by omega)] at hb'
      rcases hv' b hb with h1 | h1
      · exact h.fo j hjn b h1 hb'
      · have := ((h.row j hjn).lt b hb').2; omega
    · obtain rfl : j = n := by omega
      rw [← hvl, gV_last] at hb'
      simp only [Value.ownBlock] at hb'
      injection hb' with hb'
      rcases hv' b hb with h1 | h1
      · have := hvo b h1; omega
      · have := hk.lt; omega
theorem GT.put {w1 : World} {go c j : Nat} {x : UInt8} (h : GT w base (.slice (some ⟨go, 0, none⟩) n c) n vs m) (hj : j < n) (hp : AppPost base 5 (gV vs j) (gR m j).length 1 ((gR m j).map B ++ [B x]) v' w w1) :
    GT (w1.setCell ⟨go, j, none⟩ v') base (.slice (some ⟨go, 0, none⟩) n c) n (vs.set j v') (m.set j (gR m j ++ [x])) := by
  have hK : Kp (fun b => (gV vs j).ownBlock = some b) w w1 := (Kp.refl _ _).grown hp.2.1 (fun _ e => .inl e)
  have hl := h.len
  have hvl := h.vl
  have hgo : go < w.heap.size := (h.out.lt go rfl).2
  have hv' : ∀ b, v'.ownBlock = some b → (gV vs j).ownBlock = some b ∨ b = w.heap.size := fun b hb => by
    rcases hp.2.2 with h1 | h1
    · exact .inl (h1 ▸ hb)
    · rw [h1] at hb; injection hb with hb; exact .inr hb.symm
  have hng : ∀ b, v'.ownBlock = some b → b ≠ go := fun b hb e => by
    rcases hv' b hb with h1 | h1
    · exact h.fo j hj b (by rw [e]; rfl) h1
    · omega
  have hS : Kp (fun b => b = go) w1 (w1.setCell ⟨go, j, none⟩ v') := Kp.set (S := fun b => b = go) (Kp.refl _ _) (.inl rfl) _
  refine ⟨by simp [hl], by simp [hvl], own_put (Kp.own hK h.out (fun b hb hb' => h.fo j hj b hb hb')) hj v', fun i hi => ?_, fun a b ha hb hne g hg hg' => ?_, fun i hi g hg hg' => ?_⟩
  · rw [gV_set (by omega), gR_set' (by omega)]
    by_cases e : i = j
    · subst e
      rw [if_pos rfl, if_pos rfl]
      have := Kp.own hS hp.1 (fun b hb hb' => hng b hb hb')
      simpa using this
    · rw [if_neg e, if_neg e]
      exact Kp.own hS (Kp.own hK (h.row i hi) (fun b hb hb' => h.far i j hi hj e b hb hb')) (fun b hb hb' => h.fo i hi b (by rw [hb']; rfl) hb)
  · rw [gV_set (by omega)] at hg hg'
    by_cases e1 : a = j
    · subst e1
      rw [if_pos rfl] at hg
      rw [if_neg (fun e => hne e.symm)] at hg'
      rcases hv' g hg with h1 | h1
      · exact h.far a b ha hb hne g h1 hg'
      · have := ((h.row b hb).lt g hg').2; omega
    · rw [if_neg e1] at hg
      by_cases e2 : b = j
      · subst e2
        rw [if_pos rfl] at hg'
        rcases hv' g hg' with h1 | h1
        · exact h.far a b ha hb hne g hg h1
        · have := ((h.row a ha).lt g hg).2; omega
      · rw [if_neg e2] at hg'; exact h.far a b ha hb hne g hg hg'
  · rw [gV_set (by omega)] at hg'
    by_cases e : i = j
    · rw [if_pos e] at hg'
      simp only [Value.ownBlock] at hg
      injection hg with hg
      exact hng g hg' hg.symm
    · rw [if_neg e] at hg'; exact h.fo i hi g hg hg'
theorem GT.ms (h : GT w base v n vs m) (hn : n * 24 ≤ lim) (hr : ∀ j, j < n → (gR m j).length ≤ lim) : ∃ A c, v = .slice A n c ∧ MS w A n c m := by
  have key : ∀ j, j < n → ∃ A k c, gV vs j = .slice A k c ∧ BS w A k c (gR m j) := fun j hj => by
    obtain ⟨A, c, e, hb⟩ := BS.of_own (h.row j hj) (hr j hj)
    exact ⟨A, _, c, e, hb⟩
  have hvl := h.vl
  have hout := h.out
  rcases hout.2 with ⟨rfl, rfl⟩ | ⟨g, cap, cur, rfl, _, hh, hnc, _, hsz, htk⟩
  · exact ⟨none, 0, rfl, h.len, Nat.le_refl _, hn, fun k hk => absurd hk (by omega)⟩
  · refine ⟨some ⟨g, 0, none⟩, cap, rfl, h.len, hnc, hn, fun k hk => ?_⟩
    obtain ⟨A, k', c, h1, h2⟩ := key k hk
    exact ⟨g, 0, A, k', c, rfl, by rw [Nat.zero_add, hout.cellAt k (by omega), gV_eq (by omega), h1], h2⟩
end
end Go.Proofs.Ytakedococfklgaa
