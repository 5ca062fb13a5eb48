/- Rows that a call owns, several at once, in blocks of their own. -/
import Derived.Test.YtoeeklkebcgmaaaRs14
namespace Go.Proofs.Ytoeeklkebcgmaaa
open Go.RowKit Gf

/-- A row: its elements' type, its slice, its length, its values. -/
structure ORow where
  e : TypeId
  v : Value
  n : Nat
  xs : List Value
def nilRow (e : TypeId) : ORow := ⟨e, .slice none 0 0, 0, []⟩

/-- The rows 0 .. k - 1 are owned and lie in different blocks. -/
structure Ctx (base k : Nat) (w : World) (r : Nat → ORow) : Prop where
  own : ∀ i, i < k → w.ownsRow base (r i).e 1 (r i).v (r i).n (r i).xs
  dis : ∀ i j, i < k → j < k → i ≠ j → ∀ g, (r i).v.ownBlock = some g → (r j).v.ownBlock ≠ some g
def upd (r : Nat → ORow) (i : Nat) (x : ORow) : Nat → ORow := fun j => if j = i then x else r j
theorem upd_self (r : Nat → ORow) (i : Nat) (x : ORow) : upd r i x i = x := by simp [upd]
theorem upd_ne (r : Nat → ORow) {i j : Nat} (x : ORow) (h : j ≠ i) : upd r i x j = r j := by simp [upd, h]

variable {base k : Nat} {w w' : World} {r : Nat → ORow}
theorem Ctx.kept (h : Ctx base k w r) (hb : Below w.heap.size w w') : Ctx base k w' r :=
  ⟨fun i hi => Kp.own (S := fun _ => False) (Kp.of_below hb) (h.own i hi) (fun _ _ => id), h.dis⟩
theorem Ctx.alloc (h : Ctx base k w r) (o : Obj) : Ctx base k (w.alloc o) r := h.kept ((Below.refl _ _).alloc (Nat.le_refl _) _)
theorem Ctx.drew (h : Ctx base k w r) : Ctx base k w.drew r := ⟨h.own, h.dis⟩
theorem Ctx.app (h : Ctx base k w r) {i : Nat} (hi : i < k) {e : TypeId} {v : Value} {n m : Nat} (he : (r i).e = e) (hv : (r i).v = v) {xs : List Value} {v' : Value} (hp : AppPost base e v n m xs v' w w') :
    Ctx base k w' (upd r i ⟨e, v', n + m, xs⟩) := by
  have hK : Kp (fun b => v.ownBlock = some b) w w' := (Kp.refl _ _).grown hp.2.1 (fun _ e => .inl e)
  subst hv
  have hfr : ∀ j, j < k → j ≠ i → ∀ g, v'.ownBlock = some g → (r j).v.ownBlock ≠ some g := by
    intro j hj hne g hg hg'
    rcases hp.2.2 with h1 | h1
    · exact h.dis j i hj hi hne g hg' (h1.symm.trans hg)
    · have := ((h.own j hj).lt g hg').2
      rw [h1] at hg
      injection hg with hg
      omega
  refine ⟨fun j hj => ?_, fun a b ha hb hne g hg => ?_⟩
  · by_cases e1 : j = i
    · subst e1; rw [upd_self]; exact hp.1
    · rw [upd_ne _ _ e1]
      exact Kp.own hK (h.own j hj) (fun g hg hg' => h.dis j i hj hi e1 g hg hg')
  · by_cases e1 : a = i
    · subst e1
      rw [upd_self] at hg
      rw [upd_ne _ _ (fun e => hne e.symm)]
      exact hfr b hb (fun e => hne e.symm) g hg
    · rw [upd_ne _ _ e1] at hg
      by_cases e2 : b = i
      · subst e2
        rw [upd_self]
        exact fun hg' => hfr a ha e1 g hg' hg
      · rw [upd_ne _ _ e2]; exact h.dis a b ha hb hne g hg
theorem Ctx.nil (h : Ctx base k w r) (i : Nat) (e : TypeId) : Ctx base k w (upd r i (nilRow e)) := by
  refine ⟨fun j hj => ?_, fun a b ha hb hne g hg => ?_⟩
  · by_cases e1 : j = i
    · subst e1; rw [upd_self]; exact World.ownsRow_nil _ _ _ _
    · rw [upd_ne _ _ e1]; exact h.own j hj
  · by_cases e1 : a = i
    · subst e1; rw [upd_self] at hg; simp [nilRow, Value.ownBlock] at hg
    · rw [upd_ne _ _ e1] at hg
      by_cases e2 : b = i
      · subst e2; rw [upd_self]; simp [nilRow, Value.ownBlock]
      · rw [upd_ne _ _ e2]; exact h.dis a b ha hb hne g hg
theorem Ctx.new (base k : Nat) (w : World) (e : Nat → TypeId) : Ctx base k w (fun i => nilRow (e i)) :=
  ⟨fun _ _ => World.ownsRow_nil _ _ _ _, fun _ _ _ _ _ g hg => by simp [nilRow, Value.ownBlock] at hg⟩
/-- Behind an append nothing below the base has changed. -/
theorem Ctx.app_below (h : Ctx base k w r) {i : Nat} (hi : i < k) {e : TypeId} {v : Value} {n m : Nat} (hv : (r i).v = v) {xs : List Value} {v' : Value} (hp : AppPost base e v n m xs v' w w') {w0 : World} (hb : Below base w0 w) (hbase : base ≤ w.heap.size) : Below base w0 w' :=
  hb.grown hp.2.1 hbase (fun b hb' => own_base (h.own i hi) b (by rw [hv]; exact hb'))
/-- An owned row of ints reads. -/
theorem Ctx.is (h : Ctx base k w r) {i : Nat} (hi : i < k) {v : Value} {n : Nat} {z : List Int} (e : r i = ⟨3, v, n, z.map (Value.int .i64)⟩) (hn : n * 8 ≤ lim) : ∃ A c, v = .slice A n c ∧ IS w A n c z := by
  have := h.own i hi
  rw [e] at this
  exact IS.of_own this hn

/-- Slices that read as the rows of a list, in the world before. -/
def Pcs (w0 : World) (ps : List Value) (m : List (List UInt8)) : Prop := ps.length = m.length ∧ ∀ j, j < m.length → ∃ A n c, ps[j]? = some (.slice A n c) ∧ BS w0 A n c (gR m j)
theorem Pcs.nil (w0 : World) : Pcs w0 [] [] := ⟨rfl, fun j hj => absurd hj (by simp)⟩
theorem Pcs.push {w0 : World} {ps : List Value} {m : List (List UInt8)} (h : Pcs w0 ps m) {A : Option Addr} {n c : Nat} {l : List UInt8} (hl : BS w0 A n c l) : Pcs w0 (ps ++ [.slice A n c]) (m ++ [l]) := by
  refine ⟨by simp [h.1], fun j hj => ?_⟩
  by_cases hjn : j < m.length
  · obtain ⟨A1, n1, c1, h1, h2⟩ := h.2 j hjn
    exact ⟨A1, n1, c1, by rw [List.getElem?_append_left (by rw [h.1]; exact hjn)]; exact h1, by rw [gR_append_left hjn]; exact h2⟩
  · have : j = m.length := by simp at hj; omega
    subst this
    exact ⟨A, n, c, by rw [List.getElem?_append_right (by rw [h.1]; exact Nat.le_refl _), h.1, Nat.sub_self]; rfl, by rw [gR_append_self]; exact hl⟩
theorem Ctx.ms (h : Ctx base k w r) {w0 : World} (hb : Below w0.heap.size w0 w) {i : Nat} (hi : i < k) {v : Value} {n : Nat} {ps : List Value} {m : List (List UInt8)} (e : r i = ⟨22, v, n, ps⟩) (hp : Pcs w0 ps m) (hm : m.length = n) (hn : n * 24 ≤ lim) : ∃ A c, v = .slice A n c ∧ MS w A n c m := by
  have hown := h.own i hi
  rw [e] at hown
  simp only at hown
  rcases hown.2 with ⟨rfl, rfl⟩ | ⟨g, cap, cur, rfl, _, hh, hnc, _, hsz, htk⟩
  · exact ⟨none, 0, rfl, hm, Nat.le_refl _, hn, fun k hk => absurd hk (by omega)⟩
  · refine ⟨some ⟨g, 0, none⟩, cap, rfl, hm, hnc, hn, fun k hk => ?_⟩
    obtain ⟨A, k', c, h1, h2⟩ := hp.2 k (by omega)
    exact ⟨g, 0, A, k', c, rfl, by rw [Nat.zero_add, hown.cellAt k (by have := hown.1; omega)]; exact h1, h2.kept hb⟩
end Go.Proofs.Ytoeeklkebcgmaaa
