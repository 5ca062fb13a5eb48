/- Lists that a loop builds by append: elements of many cells, their parts in memory that was there before. For any program. -/
import Derived.Test.YtgjgofjabdjclaaDoorLsm
import Derived.Test.YtgjgofjabdjclaaDoorA15
namespace Go.Proofs.YtgjgofjabdjclaaDoor
open Go Go.RowKit Gf Sha

theorem at_flatten {w : World} {g s : Nat} : ∀ {css : List (List Value)} {o : Nat}, (∀ cs ∈ css, cs.length = s) → At w g o css.flatten → ∀ {k : Nat} (hk : k < css.length), At w g (o + k * s) css[k]
  | [], _, _, _, k, hk => absurd hk (by simp)
  | c :: r, o, h, hat, k, hk => by
    have hc : c.length = s := h c (by simp)
    rw [List.flatten_cons] at hat
    cases k with
    | zero => rw [Nat.zero_mul, Nat.add_zero]; exact hat.left
    | succ k =>
      have h2 : At w g (o + s) r.flatten := fun j v hj => by
        have := hat (s + j) v (by rw [List.getElem?_append_right (by omega), hc, Nat.add_sub_cancel_left]; exact hj)
        rw [Nat.add_assoc]; exact this
      have := at_flatten (fun cs hcs => h cs (by simp [hcs])) h2 (k := k) (by simpa using hk)
      rw [Nat.succ_mul, show o + (k * s + s) = o + s + k * s by omega]
      exact this
theorem flatten_len {s : Nat} : ∀ {css : List (List Value)}, (∀ cs ∈ css, cs.length = s) → css.flatten.length = css.length * s
  | [], _ => by simp
  | c :: r, h => by
    rw [List.flatten_cons, List.length_append, h c (by simp), flatten_len (fun cs hcs => h cs (by simp [hcs])), List.length_cons, Nat.succ_mul]; omega

/-- v holds the list L, in a block of its own that is newer than w0; its parts read in w0. -/
def OL {α : Type} (R : Rdg α) (s : Nat) (te : TypeId) (w0 w : World) (v : Value) (L : List α) : Prop :=
  ∃ css : List (List Value), css.length = L.length ∧ (∀ cs ∈ css, cs.length = s) ∧ (∀ k (h : k < L.length) (h' : k < css.length), R w0 css[k] L[k]) ∧ RW w te s v L.length css.flatten ∧ ∀ b, v.ownBlock = some b → w0.heap.size ≤ b
section
variable {α : Type} {R : Rdg α} {s : Nat} {te : TypeId} {w0 w w' : World} {v v' : Value} {L : List α}
theorem OL.nil (R : Rdg α) (s : Nat) (te : TypeId) (w0 w : World) : OL R s te w0 w (.slice none 0 0) [] := ⟨[], rfl, (fun _ h => by cases h), (fun k h => absurd h (by simp)), RW.nil _ _ _, (fun b hb => by cases hb)⟩
theorem OL.nil' {g : Nat} (R : Rdg α) (s : Nat) (h : BL w g te []) (hg : w0.heap.size ≤ g) : OL R s te w0 w (.slice (some ⟨g, 0, none⟩) 0 0) [] :=
  ⟨[], rfl, (fun _ h => by cases h), (fun k h => absurd h (by simp)), RW.of_blk h (by simp) (by decide), (fun b hb => by cases hb; exact hg)⟩
theorem OL.kept (h : OL R s te w0 w v L) (hb : Below w.heap.size w w') : OL R s te w0 w' v L :=
  let ⟨css, h1, h2, h3, h4, h5⟩ := h; ⟨css, h1, h2, h3, h4.kept hb, h5⟩
theorem OL.row (h : OL R s te w0 w v L) : ∃ cs, RW w te s v L.length cs := let ⟨_, _, _, _, h4, _⟩ := h; ⟨_, h4⟩
theorem OL.own (h : OL R s te w0 w v L) : ∀ b, v.ownBlock = some b → w0.heap.size ≤ b := let ⟨_, _, _, _, _, h5⟩ := h; h5
/-- Pushed: the append's row is what the law on append takes. -/
theorem OL.push {n : Nat} {css : List (List Value)} (hl : css.length = L.length) (h2 : ∀ cs ∈ css, cs.length = s) (h3 : ∀ k (h : k < L.length) (h' : k < css.length), R w0 css[k] L[k]) (h5 : ∀ b, v.ownBlock = some b → w0.heap.size ≤ b) (hn : L.length = n)
    {x : α} {xs : List Value} (hxs : xs.length = s) (hx : R w0 xs x) (hw : w0.heap.size ≤ w.heap.size) (ap : AppR w te s v n 1 css.flatten xs v' w') : OL R s te w0 w' v' (L ++ [x]) := by
  refine ⟨css ++ [xs], by simp [hl], fun cs hcs => ?_, fun k hk hk' => ?_, ?_, fun b hb => (ap.own b hb).elim (h5 b) (fun h => Nat.le_trans hw h)⟩
  · rcases List.mem_append.1 hcs with h | h
    · exact h2 cs h
    · rw [List.mem_singleton.1 h]; exact hxs
  · by_cases hlt : k < L.length
    · rw [List.getElem_append_left (by omega), List.getElem_append_left hlt]; exact h3 k hlt (by omega)
    · have e : k = L.length := by simp at hk; omega
      subst e
      rw [List.getElem_append_right (by omega), List.getElem_append_right (by omega)]
      simp only [hl, Nat.sub_self, List.getElem_cons_zero]
      exact hx
  · have := ap.row
    rw [List.flatten_append, List.flatten_cons, List.flatten_nil, List.append_nil, List.length_append, hn]
    exact this
theorem OL.ls {b : Nat} (h : OL R s te w0 w v L) (hR : Stay R) (hb : Below w0.heap.size w0 w) (hl : L.length * b ≤ lim) : ∃ A c, v = .slice A L.length c ∧ LS R s b w A L.length c L := by
  obtain ⟨css, h1, h2, h3, h4, h5⟩ := h
  obtain ⟨A, c, rfl, hc⟩ := h4.form
  refine ⟨A, c, rfl, rfl, hc, hl, fun k hk => ?_⟩
  obtain ⟨g, o, c', e, _, hat⟩ := h4.at_ (by omega)
  cases e
  have hk' : k < css.length := by omega
  exact ⟨g, o, css[k], rfl, at_flatten h2 hat hk', hR _ _ _ _ (h3 k hk hk') hb⟩
end
end Go.Proofs.YtgjgofjabdjclaaDoor
