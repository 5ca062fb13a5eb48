/- Rows of shares and of byte slices that a call owns; slices.Grow of nil, slices.Concat of two, shamir.evaluator. -/
import Derived.Test.YtakedococfklgaaEv
import Derived.Lib.AppendZerosOnto
import Derived.Lib.Walk
namespace Go.Proofs.Ytakedococfklgaa
open Go.RowKit Gf

/-- The slices of a slice of byte slices, as a list. -/
theorem MS.list {w : World} {A : Option Addr} {n c : Nat} {m : List (List UInt8)} (h : MS w A n c m) : ∃ ps : List Value, ps.length = n ∧ Cells w A n (fun k => ps.getD k undef) ∧ ∀ j, j < n → ∃ A' n' c', ps[j]? = some (.slice A' n' c') ∧ BS w A' n' c' (gR m j) := by
  have key : ∀ k, k ≤ n → ∃ ps : List Value, ps.length = k ∧ ∀ j, j < k → ∃ g o A' n' c', A = some ⟨g, o, none⟩ ∧ ps[j]? = some (.slice A' n' c') ∧ w.cell? ⟨g, o + j, none⟩ = some (.slice A' n' c') ∧ BS w A' n' c' (gR m j) := by
    intro k
    induction k with
    | zero => intro _; exact ⟨[], rfl, fun j hj => absurd hj (by omega)⟩
    | succ k ih =>
      intro hk
      obtain ⟨ps, h1, h2⟩ := ih (by omega)
      obtain ⟨g, o, A', n', c', e, hc, hb⟩ := h.2.2.2 k (by omega)
      refine ⟨ps ++ [.slice A' n' c'], by simp [h1], fun j hj => ?_⟩
      by_cases hjk : j < k
      · obtain ⟨g1, o1, A1, n1, c1, e1, p1, q1, b1⟩ := h2 j hjk
        exact ⟨g1, o1, A1, n1, c1, e1, by rw [List.getElem?_append_left (by omega)]; exact p1, q1, b1⟩
      · obtain rfl : j = k := by omega
        exact ⟨g, o, A', n', c', e, by rw [List.getElem?_append_right (by omega), h1, Nat.sub_self]; rfl, hc, hb⟩
  obtain ⟨ps, h1, h2⟩ := key n (Nat.le_refl _)
  refine ⟨ps, h1, fun k hk => ?_, fun j hj => ?_⟩
  · obtain ⟨g, o, A', n', c', e, p, q, _⟩ := h2 k hk
    exact ⟨g, o, e, by rw [q]; simp [List.getD, p]⟩
  · obtain ⟨g, o, A', n', c', e, p, q, b⟩ := h2 j hj
    exact ⟨A', n', c', p, b⟩

theorem gR_append_left {m m' : List (List UInt8)} {j : Nat} (h : j < m.length) : gR (m ++ m') j = gR m j := by
  unfold gR; rw [List.getD_eq_getElem?_getD, List.getD_eq_getElem?_getD, List.getElem?_append_left h]
theorem gR_append_self {m : List (List UInt8)} {l : List UInt8} : gR (m ++ [l]) m.length = l := by
  unfold gR; rw [List.getD_eq_getElem?_getD, List.getElem?_append_right (Nat.le_refl _), Nat.sub_self]; rfl

/-- The cells of shares. -/
def shC (q : List (Int × Value)) : List Value := q.flatMap fun p => [.int .i64 p.1, p.2]
theorem shC_length (q : List (Int × Value)) : (shC q).length = q.length * 2 := by
  induction q with
  | nil => rfl
  | cons a q ih => simp only [shC, List.flatMap_cons, List.length_append] at ih ⊢; simp [ih]; omega
theorem shC_append (q q' : List (Int × Value)) : shC (q ++ q') = shC q ++ shC q' := by simp [shC]
theorem shC_get (q : List (Int × Value)) : ∀ (k : Nat) (p : Int × Value), q[k]? = some p → (shC q)[k * 2]? = some (.int .i64 p.1) ∧ (shC q)[k * 2 + 1]? = some p.2 := by
  induction q with
  | nil => intro k p h; simp at h
  | cons a q ih =>
    intro k p h
    cases k with
    | zero => simp at h; subst h; simp [shC]
    | succ k =>
      simp at h
      have := ih k p h
      rw [show (k + 1) * 2 = k * 2 + 1 + 1 by omega, show k * 2 + 1 + 1 + 1 = (k * 2 + 1) + 1 + 1 by omega]
      simpa [shC] using this

/-- A row of shares that the call owns; their bytes lie elsewhere. -/
def OwnS (w : World) (base : Nat) (v : Value) (n : Nat) (l : List (Int × List UInt8)) : Prop :=
  l.length = n ∧ ∃ q : List (Int × Value), q.length = n ∧ w.ownsRow base 33 2 v n (shC q) ∧ ∀ j, j < n → ∃ A k c, q[j]? = some ((gS l j).1, .slice A k c) ∧ BS w A k c (gS l j).2 ∧ (0 < k → AtB A (fun b => v.ownBlock ≠ some b))
theorem own2 {S : Nat → Prop} {w w1 : World} (h : Kp S w w1) {base : Nat} {e : TypeId} {v : Value} {n : Nat} {xs : List Value} (ho : w.ownsRow base e 2 v n xs) (hn : ∀ g, v.ownBlock = some g → ¬ S g) : w1.ownsRow base e 2 v n xs := by
  refine ⟨ho.1, ?_⟩
  rcases ho.2 with h0 | ⟨g, cap, cur, rfl, hb, hh, hr⟩
  · exact .inl h0
  · refine .inr ⟨g, cap, cur, rfl, hb, ?_, hr⟩
    have hlt : g < w.heap.size := by
      rcases Nat.lt_or_ge g w.heap.size with h1 | h1
      · exact h1
      · rw [Array.getElem?_eq_none h1] at hh; cases hh
    exact (h.block g hlt (hn g rfl)).trans hh
theorem OwnS.kept {w w' : World} {base : Nat} {v : Value} {n : Nat} {l : List (Int × List UInt8)} (h : OwnS w base v n l) (hb : Below w.heap.size w w') : OwnS w' base v n l := by
  obtain ⟨hm, q, hq, hown, hps⟩ := h
  refine ⟨hm, q, hq, own2 (S := fun _ => False) (Kp.of_below hb) hown (fun _ _ => id), fun j hj => ?_⟩
  obtain ⟨A, k, c, h1, h2, h3⟩ := hps j hj
  exact ⟨A, k, c, h1, h2.kept hb, h3⟩
theorem OwnS.ss {w : World} {base : Nat} {v : Value} {n : Nat} {l : List (Int × List UInt8)} (h : OwnS w base v n l) (hn : n * 32 ≤ lim) : ∃ A c, v = .slice A n c ∧ SS w A n c l := by
  obtain ⟨hm, q, hq, hown, hps⟩ := h
  rcases hown.2 with ⟨rfl, rfl⟩ | ⟨g, cap, cur, rfl, _, hh, hnc, _, hsz, htk⟩
  · exact ⟨none, 0, rfl, hm, Nat.le_refl _, hn, fun k hk => absurd hk (by omega)⟩
  · refine ⟨some ⟨g, 0, none⟩, cap, rfl, hm, hnc, hn, fun k hk => ?_⟩
    obtain ⟨A, k', c, h1, h2, _⟩ := hps k hk
    obtain ⟨s1, s2⟩ := shC_get q k _ h1
    exact ⟨g, 0, A, k', c, rfl, by rw [Nat.zero_add, hown.cellAt (k * 2) (by omega)]; exact s1, by rw [Nat.zero_add, hown.cellAt (k * 2 + 1) (by omega)]; exact s2, h2⟩
theorem OwnS.base {w : World} {base : Nat} {v : Value} {n : Nat} {l : List (Int × List UInt8)} (h : OwnS w base v n l) : ∀ k, v.ownBlock = some k → base ≤ k ∧ k < w.heap.size := fun k hk => by
  obtain ⟨_, q, _, hown, _⟩ := h
  exact hown.lt k hk
/-- What an append of shares leaves. -/
def AppS (base : Nat) (e : TypeId) (v : Value) (n : Nat) (xs : List Value) (v' : Value) (w w' : World) : Prop :=
  w'.ownsRow base e 2 v' (n + 1) xs ∧ w.grownBy w' v.ownBlock ∧ (v'.ownBlock = v.ownBlock ∨ v'.ownBlock = some w.heap.size)
theorem gS_append_left {m m' : List (Int × List UInt8)} {j : Nat} (h : j < m.length) : gS (m ++ m') j = gS m j := by
  unfold gS; rw [List.getD_eq_getElem?_getD, List.getD_eq_getElem?_getD, List.getElem?_append_left h]
theorem gS_append_self {m : List (Int × List UInt8)} {l : Int × List UInt8} : gS (m ++ [l]) m.length = l := by
  unfold gS; rw [List.getD_eq_getElem?_getD, List.getElem?_append_right (Nat.le_refl _), Nat.sub_self]; rfl
theorem OwnS.push {w w' : World} {base : Nat} {v v' : Value} {n : Nat} {l : List (Int × List UInt8)} {q : List (Int × Value)} (hm : l.length = n) (hq : q.length = n)
    (hps : ∀ j, j < n → ∃ A k c, q[j]? = some ((gS l j).1, .slice A k c) ∧ BS w A k c (gS l j).2 ∧ (0 < k → AtB A (fun b => v.ownBlock ≠ some b)))
    {A : Option Addr} {k c : Nat} {x : Int} {d : List UInt8} (hl : BS w A k c d) (hA : 0 < k → AtB A (fun b => v.ownBlock ≠ some b))
    (hp : AppS base 33 v n (shC q ++ [.int .i64 x, .slice A k c]) v' w w') : OwnS w' base v' (n + 1) (l ++ [(x, d)]) := by
  have hK : Kp (fun b => v.ownBlock = some b) w w' := (Kp.refl _ _).grown hp.2.1 (fun _ e => .inl e)
  have hrow : ∀ (A : Option Addr) (k c : Nat) (l : List UInt8), BS w A k c l → (0 < k → AtB A (fun b => v.ownBlock ≠ some b)) → BS w' A k c l ∧ (0 < k → AtB A (fun b => v'.ownBlock ≠ some b)) := by
    intro A k c l hb hA
    refine ⟨⟨hb.1, hb.2.1, hb.2.2.1, fun i hi => ?_⟩, fun h0 a e e' => ?_⟩
    · obtain ⟨g, o, e, hc⟩ := hb.2.2.2 i hi
      exact ⟨g, o, e, hK.cell hc (hA (by omega) ⟨g, o, none⟩ e)⟩
    · rcases hp.2.2 with h1 | h1
      · exact hA h0 a e (h1.symm.trans e')
      · obtain ⟨g', o', e2, hc⟩ := hb.2.2.2 0 h0
        rw [e] at e2
        injection e2 with e2
        have := cell_lt hc
        rw [h1] at e'
        injection e' with e'
        rw [e2] at e'
        simp only at this e'
        omega
  refine ⟨by simp [hm], q ++ [(x, .slice A k c)], by simp [hq], by rw [shC_append]; exact hp.1, fun j hj => ?_⟩
  by_cases hjn : j < n
  · obtain ⟨A1, k1, c1, h1, h2, h3⟩ := hps j hjn
    obtain ⟨r1, r2⟩ := hrow A1 k1 c1 _ h2 h3
    refine ⟨A1, k1, c1, by rw [List.getElem?_append_left (by omega), gS_append_left (by omega)]; exact h1, ?_, r2⟩
    rw [gS_append_left (by omega)]; exact r1
  · obtain rfl : j = n := by omega
    obtain ⟨r1, r2⟩ := hrow A k c d hl hA
    refine ⟨A, k, c, ?_, ?_, r2⟩
    · rw [List.getElem?_append_right (by omega), hq, Nat.sub_self, ← hm, gS_append_self]; rfl
    · rw [← hm, gS_append_self]; exact r1
theorem OwnS.nil (w : World) (base : Nat) : OwnS w base (.slice none 0 0) 0 [] := ⟨rfl, [], rfl, World.ownsRow_nil _ _ _ _, fun j hj => absurd hj (by omega)⟩

theorem infoSh : (Try.prog.info? 33).map (fun i => (i.zero, i.size, i.bytes)) = some (some (.agg #[.int .i64 0, .slice none 0 0]), 2, 32) := by kernel_rfl

/-- One share appended: it lies in a new block of its own. -/
theorem wpList_appS (w : World) {ops : Array Oper} {rest : List Oper} {o : Oper} {a : Act} {Q : Exit → Act → World → Prop} (hgd : o.guard = none) (s x : Operand)
    (ho : o.op = .call { callee := .builtin .append, args := #[s, x], argTypes := #[26, 26] })
    (base : Nat) (v : Value) (n : Nat) (xs : List Value) (hs : a.eval s = v) (hown : w.ownsRow base 33 2 v n xs)
    (g c : Nat) (te : TypeId) (u u' : Value) (hx : a.eval x = .slice (some ⟨g, 0, none⟩) 1 c) (hblk : Blk w g te #[u, u']) (hu : u.oneCell' = true) (hu' : u'.oneCell' = true) (hb : (n + 1) * 32 ≤ 140737488355328) (hbase : base ≤ w.heap.size)
    (h : ∀ v' w', AppS base 33 v n (xs ++ [u, u']) v' w w' → wpList Try.prog ops Q rest (a.put o.dst v') w') : wpList Try.prog ops Q (o :: rest) a w := by
  obtain ⟨i, hi, hz, hsz, hby⟩ := info_parts infoSh
  refine wpList_plain hgd fun _ hK => ?_
  obtain ⟨v', w', hrun, h2, h3, _, h5⟩ := run_append_own_at (P := Try.prog) w base 26 o.type 33 i _ 2 32 Try.underlying26 hi hz hsz hby rfl (by omega) v n xs hown ⟨g, 0, none⟩ 1 c [u, u'] rfl (fun j w0 hj => by
    have hjl : j < 2 := by
      rcases Nat.lt_or_ge j 2 with h1 | h1
      · exact h1
      · rw [List.getElem?_eq_none (by simpa using h1)] at hj; cases hj
    have ea : (⟨g, 0, none⟩ : Addr).add j = ⟨g, 0 + j, none⟩ := by
      unfold Addr.add; split
      · rename_i hj0; subst hj0; simp
      · rfl
    rw [ea, Nat.zero_add, hblk.cell]
    simpa using hj) (by simp [hu, hu']) (by simp only [maxLen]; omega) hb hbase
  unfold Oper.wp execOp
  simp only [ho, resolve, invoke, builtin, Sem.run_bind, Sem.run_pure, Result.andThen_ok, List.map_toArray, List.map_cons, List.map_nil, hs, hx, hrun]
  exact hK _ _ (h v' w' ⟨h2, h3, h5⟩)
end Go.Proofs.Ytakedococfklgaa
