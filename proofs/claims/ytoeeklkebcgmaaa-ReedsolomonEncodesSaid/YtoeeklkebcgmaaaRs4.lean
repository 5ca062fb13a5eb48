/- Contracts of package reedsolomon: oneLength, Encode; slices.Clone of rows. -/
import Derived.Test.YtoeeklkebcgmaaaRs3
namespace Go.Proofs.Ytoeeklkebcgmaaa
open Go.RowKit Gf

attribute [local go_sem] Gf.xor_bits Gf.and_bits Gf.or_bits Gf.ne_zero_iff Gf.eq_zero_iff Gf.eq_one_iff Gf.beq_bytes Gf.bne_bytes Gf.bv_toNat

/-- All rows have one length from 1 to 65536. -/
def okRow (m : List (List UInt8)) (i : Nat) : Bool := decide ((gR m i).length ≠ 0 ∧ (gR m i).length ≤ 65536 ∧ (gR m i).length = (gR m 0).length)
def oneB (m : List (List UInt8)) : Bool := (List.range m.length).all (okRow m)
theorem oneB_true {m : List (List UInt8)} (h : ∀ i, i < m.length → okRow m i = true) : oneB m = true := by
  unfold oneB; rw [List.all_eq_true]; intro i hi; exact h i (List.mem_range.1 hi)
theorem oneB_false {m : List (List UInt8)} {i : Nat} (hi : i < m.length) (h : okRow m i = false) : oneB m = false := by
  unfold oneB; rw [List.all_eq_false]; exact ⟨i, List.mem_range.2 hi, by simp [h]⟩
theorem oneB_spec {m : List (List UInt8)} (h : oneB m = true) (i : Nat) (hi : i < m.length) : (gR m i).length ≠ 0 ∧ (gR m i).length ≤ 65536 ∧ (gR m i).length = (gR m 0).length := by
  unfold oneB at h; rw [List.all_eq_true] at h; have := h i (List.mem_range.2 hi); simpa [okRow] using this

set_option maxHeartbeats 1000000 in
theorem oneLength_any (A : Option Addr) (n c : Nat) (m : List (List UInt8)) (w : World) (h : MS w A n c m) :
    Calls Try.prog 36 #[.slice A n c] w fun e w' => e = .returned (.bool (oneB m)) ∧ w = w' := by
  have hn := h.len_le
  have HL := Lib.hid h.1
  go_enter Try.func36, Try.ntmps36
  go_wp2
  go_loop [7] (fun i => ∃ k : Nat, k ≤ n ∧ i = .int .i64 (k : Int) ∧ Hid (∀ j, j < k → okRow m j = true)) (fun i => n - (intOf i).toNat)
  case atStart => exact ⟨0, by omega, rfl, Lib.hid (fun j hj => absurd hj (by omega))⟩
  case round =>
    obtain ⟨k, hk, rfl, hall⟩ := hrel
    by_cases hlt : k < n
    · obtain ⟨g, o, A1, n1, c1, rfl, hc, hr1⟩ := h.at_ (Below.refl _ _) hlt
      obtain ⟨g', o', A2, n2, c2, e2, hc2, hr2⟩ := h.at_ (Below.refl _ _) (show 0 < n by omega)
      injection e2 with e2
      injection e2 with e3 e4
      subst e3 e4
      rw [Nat.add_zero] at hc2
      have HN1 := Lib.hid hr1.1
      have HN2 := Lib.hid hr2.1
      have hln := hr1.len_le
      have hln2 := hr2.len_le
      clear hr1 hr2 h
      by_cases e1 : n1 = 0
      · have q1 : ((n1 : Int) == 0) = true := by simp [e1]
        have HF : Hid (oneB m = false) := Lib.hid (oneB_false (by rw [HL.out]; exact hlt) (by unfold okRow; rw [HN1.out, HN2.out]; simp [e1]))
        have E1 := Lib.hid e1
        clear e1
        go_wp2
        go_ret
        exact ⟨ret_bool (by rw [HF.out]), rfl⟩
      · have q1 : ((n1 : Int) == 0) = false := by simp; omega
        by_cases e2 : 65536 < n1
        · have q2 : decide ((65536 : Int) < (n1 : Int)) = true := by simp; omega
          have HF : Hid (oneB m = false) := Lib.hid (oneB_false (by rw [HL.out]; exact hlt) (by unfold okRow; rw [HN1.out, HN2.out]; simp; omega))
          go_wp2
          go_ret
          exact ⟨ret_bool (by rw [HF.out]), rfl⟩
        · have q2 : decide ((65536 : Int) < (n1 : Int)) = false := by simp; omega
          by_cases e3 : n1 = n2
          · have q3 : ((n1 : Int) != (n2 : Int)) = false := by simp [e3]
            have HA : Hid (∀ j, j < k + 1 → okRow m j = true) := Lib.hid (fun j hj => by
              by_cases e : j = k
              · subst e; unfold okRow; rw [HN1.out, HN2.out]; simp; omega
              · exact hall.out j (by omega))
            have E3 := Lib.hid e3
            clear e3 hall
            go_wp2
            go_round
            case rel => exact ⟨k + 1, by omega, by go_num, HA⟩
            case measure => simp [intOf]; omega
          · have q3 : ((n1 : Int) != (n2 : Int)) = true := by simp; omega
            have HF : Hid (oneB m = false) := Lib.hid (oneB_false (by rw [HL.out]; exact hlt) (by unfold okRow; rw [HN1.out, HN2.out]; simp; omega))
            go_wp2
            go_ret
            exact ⟨ret_bool (by rw [HF.out]), rfl⟩
    · have HT : Hid (oneB m = true) := Lib.hid (oneB_true (fun i hi => hall.out i (by rw [HL.out] at hi; omega)))
      clear h
      go_wp2
      go_ret
      exact ⟨ret_bool (by rw [HT.out]), rfl⟩

/-- A row of slices that the call owns: the slices ps read as the rows of m, none empty, and none lies in the row's own block. -/
def OwnM (w : World) (base : Nat) (v : Value) (n : Nat) (m : List (List UInt8)) : Prop :=
  m.length = n ∧ ∃ ps, w.ownsRow base 22 1 v n ps ∧ ∀ j, j < n → ∃ A k c, ps[j]? = some (.slice A k c) ∧ BS w A k c (gR m j) ∧ 0 < k ∧ ∀ g o, A = some ⟨g, o, none⟩ → v.ownBlock ≠ some g
theorem OwnM.ms {w : World} {base : Nat} {v : Value} {n : Nat} {m : List (List UInt8)} (h : OwnM w base v n m) (hn : n * 24 ≤ lim) : ∃ A c, v = .slice A n c ∧ MS w A n c m := by
  obtain ⟨hm, ps, hown, hps⟩ := h
  rcases hown.2 with ⟨rfl, rfl⟩ | ⟨g, cap, cur, rfl, _, hh, hnc, _, hsz, htk⟩
  · exact ⟨none, 0, rfl, hm, Nat.le_refl _, hn, fun k hk => absurd hk (by omega)⟩
  · refine ⟨some ⟨g, 0, none⟩, cap, rfl, hm, hnc, hn, fun k hk => ?_⟩
    obtain ⟨A, k', c, h1, h2, _⟩ := hps k hk
    exact ⟨g, 0, A, k', c, rfl, by rw [Nat.zero_add, hown.cellAt k (by omega)]; exact h1, h2⟩
theorem OwnM.kept {w w' : World} {base : Nat} {v : Value} {n : Nat} {m : List (List UInt8)} (h : OwnM w base v n m) (hb : Below w.heap.size w w') : OwnM w' base v n m := by
  obtain ⟨hm, ps, hown, hps⟩ := h
  refine ⟨hm, ps, Kp.own (S := fun _ => False) (Kp.of_below hb) hown (fun _ _ => id), fun j hj => ?_⟩
  obtain ⟨A, k, c, h1, h2, h3⟩ := hps j hj
  exact ⟨A, k, c, h1, h2.kept hb, h3⟩
theorem gR_append_left {m m' : List (List UInt8)} {j : Nat} (h : j < m.length) : gR (m ++ m') j = gR m j := by
  unfold gR; rw [List.getD_eq_getElem?_getD, List.getD_eq_getElem?_getD, List.getElem?_append_left h]
theorem gR_append_self {m : List (List UInt8)} {l : List UInt8} : gR (m ++ [l]) m.length = l := by
  unfold gR; rw [List.getD_eq_getElem?_getD, List.getElem?_append_right (Nat.le_refl _), Nat.sub_self]; rfl
/-- One row more: what an append of the slice '.slice A k c' leaves. -/
theorem OwnM.push {w w' : World} {base : Nat} {v v' : Value} {n : Nat} {m : List (List UInt8)} (_hbase : base ≤ w.heap.size) (hm : m.length = n) {ps : List Value}
    (hps : ∀ j, j < n → ∃ A k c, ps[j]? = some (.slice A k c) ∧ BS w A k c (gR m j) ∧ 0 < k ∧ ∀ g o, A = some ⟨g, o, none⟩ → v.ownBlock ≠ some g) (hpl : ps.length = n)
    {A : Option Addr} {k c : Nat} {l : List UInt8} (hl : BS w A k c l) (hk : 0 < k) (hA : ∀ g o, A = some ⟨g, o, none⟩ → v.ownBlock ≠ some g)
    (hp : AppPost base 22 v n 1 (ps ++ [.slice A k c]) v' w w') : OwnM w' base v' (n + 1) (m ++ [l]) := by
  have hK : Kp (fun b => v.ownBlock = some b) w w' := (Kp.refl _ _).grown hp.2.1 (fun _ e => .inl e)
  have hrow : ∀ (A : Option Addr) (k c : Nat) (l : List UInt8), BS w A k c l → 0 < k → (∀ g o, A = some ⟨g, o, none⟩ → v.ownBlock ≠ some g) → BS w' A k c l ∧ ∀ g o, A = some ⟨g, o, none⟩ → v'.ownBlock ≠ some g := by
    intro A k c l hb h0 hA
    refine ⟨⟨hb.1, hb.2.1, hb.2.2.1, fun i hi => ?_⟩, fun g o e e' => ?_⟩
    · obtain ⟨g, o, e, hc⟩ := hb.2.2.2 i hi
      exact ⟨g, o, e, hK.cell hc (hA g o e)⟩
    · rcases hp.2.2 with h1 | h1
      · exact hA g o e (h1.symm.trans e')
      · obtain ⟨g', o', e2, hc⟩ := hb.2.2.2 0 h0
        rw [e] at e2
        injection e2 with e2
        injection e2 with e2
        have := cell_lt hc
        rw [h1] at e'
        injection e' with e'
        simp only at this
        omega
  refine ⟨by simp [hm], ps ++ [.slice A k c], hp.1, fun j hj => ?_⟩
  by_cases hjn : j < n
  · obtain ⟨A1, k1, c1, h1, h2, h3, h4⟩ := hps j hjn
    obtain ⟨r1, r2⟩ := hrow A1 k1 c1 _ h2 h3 h4
    refine ⟨A1, k1, c1, by rw [List.getElem?_append_left (by omega)]; exact h1, ?_, h3, r2⟩
    rw [gR_append_left (by omega)]; exact r1
  · obtain rfl : j = n := by omega
    obtain ⟨r1, r2⟩ := hrow A k c l hl hk hA
    refine ⟨A, k, c, by rw [List.getElem?_append_right (by omega), hpl, Nat.sub_self]; rfl, ?_, hk, r2⟩
    rw [← hm, gR_append_self]; exact r1

/-- The slices of a slice of byte slices, as a list. -/
theorem MS.list {w : World} {A : Option Addr} {n c : Nat} {m : List (List UInt8)} (h : MS w A n c m) : ∃ ps : List Value, ps.length = n ∧ Cells w A n (fun k => ps.getD k undef) ∧ ∀ j, j < n → ∃ A' n' c', ps[j]? = some (.slice A' n' c') ∧ BS w A' n' c' (gR m j) := by
  have key : ∀ k, k ≤ n → ∃ ps : List Value, ps.length = k ∧ ∀ j, j < k → ∃ g o A' n' c', A = some ⟨g, o, none⟩ ∧ ps[j]? = some (.slice A' n' c') ∧ w.cell? ⟨g, o + j, none⟩ = some (.slice A' n' c') ∧ BS w A' n' c' (gR m j) := by
    intro k
    induction k with
    | zero => intro _; exact ⟨[], rfl, fun j hj => absurd hj (by omega)⟩
    | succ k ih =>
      intro hk
      obtain ⟨ps, h1, h2⟩ := ih (by omega)
      obtain ⟨g, o, A', n', c', e, hc, hb⟩ := h.2.2.2 k (by omega)
      refine ⟨ps ++ [.slice A' n' c'], by simp [h1], fun j hj => ?_⟩
      by_cases hjk : j < k
      · obtain ⟨g1, o1, A1, n1, c1, e1, p1, q1, b1⟩ := h2 j hjk
        exact ⟨g1, o1, A1, n1, c1, e1, by rw [List.getElem?_append_left (by omega)]; exact p1, q1, b1⟩
      · obtain rfl : j = k := by omega
        exact ⟨g, o, A', n', c', e, by rw [List.getElem?_append_right (by omega), h1, Nat.sub_self]; rfl, hc, hb⟩
  obtain ⟨ps, h1, h2⟩ := key n (Nat.le_refl _)
  refine ⟨ps, h1, fun k hk => ?_, fun j hj => ?_⟩
  · obtain ⟨g, o, A', n', c', e, p, q, _⟩ := h2 k hk
    exact ⟨g, o, e, by rw [q]; simp [List.getD, p]⟩
  · obtain ⟨g, o, A', n', c', e, p, q, b⟩ := h2 j hj
    exact ⟨A', n', c', p, b⟩

def CloneRet (n : Nat) (m : List (List UInt8)) (w : World) (e : Ending) (w' : World) : Prop := ∃ v, e = .returned v ∧ OwnM w' w.heap.size v n m ∧ Below w.heap.size w w'

set_option maxHeartbeats 1000000 in
theorem clone_rows (A : Option Addr) (n c : Nat) (m : List (List UInt8)) (w : World) (h : MS w A n c m) (hn : 0 < n) (hne : ∀ j, j < n → (gR m j).length ≠ 0) :
    Calls Try.prog 37 #[.slice A n c] w (CloneRet n m w) := by
  have hl := h.len_le
  obtain ⟨g, o, _, _, _, rfl, _⟩ := h.at_ (Below.refl _ _) hn
  obtain ⟨ps, p1, p2, p3⟩ := h.list
  have heq := fun (W : World) (a : Option Addr) (n c n' c' : Nat) => Lib.run_eql_slice_nil (P := Try.prog) W 30 22 a n c n' c' Try.underlying30
  have HO0 : Hid ((w.alloc (.cells #[] 22)).ownsRow w.heap.size 22 1 (.slice (some ⟨w.heap.size, 0, none⟩) 0 0) 0 []) :=
    Lib.hid (World.ownsRow_lit w #[] 0 (Nat.le_refl _) (by simp [maxLen]) rfl)
  have hbA : Below w.heap.size w (w.alloc (.cells #[] 22)) := (Below.refl _ _).alloc (Nat.le_refl _) _
  have HC := Lib.hid (p2.kept hbA)
  have H1 : Hid (∀ u ∈ ps, u.oneCell' = true) := Lib.hid (fun u hu => by
    obtain ⟨j, hj⟩ := List.getElem?_of_mem hu
    have hjn : j < n := by rw [← p1]; exact (List.getElem?_eq_some_iff.1 hj).1
    obtain ⟨A', n', c', q, _⟩ := p3 j hjn
    rw [q] at hj
    injection hj with hj
    subst hj
    rfl)
  have P1 := Lib.hid p1
  have P3 := Lib.hid p3
  have HBA := Lib.hid hbA
  clear p1 p2 p3 hbA
  go_enter Try.func37, Try.ntmps37
  go_wp2_with (first
    | (at_builtin; refine wpList_app _ rfl (.tmp 5) (.tmp 6) 30 rfl w.heap.size 22 (.slice none 0 0) 24 Try.underlying30 infoBytes rfl (.slice (some ⟨w.heap.size, 0, none⟩) 0 0) 0 [] rfl HO0.out (some ⟨g, o, none⟩) n c ps rfl P1.out HC.out H1.out (by omega) (by omega) (by simp) ?_; intro v1 w1 hp1))
  have HR : Hid (OwnM w1 w.heap.size v1 n m ∧ Below w.heap.size w w1) := by
    have hb1 : Below w.heap.size w w1 := HBA.out.grown hp1.2.1 HBA.out.size (by simp [Value.ownBlock])
    have ho := hp1.1
    rw [Nat.zero_add, List.nil_append] at ho
    refine Lib.hid ⟨⟨h.1, ps, ho, fun j hj => ?_⟩, hb1⟩
    obtain ⟨A', n', c', q, hb⟩ := P3.out j hj
    have hn' : 0 < n' := by rw [← hb.1]; have := hne j hj; omega
    refine ⟨A', n', c', q, hb.kept hb1, hn', fun g' o' e e' => ?_⟩
    obtain ⟨g2, o2, e2, hc⟩ := hb.2.2.2 0 hn'
    rw [e] at e2
    injection e2 with e2
    injection e2 with e2
    have h1 := cell_lt hc
    have h2 := ho.lt g' e'
    simp only at h1
    omega
  clear hp1
  go_ret
  exact ⟨_, rfl, HR.out⟩
end Go.Proofs.Ytoeeklkebcgmaaa
