/- The reference's Counting and Answer, plainly. -/
import Derived.Test.YtfonbliomokffaaGreatTmm
import Derived.Test.YtfonbliomokffaaGreatC22
namespace Go.Proofs.YtfonbliomokffaaGreat
open Go Gf

def ltE (x y : En) : Bool := decide (x.dev < y.dev) || (decide (x.dev = y.dev) && decide (x.seq < y.seq))
/-- An entry put in its place, unless its number is there. -/
def insE (out : List En) (x : En) : List En := if out.any (fun y => keyE y == keyE x) then out else out.takeWhile (fun y => ltE y x) ++ x :: out.dropWhile (fun y => ltE y x)
def cnt (es : List En) : List En := es.foldl insE []
theorem insE_perm {out D : List En} (h : out.Perm D) (x : En) : (insE out x).Perm (ddS D x) := by
  have he : out.any (fun y => keyE y == keyE x) = D.any (fun y => keyE y == keyE x) := by
    rw [Bool.eq_iff_iff, List.any_eq_true, List.any_eq_true]
    constructor
    · rintro ⟨y, h1, h2⟩; exact ⟨y, h.mem_iff.1 h1, h2⟩
    · rintro ⟨y, h1, h2⟩; exact ⟨y, h.mem_iff.2 h1, h2⟩
  unfold insE ddS
  rw [he]
  split
  · exact h
  · have h1 : (out.takeWhile (fun y => ltE y x) ++ x :: out.dropWhile (fun y => ltE y x)).Perm (x :: out) := by
      have h2 := List.perm_middle (a := x) (l₁ := out.takeWhile (fun y => ltE y x)) (l₂ := out.dropWhile (fun y => ltE y x))
      rw [List.takeWhile_append_dropWhile] at h2
      exact h2
    exact h1.trans ((h.cons x).trans (by simpa using (List.perm_append_comm (l₁ := [x]) (l₂ := D))))
theorem cnt_perm (es : List En) : (cnt es).Perm (dd es) := by
  have key : ∀ (l a b : List En), a.Perm b → (l.foldl insE a).Perm (l.foldl ddS b) := by
    intro l
    induction l with
    | nil => intro a b h; exact h
    | cons x l ih => intro a b h; exact ih _ _ (insE_perm h x)
  exact key es [] [] (List.Perm.refl _)
/-- The first reply of a device to a proposal, by number. -/
def ansS (es : List En) (p : Pp) (d : Int) : Int :=
  match (cnt es).find? (fun x => x.dev == d && (isRep x && x.body == rbL p)) with | some x => x.kind | none => 0
theorem ltE_iff (x y : En) : ltE x y = true ↔ x.dev < y.dev ∨ (x.dev = y.dev ∧ x.seq < y.seq) := by simp [ltE]
theorem insE_sorted {out : List En} (h : out.Pairwise (fun a b => ltE a b = true)) (x : En) : (insE out x).Pairwise (fun a b => ltE a b = true) := by
  unfold insE
  split
  · exact h
  · rename_i hk
    have hne : ∀ y ∈ out, keyE y ≠ keyE x := fun y hy e => hk (List.any_eq_true.2 ⟨y, hy, by rw [e]; exact beq_self_eq_true _⟩)
    have h1 : ∀ y ∈ out.takeWhile fun y => ltE y x, ltE y x = true := fun y hy => List.all_eq_true.1 (List.all_takeWhile (p := fun y => ltE y x) (l := out)) y hy
    have h2 : ∀ y ∈ out.dropWhile fun y => ltE y x, ltE x y = true := by
      cases hd : out.dropWhile fun y => ltE y x with
      | nil => intro y hy; cases hy
      | cons a r =>
        have h3 : ltE a x = false := by
          have := List.head?_dropWhile_not (fun y => ltE y x) out
          rw [hd] at this
          simpa using this
        have ha : a ∈ out := (List.dropWhile_sublist (p := fun y => ltE y x)).subset (by rw [hd]; simp)
        have h4 : ltE x a = true := by
          rw [ltE_iff]
          rw [← Bool.not_eq_true, ltE_iff] at h3
          have h5 := hne a ha
          have h6 : ¬ (a.dev = x.dev ∧ a.seq = x.seq) := fun e => h5 (Prod.ext e.1 e.2)
          omega
        have h5 : (a :: r).Pairwise (fun a b => ltE a b = true) := by rw [← hd]; exact h.sublist (List.dropWhile_sublist _)
        intro y hy
        rcases List.mem_cons.1 hy with rfl | hy
        · exact h4
        · have h6 := (List.pairwise_cons.1 h5).1 y hy
          rw [ltE_iff] at h4 h6 ⊢
          omega
    refine List.pairwise_append.2 ⟨h.sublist (List.takeWhile_sublist _), List.pairwise_cons.2 ⟨h2, h.sublist (List.dropWhile_sublist _)⟩, fun a ha b hb => ?_⟩
    rcases List.mem_cons.1 hb with rfl | hb
    · exact h1 a ha
    · have h6 := h1 a ha
      have h7 := h2 b hb
      rw [ltE_iff] at h6 h7 ⊢
      omega
theorem cnt_sorted (es : List En) : (cnt es).Pairwise (fun a b => ltE a b = true) := by
  have key : ∀ (l a : List En), a.Pairwise (fun a b => ltE a b = true) → (l.foldl insE a).Pairwise (fun a b => ltE a b = true) := by
    intro l
    induction l with
    | nil => intro a h; exact h
    | cons x l ih => intro a h; exact ih _ (insE_sorted h x)
  exact key es [] List.Pairwise.nil
theorem cnt_dist (es : List En) : DistE (cnt es) := (cnt_sorted es).imp (fun {a b} h e => by
  rw [ltE_iff] at h
  have h1 : a.dev = b.dev := congrArg Prod.fst e
  have h2 : a.seq = b.seq := congrArg Prod.snd e
  omega)
theorem ans_reply (es : List En) (p : Pp) (d : Int) (hp : (rbL p).length ≤ 20) : ansS es p d = replyOf (dd es) p d := by
  rw [← reply_perm (cnt_perm es) (cnt_dist es)]
  unfold ansS replyOf
  have hq : ∀ y : En, (y.dev == d && (isRep y && y.body == rbL p)) = (okRep y && keyA y == (d, rbL p)) := by
    intro y
    rw [Bool.eq_iff_iff]
    simp only [okRep, keyA, Bool.and_eq_true, beq_iff_eq, decide_eq_true_eq, Prod.mk.injEq]
    constructor
    · rintro ⟨h1, h2, h3⟩; exact ⟨⟨h2, by rw [h3]; exact hp⟩, h1, h3⟩
    · rintro ⟨⟨h1, _⟩, h2, h3⟩; exact ⟨h2, h1, h3⟩
  rcases bestP_of (cnt es) (d, rbL p) with ⟨h1, h2⟩ | ⟨x, h1, h2, h3, h4⟩
  · rw [h1, List.find?_eq_none.2 (fun y hy => by rw [hq, h2 y hy]; simp)]
  · cases hf : (cnt es).find? (fun x => x.dev == d && (isRep x && x.body == rbL p)) with
    | none =>
      have := List.find?_eq_none.1 hf x h2
      rw [hq, h3] at this
      exact absurd rfl this
    | some y =>
      obtain ⟨k1, us, vs, k2, k3⟩ := List.find?_eq_some_iff_append.1 hf
      rw [hq] at k1
      have hy : y ∈ cnt es := by rw [k2]; simp
      have e1 := h4 y hy k1
      have e3 : keyA x = (d, rbL p) := by rw [Bool.and_eq_true, beq_iff_eq] at h3; exact h3.2
      have e4 : keyA y = (d, rbL p) := by rw [Bool.and_eq_true, beq_iff_eq] at k1; exact k1.2
      have e5 : x.dev = y.dev := congrArg Prod.fst (e3.trans e4.symm)
      have e6 : y.seq ≤ x.seq := by
        rw [k2] at h2
        rcases List.mem_append.1 h2 with hx | hx
        · have := k3 x hx
          rw [hq, h3] at this
          cases this
        · rcases List.mem_cons.1 hx with rfl | hx
          · exact Int.le_refl _
          · have hs := cnt_sorted es
            rw [k2] at hs
            have := (List.pairwise_cons.1 (List.pairwise_append.1 hs).2.1).1 x hx
            rw [ltE_iff] at this
            omega
      rw [h1]
      have : x = y := dist_eq (cnt_dist es) (by rw [k2]; rw [k2] at h2; exact h2) hy (Prod.ext e5 (show x.seq = y.seq by omega))
      rw [this]
end Go.Proofs.YtfonbliomokffaaGreat
