/- Several texts in one: Free, G7, Ea. -/
import Derived.Test.YtheijpjfpaghfaaGreatDoorC4
import Derived.Test.YtheijpjfpaghfaaGreatDoorC3
import Derived.Test.YtheijpjfpaghfaaGreatDoorC20
import Derived.Test.YtheijpjfpaghfaaGreatDoorC21
import Derived.Test.YtheijpjfpaghfaaGreatDoorC15
import Derived.Lib.Hide
import Derived.LoopTactic
import Derived.Deep.QuietTactic
import Derived.BigQuiet
import Derived.OwnWalk
import Derived.IntWalk
import Derived.Deep.LoopGhost
/- A region that draws its order, whose first operations (the bag) each only add to the world, in whatever order: each is told by a relation on its value that stays while nothing old turns. Behind the bag the rest is walked as a text. For any program. -/
namespace Go.Proofs.YtheijpjfpaghfaaGreatDoor
open Go Go.RowKit

namespace Text
variable {P : Program} {ops : Array Oper} {Q : Exit → Act → World → Prop} {S : World → Prop}

def dstOf (ops : Array Oper) (i : Nat) : Option Tmp := (ops[i]?).bind (·.dst)
/-- The act in which those of the bag that have come up have written. -/
def bagPut (ops : Array Oper) (listed : Array Bool) (vs : Nat → Value) : List Nat → Act → Act
  | [], a => a
  | i :: r, a => bagPut ops listed vs r (if listed.getD i false = true then a.put (dstOf ops i) (vs i) else a)
def bagB (ops : Array Oper) (B : List Nat) (L : List (Nat × Nat)) : Bool :=
  Region.noSelect ops && (List.range ops.size).all (fun i => B.contains i || (L.map (·.1)).contains i) &&
    L.all (fun x => decide (x.1 < ops.size) && ((preds ops x.1).all (fun p => decide (p < ops.size) && p != x.1) && (B.all (fun b => ((tbl ops ops.size).getD x.1 []).contains b) && !B.contains x.1))) &&
    decide (L.map (·.1)).Nodup && decide B.Nodup && pairsB ops (tbl ops ops.size) L &&
    B.all (fun i => decide (i < ops.size) && ((match ops[i]? with | some o => o.guard.isNone | none => false) && (preds ops i).all (fun p => decide (p < i) && B.contains p))) &&
    B.all (fun i => B.all fun j => i == j || (match dstOf ops i with | some d => dstOf ops j != some d | none => true))
def roomB (ops : Array Oper) (B : List Nat) (n : Nat) : Bool := B.all fun i => match dstOf ops i with | some d => decide (d < n) | none => true

theorem bagPut_put {listed : Array Bool} {vs : Nat → Value} (d : Option Tmp) (v : Value) : ∀ (l : List Nat) (a : Act), (∀ j ∈ l, ∀ e, d = some e → dstOf ops j ≠ some e) → (bagPut ops listed vs l a).put d v = bagPut ops listed vs l (a.put d v)
  | [], _, _ => rfl
  | j :: r, a, h => by
    rw [bagPut, bagPut, bagPut_put d v r _ (fun k hk => h k (by simp [hk]))]
    congr 1
    by_cases hl : listed.getD j false = true
    · rw [if_pos hl, if_pos hl]
      exact (Act.put_comm a v (vs j) (h j (by simp))).symm
    · rw [if_neg hl, if_neg hl]
theorem bagPut_same {listed listed' : Array Bool} {vs vs' : Nat → Value} : ∀ (l : List Nat) (a : Act), (∀ j ∈ l, listed.getD j false = listed'.getD j false ∧ (listed.getD j false = true → vs j = vs' j)) → bagPut ops listed vs l a = bagPut ops listed' vs' l a
  | [], _, _ => rfl
  | j :: r, a, h => by
    rw [bagPut, bagPut, bagPut_same r _ (fun k hk => h k (by simp [hk]))]
    congr 1
    obtain ⟨h1, h2⟩ := h j (by simp)
    by_cases hl : listed.getD j false = true
    · rw [if_pos hl, if_pos (h1 ▸ hl), h2 hl]
    · rw [if_neg hl, if_neg (h1 ▸ hl)]
theorem bagPut_next {listed : Array Bool} {vs : Nat → Value} {i : Nat} {v : Value} (hi : i < listed.size) (hn : listed.getD i false = false) : ∀ (l : List Nat) (a : Act), l.Nodup → i ∈ l → (∀ x ∈ l, ∀ y ∈ l, x ≠ y → ∀ e, dstOf ops x = some e → dstOf ops y ≠ some e) →
    (bagPut ops listed vs l a).put (dstOf ops i) v = bagPut ops (listed.setIfInBounds i true) (fun j => if j = i then v else vs j) l a
  | [], _, _, h, _ => by cases h
  | j :: r, a, hnd, hm, hd => by
    rw [List.nodup_cons] at hnd
    by_cases e : j = i
    · subst e
      have hmn : ∀ k ∈ r, k ≠ j := fun k hk e => hnd.1 (e ▸ hk)
      have h1 : (listed.setIfInBounds j true).getD j false = true := by simp [hi]
      rw [bagPut, bagPut, if_neg (by rw [hn]; decide), if_pos h1, if_pos rfl, bagPut_put _ _ _ _ (fun k hk e he => hd j (by simp) k (by simp [hk]) (fun e => hmn k hk e.symm) e he)]
      exact bagPut_same r _ (fun k hk => ⟨(getD_set_ne false (fun e => hmn k hk e.symm)).symm, fun _ => by rw [if_neg (hmn k hk)]⟩)
    · have hm' : i ∈ r := by
        rcases List.mem_cons.1 hm with h | h
        · exact absurd h.symm e
        · exact h
      rw [bagPut, bagPut, bagPut_next hi hn r _ hnd.2 hm' (fun x hx y hy => hd x (by simp [hx]) y (by simp [hy])), getD_set_ne false (fun h => e h.symm), if_neg e]
theorem put_size (a : Act) (d : Option Tmp) (v : Value) : (a.put d v).tmps.size = a.tmps.size := by
  cases d with
  | none => rfl
  | some d => simp [Act.put]
theorem bagPut_old {listed : Array Bool} {vs : Nat → Value} {t : Tmp} : ∀ (l : List Nat) (a : Act), (∀ j ∈ l, dstOf ops j ≠ some t) → (bagPut ops listed vs l a).tmps.getD t undef = a.tmps.getD t undef
  | [], _, _ => rfl
  | j :: r, a, h => by
    rw [bagPut, bagPut_old r _ (fun k hk => h k (by simp [hk]))]
    by_cases hl : listed.getD j false = true
    · rw [if_pos hl]
      have hj := h j (by simp)
      cases hd : dstOf ops j with
      | none => rfl
      | some d =>
        have hne : d ≠ t := fun e => hj (by rw [hd, e])
        simp [Act.put, Array.getElem?_setIfInBounds_ne hne]
    · rw [if_neg hl]
theorem bagPut_slot {listed : Array Bool} {vs : Nat → Value} {i : Nat} {d : Tmp} (hd : dstOf ops i = some d) (hl : listed.getD i false = true) : ∀ (l : List Nat) (a : Act), l.Nodup → i ∈ l → d < a.tmps.size → (∀ x ∈ l, ∀ y ∈ l, x ≠ y → ∀ e, dstOf ops x = some e → dstOf ops y ≠ some e) →
    (bagPut ops listed vs l a).tmps.getD d undef = vs i
  | [], _, _, h, _, _ => by cases h
  | j :: r, a, hnd, hm, hs, hx => by
    rw [List.nodup_cons] at hnd
    rw [bagPut]
    by_cases e : j = i
    · subst e
      rw [if_pos hl, bagPut_old r _ (fun k hk => hx j (by simp) k (by simp [hk]) (fun e => hnd.1 (e ▸ hk)) d hd), hd]
      simp [Act.put, hs]
    · have hm' : i ∈ r := by
        rcases List.mem_cons.1 hm with h | h
        · exact absurd h.symm e
        · exact h
      refine bagPut_slot hd hl r _ hnd.2 hm' ?_ (fun x hx' y hy => hx x (by simp [hx']) y (by simp [hy]))
      split
      · rw [put_size]; exact hs
      · exact hs

/-- What the bag's step number i may take, and what it owes. -/
def BagStep (P : Program) (ops : Array Oper) (B : List Nat) (RR : Nat → World → Value → Prop) (ow : Value → Option Nat) (a : Act) (w : World) (i : Nat) : Prop :=
  ∀ (o : Oper), ops[i]? = some o → ∀ (vs : Nat → Value) (a' : Act) (w' : World), Below w.heap.size w w' → (∀ t, (B.all fun j => dstOf ops j != some t) = true → a'.tmps.getD t undef = a.tmps.getD t undef) →
    (∀ j, (preds ops i).contains j = true → (∀ d, dstOf ops j = some d → a'.tmps.getD d undef = vs j) ∧ RR j w' (vs j)) → ∀ K : Act → World → Prop, (∀ v w'', Below w'.heap.size w' w'' → RR i w'' v → (∀ b, ow v = some b → w'.heap.size ≤ b ∧ b < w''.heap.size) → K (a'.put o.dst v) w'') → o.wp P a' w' K NoQ

structure BI (ops : Array Oper) (B : List Nat) (RR : Nat → World → Value → Prop) (ow : Value → Option Nat) (a : Act) (w : World) (listed : Array Bool) (vs : Nat → Value) (a' : Act) (w' : World) : Prop where
  size : listed.size = ops.size
  closed : Closed ops listed
  sub : ∀ i, listed.getD i false = true → i ∈ B
  act : a' = bagPut ops listed vs B a
  below : Below w.heap.size w w'
  rel : ∀ i, listed.getD i false = true → RR i w' (vs i)
  lt : ∀ i, listed.getD i false = true → ∀ b, ow (vs i) = some b → b < w'.heap.size
  dis : ∀ i j, listed.getD i false = true → listed.getD j false = true → i ≠ j → ∀ b, ow (vs i) = some b → ow (vs j) ≠ some b

theorem least {p : Nat → Prop} [DecidablePred p] : ∀ (n : Nat), p n → ∃ m, p m ∧ ∀ k, k < m → ¬ p k := by
  intro n
  induction n using Nat.strongRecOn with
  | _ n ih =>
    intro hn
    by_cases h : ∃ k, k < n ∧ p k
    · obtain ⟨k, h1, h2⟩ := h
      exact ih k h1 h2
    · exact ⟨n, hn, fun k hk hp => h ⟨k, hk, hp⟩⟩

theorem count_next {listed : Array Bool} {i : Nat} (hi : i < listed.size) (hn : listed.getD i false = false) : ∀ (l : List Nat), l.Nodup → i ∈ l →
    (l.filter fun j => !listed.getD j false).length = (l.filter fun j => !(listed.setIfInBounds i true).getD j false).length + 1
  | [], _, h => by cases h
  | j :: r, hnd, hm => by
    rw [List.nodup_cons] at hnd
    by_cases e : j = i
    · subst e
      have h1 : (listed.setIfInBounds j true).getD j false = true := by simp [hi]
      rw [List.filter_cons_of_pos (by rw [hn]; rfl), List.filter_cons_of_neg (by rw [h1]; decide), List.length_cons]
      congr 2
      refine List.filter_congr fun k hk => ?_
      rw [getD_set_ne false (fun (e : j = k) => hnd.1 (by rw [e]; exact hk))]
    · have hm' : i ∈ r := by
        rcases List.mem_cons.1 hm with h | h
        · exact absurd h.symm e
        · exact h
      have := count_next hi hn r hnd.2 hm'
      simp only [List.filter_cons, getD_set_ne false (fun h => e h.symm)]
      split <;> simp_all

theorem wpAny_of_bag {B : List Nat} {L : List (Nat × Nat)} {RR : Nat → World → Value → Prop} {ow : Value → Option Nat} {a : Act} {w : World} (hB : bagB ops B L = true) (hroom : roomB ops B a.tmps.size = true)
    (hQ : ∀ c a w (d : Tmp) v, Q (.panic c) (a.put (some d) v) w → Q (.panic c) a w) (hR : ∀ i w w' v, RR i w v → Below w.heap.size w w' → RR i w' v) (hop : ∀ i ∈ B, BagStep P ops B RR ow a w i)
    (hend : ∀ vs w', Below w.heap.size w w' → (∀ i ∈ B, RR i w' (vs i)) → (∀ i ∈ B, ∀ j ∈ B, i ≠ j → ∀ b, ow (vs i) = some b → ow (vs j) ≠ some b) → ((∃ x ∈ L, x.2 = 0) → S w') ∧ wpText P ops Q S L (bagPut ops (Array.replicate ops.size true) vs B a) w') :
    ∀ (n : Nat) (listed : Array Bool) (vs : Nat → Value) (a' : Act) (w' : World), (B.filter fun j => !listed.getD j false).length + L.length = n → BI ops B RR ow a w listed vs a' w' → wpAny P .any ops Q n listed a' w' := by
  simp only [bagB, Bool.and_eq_true, decide_eq_true_eq] at hB
  obtain ⟨⟨⟨⟨⟨⟨⟨b1, b2⟩, b3⟩, b4⟩, b5⟩, b6⟩, b7⟩, b8⟩ := hB
  have inB : ∀ i ∈ B, i < ops.size ∧ (∃ o, ops[i]? = some o ∧ o.guard = none) ∧ ∀ p ∈ preds ops i, p < i ∧ p ∈ B := fun i hi => by
    have := List.all_eq_true.1 b7 i hi
    simp only [Bool.and_eq_true, decide_eq_true_eq, List.all_eq_true] at this
    obtain ⟨h1, h2, h3⟩ := this
    refine ⟨h1, ?_, fun p hp => ?_⟩
    · cases ho : ops[i]? with
      | none => rw [ho] at h2; cases h2
      | some o => rw [ho] at h2; exact ⟨o, rfl, Option.isNone_iff_eq_none.1 h2⟩
    · have := h3 p hp
      exact ⟨this.1, by simpa using this.2⟩
  have dis : ∀ x ∈ B, ∀ y ∈ B, x ≠ y → ∀ e, dstOf ops x = some e → dstOf ops y ≠ some e := fun x hx y hy hne e he => by
    have := List.all_eq_true.1 (List.all_eq_true.1 b8 x hx) y hy
    rw [he] at this
    simpa [hne] using this
  have inL : ∀ x ∈ L, x.1 < ops.size ∧ (∀ p ∈ preds ops x.1, p < ops.size ∧ p ≠ x.1) ∧ (∀ b ∈ B, b ∈ (tbl ops ops.size).getD x.1 []) ∧ x.1 ∉ B := fun x hx => by
    have := List.all_eq_true.1 b3 x hx
    simp only [Bool.and_eq_true, decide_eq_true_eq, List.all_eq_true, Bool.not_eq_true'] at this
    obtain ⟨h1, h2, h3, h4⟩ := this
    refine ⟨h1, fun p hp => ?_, fun b hb => by simpa using h3 b hb, fun h => by rw [List.contains_iff_mem.2 h] at h4; cases h4⟩
    have := h2 p hp
    exact ⟨this.1, by simpa using this.2⟩
  intro n
  induction n with
  | zero =>
    intro listed vs a' w' hn bi
    have hL : L = [] := List.eq_nil_of_length_eq_zero (by omega)
    have hall : ∀ i ∈ B, listed.getD i false = true := fun i hi => by
      cases hl : listed.getD i false with
      | true => rfl
      | false =>
        have : i ∈ B.filter fun j => !listed.getD j false := List.mem_filter.2 ⟨hi, by rw [hl]; rfl⟩
        have h0 := List.length_pos_of_mem this
        omega
    subst hL
    obtain ⟨_, h9⟩ := hend vs w' bi.below (fun i hi => bi.rel i (hall i hi)) (fun i hi j hj => bi.dis i j (hall i hi) (hall j hj))
    have e : a' = bagPut ops (Array.replicate ops.size true) vs B a := by
      rw [bi.act]
      exact bagPut_same B a (fun j hj => ⟨by rw [hall j hj]; simp [(inB j hj).1], fun _ => rfl⟩)
    rw [← e] at h9
    refine ⟨?_, by with_unfolding_all exact h9⟩
    cases hrd : Region.ready .any ops listed with
    | nil => rfl
    | cons j js =>
      have hj : j ∈ Region.ready .any ops listed := by rw [hrd]; simp
      obtain ⟨h1, o, ho, _⟩ := mem_ready.1 hj
      have hlt : j < ops.size := (Array.getElem?_eq_some_iff.1 ho).1
      have := List.all_eq_true.1 b2 j (List.mem_range.2 hlt)
      have hjB : j ∈ B := by simpa using this
      rw [getD_true_false (by rw [bi.size]; exact hlt), hall j hjB] at h1
      cases h1
  | succ n ih =>
    intro listed vs a' w' hn bi
    by_cases hdone : ∀ i ∈ B, listed.getD i false = true
    · have hfil : (B.filter fun j => !listed.getD j false) = [] := List.filter_eq_nil_iff.2 (fun i hi => by rw [hdone i hi]; decide)
      rw [hfil, List.length_nil, Nat.zero_add] at hn
      obtain ⟨hS, h9⟩ := hend vs w' bi.below (fun i hi => bi.rel i (hdone i hi)) (fun i hi j hj => bi.dis i j (hdone i hi) (hdone j hj))
      have e : a' = bagPut ops (Array.replicate ops.size true) vs B a := by
        rw [bi.act]
        exact bagPut_same B a (fun j hj => ⟨by rw [hdone j hj]; simp [(inB j hj).1], fun _ => rfl⟩)
      rw [← e] at h9
      refine wpAny_of_text (S := S) (Region.noSelect_spec b1) hQ (n + 1) L listed a' w' hn ⟨bi.size, fun i => ?_, b4, bi.closed, pairsB_spec b6, fun x hx => (inL x hx).2.1⟩ hS h9
      constructor
      · intro hi
        obtain ⟨x, hx, rfl⟩ := List.mem_map.1 hi
        refine ⟨(inL x hx).1, ?_⟩
        cases hl : listed.getD x.1 false with
        | false => rfl
        | true => exact absurd (bi.sub _ hl) (inL x hx).2.2.2
      · rintro ⟨h1, h2⟩
        have := List.all_eq_true.1 b2 i (List.mem_range.2 h1)
        rw [Bool.or_eq_true] at this
        rcases this with h | h
        · have := hdone i (by simpa using h)
          rw [h2] at this; cases this
        · simpa using h
    · have hex : ∃ i, i ∈ B ∧ listed.getD i false = false := by
        apply Classical.byContradiction
        intro hno
        exact hdone fun i hi => by
          cases hl : listed.getD i false with
          | true => rfl
          | false => exact absurd ⟨i, hi, hl⟩ hno
      refine ⟨fun h0 => ?_, fun i hi => ?_⟩
      · exfalso
        obtain ⟨i0, hi0⟩ := hex
        obtain ⟨i, ⟨hiB, hil⟩, hmin⟩ := least (p := fun i => i ∈ B ∧ listed.getD i false = false) i0 hi0
        obtain ⟨hlt, ⟨o, ho, _⟩, hpr⟩ := inB i hiB
        have : i ∈ Region.ready .any ops listed := by
          refine mem_ready.2 ⟨by rw [getD_true_false (by rw [bi.size]; exact hlt)]; exact hil, o, ho, fun e he hb => ?_⟩
          obtain ⟨h1, h2⟩ := hpr _ (mem_preds ho he hb)
          cases hl : listed.getD e.on false with
          | true => rfl
          | false => exact absurd ⟨h2, hl⟩ (hmin _ h1)
        rw [h0] at this
        cases this
      · obtain ⟨h1, oi, hoi, hall⟩ := mem_ready.1 hi
        have hlt : i < ops.size := (Array.getElem?_eq_some_iff.1 hoi).1
        have hil : listed.getD i false = false := by rw [← getD_true_false (by rw [bi.size]; exact hlt)]; exact h1
        have hcl : Closed ops (listed.setIfInBounds i true) := by
          intro j p hp hl
          by_cases e : i = j
          · subst e
            obtain ⟨o', ed, ho', he, hb, rfl⟩ := of_preds hp
            obtain rfl : oi = o' := Option.some.inj (hoi.symm.trans ho')
            exact getD_set_true (hall ed he hb)
          · rw [getD_set_ne false e] at hl
            exact getD_set_true (bi.closed j p hp hl)
        have hset : (listed.setIfInBounds i true).getD i false = true := by simp [bi.size, hlt]
        have hiB : i ∈ B := by
          have := List.all_eq_true.1 b2 i (List.mem_range.2 hlt)
          rw [Bool.or_eq_true] at this
          rcases this with h | h
          · simpa using h
          · exfalso
            obtain ⟨x, hx, hxe⟩ := List.mem_map.1 (show i ∈ L.map (·.1) by simpa using h)
            obtain ⟨i1, hi1, hl1⟩ := hex
            have h2 := (inL x hx).2.2.1 i1 hi1
            rw [hxe] at h2
            have h3 := tbl_sound hcl _ i i1 h2 hset
            have hne : i ≠ i1 := fun e => (inL x hx).2.2.2 (by rw [hxe, e]; exact hi1)
            rw [getD_set_ne false hne, hl1] at h3
            cases h3
        obtain ⟨_, ⟨o, ho, hg⟩, hpr⟩ := inB i hiB
        obtain rfl : oi = o := Option.some.inj (hoi.symm.trans ho)
        show wpOp P ops Q i _ a' w'
        unfold wpOp
        simp only [hoi]
        rw [if_pos (by simp [Region.wanted, hg])]
        refine .inl (wp_of_noQ (hop i hiB oi hoi vs a' w' bi.below (fun t ht => ?_) (fun j hj => ?_) _ (fun v w'' hb hr ho => ?_)))
        · rw [bi.act]
          exact bagPut_old B a (fun j hj => by have := List.all_eq_true.1 ht j hj; simpa using this)
        · have hj' : j ∈ preds ops i := by simpa using hj
          obtain ⟨_, hjB⟩ := hpr j hj'
          have hjl : listed.getD j false = true := by
            obtain ⟨o', ed, ho', he, hb, rfl⟩ := of_preds hj'
            obtain rfl : oi = o' := Option.some.inj (hoi.symm.trans ho')
            exact hall ed he hb
          refine ⟨fun d hd => ?_, bi.rel j hjl⟩
          rw [bi.act]
          refine bagPut_slot hd hjl B a b5 hjB ?_ dis
          have := List.all_eq_true.1 hroom j hjB
          rw [hd] at this
          simpa using this
        · have hdo : oi.dst = dstOf ops i := by simp [dstOf, hoi]
          refine ih _ (fun j => if j = i then v else vs j) _ _ ?_ ⟨by simp [bi.size], hcl, fun j hj => ?_, ?_, ?_, fun j hj => ?_, fun j hj b hb' => ?_, fun j k hj hk hjk b hb' => ?_⟩
          · have := count_next (by rw [bi.size]; exact hlt) hil B b5 hiB
            omega
          · by_cases e : i = j
            · subst e; exact hiB
            · rw [getD_set_ne false e] at hj
              exact bi.sub j hj
          · rw [hdo, bi.act]
            exact bagPut_next (by rw [bi.size]; exact hlt) hil B a b5 hiB dis
          · exact below_thenB bi.below bi.below.size hb
          · by_cases e : j = i
            · subst e; simp only [if_true]; exact hr
            · rw [getD_set_ne false (fun h => e h.symm)] at hj
              simp only [if_neg e]
              exact hR _ _ _ _ (bi.rel j hj) hb
          · by_cases e : j = i
            · simp only [if_pos e] at hb'; exact (ho b hb').2
            · rw [getD_set_ne false (fun h => e h.symm)] at hj
              simp only [if_neg e] at hb'
              exact Nat.lt_of_lt_of_le (bi.lt j hj b hb') hb.size
          · by_cases e : j = i
            · have e2 : ¬ k = i := fun h => hjk (e.trans h.symm)
              rw [getD_set_ne false (fun h => e2 h.symm)] at hk
              simp only [if_pos e] at hb'
              simp only [if_neg e2]
              intro hc
              have := (ho b hb').1
              have := bi.lt k hk b hc
              omega
            · rw [getD_set_ne false (fun h => e h.symm)] at hj
              simp only [if_neg e] at hb'
              by_cases e2 : k = i
              · simp only [if_pos e2]
                intro hc
                have := (ho b hc).1
                have := bi.lt j hj b hb'
                omega
              · rw [getD_set_ne false (fun h => e2 h.symm)] at hk
                simp only [if_neg e2]
                exact bi.dis j k hj hk hjk b hb'

/-- The act behind the whole bag. -/
def putAll (ops : Array Oper) (vs : Nat → Value) : List Nat → Act → Act
  | [], a => a
  | i :: r, a => putAll ops vs r (a.put (dstOf ops i) (vs i))
theorem bagPut_all {n : Nat} {vs : Nat → Value} : ∀ (l : List Nat) (a : Act), (l.all fun i => decide (i < n)) = true → bagPut ops (Array.replicate n true) vs l a = putAll ops vs l a
  | [], _, _ => rfl
  | i :: r, a, h => by
    rw [List.all_cons, Bool.and_eq_true, decide_eq_true_eq] at h
    rw [bagPut, putAll, if_pos (by simp [h.1]), bagPut_all r _ h.2]
/-- A relation on a value that stays. -/
def StayS (R : World → Value → Prop) : Prop := ∀ w w' v, R w v → Below w.heap.size w w' → R w' v
def spec (l : List (World → Value → Prop)) (i : Nat) : World → Value → Prop := l.getD i (fun _ _ => False)
theorem spec_stay {l : List (World → Value → Prop)} (h : ∀ R ∈ l, StayS R) (i : Nat) : StayS (spec l i) := by
  intro w w' v hv hb
  unfold spec at *
  rw [List.getD_eq_getElem?_getD] at *
  cases hi : l[i]? with
  | none => rw [hi] at hv; exact hv.elim
  | some R => rw [hi] at hv; exact h R (List.mem_of_getElem? hi) w w' v hv hb
theorem stayS_const (x : Value) : StayS (fun _ v => v = x) := fun _ _ _ h _ => h
def mapOf : Value → Option Nat
  | .map (some b) => some b
  | _ => none

/-- THE RULE. -/
theorem wp_region_bag {id : Nat} {a : Act} {w : World} (S : World → Prop) (B : List Nat) (L : List (Nat × Nat)) (RR : Nat → World → Value → Prop) (ow : Value → Option Nat) (hm : P.follows .mixedOrders = true) (hB : bagB ops B L = true) (hlen : B.length + L.length = ops.size) (hroom : roomB ops B a.tmps.size = true)
    (hQ : ∀ c a w (d : Tmp) v, Q (.panic c) (a.put (some d) v) w → Q (.panic c) a w) (hR : ∀ i w w' v, RR i w v → Below w.heap.size w w' → RR i w' v) (hop : ∀ i ∈ B, BagStep P ops B RR ow a w.drew i)
    (hend : ∀ vs w', Below w.heap.size w w' → (∀ i ∈ B, RR i w' (vs i)) → (∀ i ∈ B, ∀ j ∈ B, i ≠ j → ∀ b, ow (vs i) = some b → ow (vs j) ≠ some b) → ((∃ x ∈ L, x.2 = 0) → S w') ∧ wpText P ops Q S L (putAll ops vs B a) w') : (Code.region id ops true).wp P Q a w := by
  refine wp_region_any hm ?_
  have hlt : (B.all fun i => decide (i < ops.size)) = true := List.all_eq_true.2 fun i hi => by
    have h9 := hB
    simp only [bagB, Bool.and_eq_true] at h9
    have := List.all_eq_true.1 h9.1.2 i hi
    simp only [Bool.and_eq_true] at this
    exact this.1
  have hf : ∀ i, (Array.replicate ops.size false).getD i false = false := fun i => getD_replicate_false _ _
  refine wpAny_of_bag (L := L) (S := S) (RR := RR) (ow := ow) (a := a) (w := w.drew) hB hroom hQ hR hop (fun vs w' hb hr hd => by rw [bagPut_all B a hlt]; exact hend vs w' (below_thenB (Below.refl w.heap.size w).drew (Nat.le_refl _) hb) hr hd) ops.size _ (fun _ => undef) a w.drew ?_ ⟨by simp, fun j p hp hl => ?_, fun i hi => ?_, ?_, Below.refl _ _, fun i hi => ?_, fun i hi => ?_, fun i j hi => ?_⟩
  · rw [List.filter_eq_self.2 (fun i _ => by rw [hf]; rfl)]
    exact hlen
  · rw [hf] at hl; cases hl
  · rw [hf] at hi; cases hi
  · have : ∀ (l : List Nat) (a : Act), bagPut ops (Array.replicate ops.size false) (fun _ => undef) l a = a := by
      intro l
      induction l with
      | nil => intro a; rfl
      | cons j r ih => intro a; rw [bagPut, if_neg (by rw [hf]; decide), ih]
    exact (this B a).symm
  · rw [hf] at hi; cases hi
  · rw [hf] at hi; cases hi
  · rw [hf] at hi; cases hi

section
variable {a' : Act} {w' : World} {o : Oper} {K : Act → World → Prop}
/-- An operation of the bag that yields a value, its run told. -/
theorem bag_run {v : Value} {w'' : World} (hr : (execOp a'.eval o).run P w' = .ok (.value v) w'') (h : K (a'.put o.dst v) w'') : o.wp P a' w' K Q := by
  unfold Oper.wp
  rw [hr]
  exact h
/-- A call of the bag. -/
theorem bag_call {f : FuncId} {args : Array Value} {R : Value → World → Prop} (hr : (execOp a'.eval o).run P w' = .ok (.enter f args) w') (hc : Calls P f args w' (fun e w'' => ∃ v, e = .returned v ∧ R v w'')) (h : ∀ v w'', R v w'' → K (a'.put o.dst v) w'') : o.wp P a' w' K Q := by
  unfold Oper.wp
  rw [hr]
  refine Calls.mono hc ?_
  rintro e w'' ⟨v, rfl, hv⟩
  exact h v w'' hv
end
end Text
end Go.Proofs.YtheijpjfpaghfaaGreatDoor
/- General laws out of texts of chapter 49 (printed by bin/mk47.py). -/
namespace Go.Proofs.YtheijpjfpaghfaaGreatDoor
open Go Go.RowKit Go.ChangeMaps Gf Sha

section
variable {P : Program} (w : World) {ops : Array Oper} {rest : List Oper} {o : Oper} {a : Act} {Q : Exit → Act → World → Prop}
theorem wpList_want (hw : Region.wanted o (yielded ops a.tmps) = true)
    (h : ∀ K : Act → World → Prop, (∀ a w, wpList P ops Q rest a w → K a w) → o.wp P a w K Q) : wpList P ops Q (o :: rest) a w :=
  wpList_step fun K hK => by rw [if_pos hw]; exact h K hK
/-- A guarded load of many cells whose guard holds. -/
theorem wpList_loadvg (hw : Region.wanted o (yielded ops a.tmps) = true) (t : TypeId) (x : Operand) (hop : o.op = .load t x) (n : Nat) (ht : Agg P t n = true) (g p : Nat) (ms : List Value) (hx : a.eval x = .pointer (some ⟨g, p, none⟩))
    (hm : At w g p ms) (hn : ms.length = n) (h : wpList P ops Q rest (a.put o.dst (.agg ms.toArray)) w) : wpList P ops Q (o :: rest) a w :=
  wpList_want w hw fun K hK => by
    unfold Oper.wp execOp
    simp only [hop, hx]
    simp [run_loadAt w ht hm hn, Result.andThen]
    exact hK _ _ h
/-- A variable of one cell. -/
theorem wpList_alloc1 (hg : o.guard = none) (t : TypeId) (hop : o.op = .alloc t) (z : Value) (hz : (P.info? t).map (·.zero) = some (some z)) (hc : z.cells = #[z])
    (h : ∀ w', BL w' w.heap.size t [z] → Below w.heap.size w w' → w'.heap.size = w.heap.size + 1 → wpList P ops Q rest (a.put o.dst (.pointer (some ⟨w.heap.size, 0, none⟩))) w') : wpList P ops Q (o :: rest) a w :=
  wpList_plain hg fun K hK => by
    cases hi : P.info? t with
    | none => simp [hi] at hz
    | some i =>
      have hz' : i.zero = some z := by simpa [hi] using hz
      unfold Oper.wp execOp
      simp only [hop]
      simp [Instr.alloc, zeroValue, typeInfo, hi, hz', newVar, newRow, hc, Result.andThen]
      exact hK _ _ (h _ (BL.new w t [z]) ((Below.refl _ _).alloc (Nat.le_refl _) _) (by simp))
/-- A variable of one cell that holds a value. -/
theorem wpList_box1 (hg : o.guard = none) (t : TypeId) (x : Operand) (hop : o.op = .box t x) (v : Value) (hx : a.eval x = v) (hc : v.cells = #[v])
    (h : ∀ w', BL w' w.heap.size t [v] → Below w.heap.size w w' → w'.heap.size = w.heap.size + 1 → wpList P ops Q rest (a.put o.dst (.pointer (some ⟨w.heap.size, 0, none⟩))) w') : wpList P ops Q (o :: rest) a w :=
  wpList_plain hg fun K hK => by
    unfold Oper.wp execOp
    simp only [hop, hx]
    simp [Instr.box, newVar, newRow, hc, Result.andThen]
    exact hK _ _ (h _ (BL.new w t [v]) ((Below.refl _ _).alloc (Nat.le_refl _) _) (by simp))
theorem wpList_bsliceg (hw : Region.wanted o (yielded ops a.tmps) = true) (t te : TypeId) (n : Nat) (parts : Array (Nat × Operand)) (hop : o.op = .buildSlice t n parts) (ps : Array (Nat × Value)) (hps : (parts.map fun (i, x) => (i, a.eval x)) = ps) (l : List Value)
    (hr : (Instr.buildSlice t n ps).run P w = .ok (.slice (some ⟨w.heap.size, 0, none⟩) n n) (w.alloc (.cells l.toArray te)))
    (h : ∀ w', BL w' w.heap.size te l → Below w.heap.size w w' → w'.heap.size = w.heap.size + 1 → wpList P ops Q rest (a.put o.dst (.slice (some ⟨w.heap.size, 0, none⟩) n n)) w') : wpList P ops Q (o :: rest) a w :=
  wpList_want w hw fun K hK => by
    unfold Oper.wp execOp
    simp only [hop, hps]
    simp [hr, Result.andThen]
    exact hK _ _ (h _ (BL.new w te l) ((Below.refl _ _).alloc (Nat.le_refl _) _) (by simp))
theorem wpList_buildg (hw : Region.wanted o (yielded ops a.tmps) = true) (t : TypeId) (parts : Array (Nat × Operand)) (hop : o.op = .build t parts) (ps : Array (Nat × Value)) (hps : (parts.map fun (i, x) => (i, a.eval x)) = ps) (v : Value) (hr : (Instr.build t ps).run P w = .ok v w)
    (h : wpList P ops Q rest (a.put o.dst v) w) : wpList P ops Q (o :: rest) a w :=
  wpList_want w hw fun K hK => by
    unfold Oper.wp execOp
    simp only [hop, hps]
    simp [hr, Result.andThen]
    exact hK _ _ h
end
theorem Kp.bl {S : Nat → Prop} {w w' : World} {g : Nat} {t : TypeId} {l : List Value} (h : Kp S w w') (hb : BL w g t l) (hn : ¬ S g) : BL w' g t l := (h.block g hb.lt hn).trans hb
theorem sz1 (t : TypeId) (hz : (Tryz.prog.info? t).map (·.size) = some 1) (w : World) : (sizeOf t).run Tryz.prog w = .ok 1 w := by
  cases hi : Tryz.prog.info? t with
  | none => simp [hi] at hz
  | some i =>
    have hz' : i.size = 1 := by simpa [hi] using hz
    simp [sizeOf, typeInfo, hi, hz']
theorem LS.kpn {α : Type} {R : Rdg α} {s b n c : Nat} {w w' : World} {A : Option Addr} {L : List α} {S : Nat → Prop} (h : LS R s b w A n c L) (hR : ∀ cs x, R w cs x → R w' cs x) (hk : Kp S w w') (hn : ∀ a, A = some a → ¬ S a.block) : LS R s b w' A n c L :=
  ⟨h.1, h.2.1, h.2.2.1, fun k hk' => let ⟨g, o, cs, e, h1, h2⟩ := h.2.2.2 k hk'; ⟨g, o, cs, e, fun j v hj => hk.cell (h1 j v hj) (by have := hn _ e; exact this), hR _ _ h2⟩⟩
end Go.Proofs.YtheijpjfpaghfaaGreatDoor
/- wire.Writer. -/
namespace Go.Proofs.YtheijpjfpaghfaaGreatDoor
open Go Go.RowKit Gf Sha

theorem own_kp {w w' : World} {base s n g : Nat} {te : TypeId} {v : Value} {xs : List Value} (h : w.ownsRow base te s v n xs) (hk : Kp (· = g) w w') (hg : g < base) : w'.ownsRow base te s v n xs := by
  refine ⟨h.1, ?_⟩
  rcases h.2 with h9 | ⟨b, c, cur, rfl, h8, h10, h11⟩
  · exact .inl h9
  · refine .inr ⟨b, c, cur, rfl, h8, ?_, h11⟩
    have hlt : b < w.heap.size := (Array.getElem?_eq_some_iff.1 h10).1
    rw [hk.block b hlt (by omega)]; exact h10
theorem own_kept {w w' : World} {base s n : Nat} {te : TypeId} {v : Value} {xs : List Value} (h : w.ownsRow base te s v n xs) (hb : Below w.heap.size w w') : w'.ownsRow base te s v n xs := by
  refine ⟨h.1, ?_⟩
  rcases h.2 with h9 | ⟨b, c, cur, rfl, h8, h10, h11⟩
  · exact .inl h9
  · refine .inr ⟨b, c, cur, rfl, h8, ?_, h11⟩
    have hlt : b < w.heap.size := (Array.getElem?_eq_some_iff.1 h10).1
    rw [hb.block b hlt]; exact h10
theorem own_ge {w : World} {base s n : Nat} {te : TypeId} {v : Value} {xs : List Value} (h : w.ownsRow base te s v n xs) : ∀ k, v.ownBlock = some k → base ≤ k := fun k e => by
  rcases h.2 with ⟨rfl, _⟩ | ⟨b, c, cur, rfl, h8, _⟩
  · cases e
  · cases e; exact h8
theorem own_frm {w : World} {base s n : Nat} {te : TypeId} {v : Value} {xs : List Value} (h : w.ownsRow base te s v n xs) (hn : 0 < n) : ∃ b c, v = .slice (some ⟨b, 0, none⟩) n c := by
  rcases h.2 with ⟨_, h0⟩ | ⟨b, c, cur, rfl, _⟩
  · omega
  · exact ⟨b, c, rfl⟩
theorem below_kp {w w1 w2 : World} {g : Nat} (h : Below (g + 1) w w1) (hg : g < w1.heap.size) (hk : Kp (· = g) w1 w2) : Below g w w2 :=
  (h.mono (Nat.le_succ g)).trans (hk.below (Nat.le_of_lt hg) (fun k e => by omega))
/-- A writer without an error, and its bytes. -/
def WrOk (w : World) (g : Nat) (l : List UInt8) : Prop := ∃ (v : Value) (n : Nat), BL w g 144 [v, .int .i64 0] ∧ w.ownsRow (g + 1) 5 1 v n (l.map B) ∧ l.length = n ∧ v.cells = #[v] ∧ v.oneCell' = true
theorem BL.belowB {w w' : World} {g b : Nat} {t : TypeId} {l : List Value} (h : BL w g t l) (hg : g < b) (hb : Below b w w') : BL w' g t l := (hb.block g hg).trans h
theorem WrOk.kept {w w' : World} {g : Nat} {l : List UInt8} (h : WrOk w g l) (hb : Below w.heap.size w w') : WrOk w' g l := by
  obtain ⟨v, n, h1, h2, h3, h4, h5⟩ := h
  exact ⟨v, n, h1.kept hb, own_kept h2 hb, h3, h4, h5⟩
theorem WrOk.lt {w : World} {g : Nat} {l : List UInt8} (h : WrOk w g l) : g < w.heap.size := let ⟨_, _, h1, _⟩ := h; h1.lt
theorem bldWr (w : World) : (Instr.build 144 #[]).run Tryz.prog w = .ok (.agg [.slice none 0 0, .int .i64 0].toArray) w := by kernel_rfl
set_option maxHeartbeats 400000 in
theorem newWriter_any (w : World) : Calls Tryz.prog 44 #[] w fun e w' => e = .returned (.pointer (some ⟨w.heap.size, 0, none⟩)) ∧ WrOk w' w.heap.size [] ∧ Below w.heap.size w w' := by
  go_enter Tryz.func44, Tryz.ntmps44
  go_wp2_with (first
    | ((with_reducible show wpList _ _ _ (⟨some 1, _, _, _, _, _⟩ :: _) _ _); refine wpList_build _ rfl 144 #[] rfl #[] (by rfl) (.agg [.slice none 0 0, .int .i64 0].toArray) (bldWr _) ?_)
    | ((with_reducible show wpList _ _ _ (⟨some 2, _, _, _, _, _⟩ :: _) _ _); refine wpList_box _ rfl 144 (.tmp 1) rfl [.slice none 0 0, .int .i64 0] rfl ?_; intro w1 y1 y2 y3; have HG1 := Lib.hid y1; have HB1 := Lib.hid y2; clear y1 y2 y3))
  go_ret
  exact ⟨rfl, ⟨_, 0, HG1.out, ⟨rfl, .inl ⟨rfl, rfl⟩⟩, rfl, rfl, rfl⟩, HB1.out⟩
set_option maxHeartbeats 1000000 in
theorem wuint_any (w : World) (g n : Nat) (l : List UInt8) (h : WrOk w g l) (hl : l.length ≤ 1000000) (hn : n < 9223372036854775808) :
    Calls Tryz.prog 79 #[.pointer (some ⟨g, 0, none⟩), .int .u64 (n : Int)] w fun e w' => e = .returned (.tuple #[]) ∧ WrOk w' g (l ++ uv n) ∧ Below g w w' := by
  obtain ⟨v, m, h1, h2, h3, h4, h5⟩ := h
  have HV := Lib.hid h1
  have HO := Lib.hid h2
  have HN := Lib.hid hn
  have HM : Hid (m ≤ 10000000) := Lib.hid (by omega)
  have HG := Lib.hid h1.lt
  have q0 := h1.get (j := 0) rfl
  have q1 := h1.get (j := 1) rfl
  clear h1 h2 h3 h4 h5 hn hl
  go_enter Tryz.func79, Tryz.ntmps79
  go_wp2_with (first
    | (go_at_call 86; refine (extend_any (g + 1) m n v l w HO.out HG.out HM.out HN.out).mono ?_; rintro e w1 ⟨v1, g1, n1, c1, rfl, rfl, r1, r2, r3, r4⟩; have HV1 := Lib.hid (HV.out.belowB (Nat.lt_succ_self g) r3); have HO1 := Lib.hid r2; have HB1 := Lib.hid r3; have HL1 := Lib.hid r1; clear r1 r2 r3 r4)
    | ((with_reducible show wpList _ _ _ (⟨none, _, _, _, _, _⟩ :: _) _ _); refine wpList_store1 _ rfl 22 (.tmp 17) (.tmp 15) rfl (sz1 _ (by kernel_rfl) _) g 0 _ _ (.slice (some ⟨g1, 0, none⟩) n1 c1) rfl rfl HV1.out rfl rfl (by simp) ?_; intro w2 y1 y2 y3; have HV2 := Lib.hid y1; have HK2 := Lib.hid y2; clear y1 y2 y3))
  go_end0
  exact ⟨rfl, ⟨_, n1, HV2.out, own_kp HO1.out HK2.out (Nat.lt_succ_self g), HL1.out, rfl, rfl⟩, below_kp HB1.out HV1.out.lt HK2.out⟩
set_option maxHeartbeats 1000000 in
theorem wcount_any (w : World) (g n : Nat) (l : List UInt8) (h : WrOk w g l) (hl : l.length ≤ 1000000) (hn : n < 9223372036854775808) :
    Calls Tryz.prog 46 #[.pointer (some ⟨g, 0, none⟩), .int .i64 (n : Int)] w fun e w' => e = .returned (.tuple #[]) ∧ WrOk w' g (l ++ uv n) ∧ Below g w w' := by
  have H := Lib.hid h
  have HN := Lib.hid hn
  have HL := Lib.hid hl
  obtain ⟨v, m, h1, _⟩ := h
  have q1 := h1.get (j := 1) rfl
  have f1 : decide ((n : Int) < 0) = false := decide_eq_false (by omega)
  have f2 : IntKind.u64.wrap (n : Int) = (n : Int) := by show (n : Int) % 18446744073709551616 = _; omega
  clear h1 hn hl
  go_enter Tryz.func46, Tryz.ntmps46
  go_wp2_with (first
    | (go_at_call 79; refine (wuint_any w g n l H.out HL.out HN.out).mono ?_; rintro e w1 ⟨rfl, r1, r2⟩; have HW1 := Lib.hid r1; have HB1 := Lib.hid r2; clear r1 r2))
  go_end0
  exact ⟨rfl, HW1.out, HB1.out⟩
set_option maxHeartbeats 1000000 in
theorem wsum_any (w : World) (g : Nat) (l s : List UInt8) (h : WrOk w g l) (hl : l.length ≤ 1000000) (hs : s.length = 32) :
    Calls Tryz.prog 47 #[.pointer (some ⟨g, 0, none⟩), .string (strB s)] w fun e w' => e = .returned (.tuple #[]) ∧ WrOk w' g (l ++ s) ∧ Below g w w' := by
  obtain ⟨v, m, h1, h2, h3, h4, h5⟩ := h
  have HV := Lib.hid h1
  have HO := Lib.hid h2
  have HM : Hid (m ≤ 10000000) := Lib.hid (by omega)
  have HLM := Lib.hid h3
  have HS := Lib.hid hs
  have HG := Lib.hid h1.lt
  have q0 := h1.get (j := 0) rfl
  have q1 := h1.get (j := 1) rfl
  have e1 : (strB s).size = 32 := by rw [strB_size]; exact hs
  clear h1 h2 h3 h4 h5 hl hs
  go_enter Tryz.func47, Tryz.ntmps47
  go_wp2_with (first
    | ((with_reducible show wpList _ _ _ (⟨some 21, _, _, _, _, _⟩ :: _) _ _); refine wpList_appS _ rfl (.tmp 19) (.tmp 20) rfl (g + 1) v m l s rfl HO.out rfl (by have := HM.out; have := HS.out; omega) HG.out ?_; intro v1 w1 o1 gr; obtain ⟨b1, c1, ev⟩   := own_frm o1 (by have := HS.out; omega); subst ev; have HO1 := Lib.hid o1; have HV1 : Hid (BL w1 g 144 [v, .int .i64 0]) := Lib.hid (grown_blk gr HV.out (fun e => by have := own_ge HO.out g e; omega)); have HB1 : Hid (Below (g + 1) w w1) := Lib.hid (((Kp.refl (S := fun k => v.ownBlock = some k) w).grown gr (fun k e => .inl e)).below HG.out (fun k e => own_ge HO.out k e)); clear o1 gr)
    | ((with_reducible show wpList _ _ _ (⟨none, _, _, _, _, _⟩ :: _) _ _); refine wpList_store1 _ rfl 22 (.tmp 23) (.tmp 21) rfl (sz1 _ (by kernel_rfl) _) g 0 _ _ (.slice (some ⟨b1, 0, none⟩) (m + s.length) c1) rfl rfl HV1.out rfl rfl (by simp) ?_; intro w2 y1 y2 y3; have HV2 := Lib.hid y1; have HK2 := Lib.hid y2; clear y1 y2 y3))
  go_end0
  exact ⟨rfl, ⟨_, _, HV2.out, own_kp HO1.out HK2.out (Nat.lt_succ_self g), by rw [List.length_append, HLM.out], rfl, rfl⟩, below_kp HB1.out HV1.out.lt HK2.out⟩
theorem bsl0 (w : World) : (Instr.buildSlice 22 0 #[]).run Tryz.prog w = .ok (.slice (some ⟨w.heap.size, 0, none⟩) 0 0) (w.alloc (.cells ([] : List Value).toArray 5)) := by kernel_rfl
set_option maxHeartbeats 1000000 in
theorem wdone_any (w : World) (g : Nat) (l : List UInt8) (h : WrOk w g l) (hl : l.length ≤ 1048576) :
    Calls Tryz.prog 49 #[.pointer (some ⟨g, 0, none⟩)] w fun e w' => ∃ A n c, e = .returned (.tuple #[.slice A n c, .int .i64 0]) ∧ BS w' A n c l ∧ Below w.heap.size w w' := by
  obtain ⟨v, m, h1, h2, h3, _⟩ := h
  have hm : m ≤ 1048576 := by omega
  obtain ⟨A, c, rfl, hbs⟩ := BS.of_own h2 (by unfold lim; omega)
  have HBS := Lib.hid hbs
  have q0 := h1.get (j := 0) rfl
  have q1 := h1.get (j := 1) rfl
  have f1 : decide ((1048576 : Int) < (m : Int)) = false := decide_eq_false (by omega)
  clear h1 h2 h3 hbs hl
  go_enter Tryz.func49, Tryz.ntmps49
  go_wp2_with (first
    | ((with_reducible show wpList _ _ _ (⟨some 19, _, _, _, _, _⟩ :: _) _ _); refine wpList_bslice _ rfl 22 5 0 _ rfl #[] (by rw [List.map_toArray]; rfl) [] (bsl0 _) ?_; intro w1 y1 y2 y3; have HG1 := Lib.hid y1; have HB1 := Lib.hid y2; have q0 := cell_kept y2 q0; clear y1 y2 y3)
    | ((with_reducible show wpList _ _ _ (⟨some 24, _, _, _, _, _⟩ :: _) _ _); refine wpList_appB _ rfl (.tmp 19) (.tmp 23) rfl w.heap.size _ 0 [] rfl (BL.own HG1.out (Nat.le_refl _) rfl (by decide)) A m c l rfl (HBS.out.kept HB1.out) (by omega) HB1.out.size ?_; intro v2 w2 hp; have HP := Lib.hid hp; clear hp))
  have hown := HP.out.own
  rw [Nat.zero_add, List.nil_append] at hown
  obtain ⟨A2, c2, rfl, hb2⟩ := BS.of_own hown (by unfold lim; omega)
  have HB2 := Lib.hid hb2
  go_ret2
  exact ⟨A2, m, c2, rfl, HB2.out, HP.out.below (BL.own HG1.out (Nat.le_refl _) rfl (by decide)) HB1.out (Nat.le_refl _) HB1.out.size⟩
end Go.Proofs.YtheijpjfpaghfaaGreatDoor
