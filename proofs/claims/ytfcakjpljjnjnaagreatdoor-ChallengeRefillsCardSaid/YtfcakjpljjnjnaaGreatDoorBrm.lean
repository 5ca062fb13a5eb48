/- A region that draws its order and all of whose operations stand in a bag: by an invariant over what has come up. One allocation may be stored into once. For any program. -/
import Derived.Test.YtfcakjpljjnjnaaGreatDoorFreem
namespace Go.Proofs.YtfcakjpljjnjnaaGreatDoor
open Go Go.RowKit

namespace Text
variable {P : Program} {ops : Array Oper} {Q : Exit → Act → World → Prop}

/-- What step i of a bag with an invariant of its own owes. -/
def StepJ (P : Program) (ops : Array Oper) (B : List Nat) (J : (Nat → Bool) → (Nat → Value) → World → Prop) (a : Act) (i : Nat) : Prop :=
 ∀ (o : Oper), ops[i]? = some o → ∀ (f : Nat → Bool) (vs : Nat → Value) (a' : Act) (w' : World), J f vs w' → f i = false → (∀ j p, (preds ops j).contains p = true → f j = true → f p = true) → (∀ p, (preds ops i).contains p = true → f p = true) →
  (∀ t, (B.all fun j => dstOf ops j != some t) = true → a'.tmps.getD t undef = a.tmps.getD t undef) → (∀ j, (preds ops i).contains j = true → ∀ d, dstOf ops j = some d → a'.tmps.getD d undef = vs j) →
  ∀ K : Act → World → Prop, (∀ v w'', J (fun j => if j = i then true else f j) (fun j => if j = i then v else vs j) w'' → K (a'.put o.dst v) w'') → o.wp P a' w' K NoQ
structure BJ (ops : Array Oper) (B : List Nat) (J : (Nat → Bool) → (Nat → Value) → World → Prop) (a : Act) (listed : Array Bool) (vs : Nat → Value) (a' : Act) (w' : World) : Prop where
 size : listed.size = ops.size
 closed : Closed ops listed
 sub : ∀ i, listed.getD i false = true → i ∈ B
 act : a' = bagPut ops listed vs B a
 inv : J (fun i => listed.getD i false) vs w'

theorem wpAny_of_bagJ {B : List Nat} {J : (Nat → Bool) → (Nat → Value) → World → Prop} {a : Act} (hB : bagB ops B [] = true) (hroom : roomB ops B a.tmps.size = true) (hop : ∀ i ∈ B, StepJ P ops B J a i)
  (hend : ∀ f vs w', (∀ i ∈ B, f i = true) → J f vs w' → Q .normal (bagPut ops (Array.replicate ops.size true) vs B a) w') :
  ∀ (n : Nat) (listed : Array Bool) (vs : Nat → Value) (a' : Act) (w' : World), (B.filter fun j => !listed.getD j false).length = n → BJ ops B J a listed vs a' w' → wpAny P .any ops Q n listed a' w' := by
 simp only [bagB, Bool.and_eq_true, decide_eq_true_eq] at hB
 obtain ⟨⟨⟨⟨⟨⟨⟨b1, b2⟩, b3⟩, b4⟩, b5⟩, b6⟩, b7⟩, b8⟩ := hB
 have inB : ∀ i ∈ B, i < ops.size ∧ (∃ o, ops[i]? = some o ∧ o.guard = none) ∧ ∀ p ∈ preds ops i, p < i ∧ p ∈ B := fun i hi => by
  have := List.all_eq_true.1 b7 i hi
  simp only [Bool.and_eq_true, decide_eq_true_eq, List.all_eq_true] at this
  obtain ⟨h1, h2, h3⟩ := this
  refine ⟨h1, ?_, fun p hp => ?_⟩
  ·
   cases ho : ops[i]? with
   | none => rw [ho] at h2; cases h2
   | some o => rw [ho] at h2; exact ⟨o, rfl, Option.isNone_iff_eq_none.1 h2⟩
  ·
   have := h3 p hp
   exact ⟨this.1, by simpa using this.2⟩
 have dis : ∀ x ∈ B, ∀ y ∈ B, x ≠ y → ∀ e, dstOf ops x = some e → dstOf ops y ≠ some e := fun x hx y hy hne e he => by
  have := List.all_eq_true.1 (List.all_eq_true.1 b8 x hx) y hy
  rw [he] at this
  simpa [hne] using this
 have allB : ∀ i, i < ops.size → i ∈ B := fun i hi => by
  have := List.all_eq_true.1 b2 i (List.mem_range.2 hi)
  simpa using this
 have fin : ∀ (listed : Array Bool) vs a' w', (∀ i ∈ B, listed.getD i false = true) → BJ ops B J a listed vs a' w' → Q .normal a' w' := fun listed vs a' w' hall bi => by
  have h9 := hend (fun i => listed.getD i false) vs w' hall bi.inv
  have e : a' = bagPut ops (Array.replicate ops.size true) vs B a := by
   rw [bi.act]
   exact bagPut_same B a (fun j hj => ⟨by rw [hall j hj]; simp [(inB j hj).1], fun _ => rfl⟩)
  rw [e]; exact h9
 intro n
 induction n with
 | zero =>
  intro listed vs a' w' hn bi
  have hall : ∀ i ∈ B, listed.getD i false = true := fun i hi => by
   cases hl : listed.getD i false with
   | true => rfl
   | false =>
    have : i ∈ B.filter fun j => !listed.getD j false := List.mem_filter.2 ⟨hi, by rw [hl]; rfl⟩
    have h0 := List.length_pos_of_mem this
    omega
  refine ⟨?_, fin listed vs a' w' hall bi⟩
  cases hrd : Region.ready .any ops listed with
  | nil => rfl
  | cons j js =>
   have hj : j ∈ Region.ready .any ops listed := by rw [hrd]; simp
   obtain ⟨h1, o, ho, _⟩ := mem_ready.1 hj
   have hlt : j < ops.size := (Array.getElem?_eq_some_iff.1 ho).1
   rw [getD_true_false (by rw [bi.size]; exact hlt), hall j (allB j hlt)] at h1
   cases h1
 | succ n ih =>
  intro listed vs a' w' hn bi
  have hex : ∃ i, i ∈ B ∧ listed.getD i false = false := by
   apply Classical.byContradiction
   intro hno
   have h0 : (B.filter fun j => !listed.getD j false) = [] := List.filter_eq_nil_iff.2 (fun i hi => by
    cases hl : listed.getD i false with
    | true => decide
    | false => exact absurd ⟨i, hi, hl⟩ hno)
   rw [h0] at hn; cases hn
  refine ⟨fun h0 => ?_, fun i hi => ?_⟩
  ·
   exfalso
   obtain ⟨i0, hi0⟩ := hex
   obtain ⟨i, ⟨hiB, hil⟩, hmin⟩ := least (p := fun i => i ∈ B ∧ listed.getD i false = false) i0 hi0
   obtain ⟨hlt, ⟨o, ho, _⟩, hpr⟩ := inB i hiB
   have : i ∈ Region.ready .any ops listed := by
    refine mem_ready.2 ⟨by rw [getD_true_false (by rw [bi.size]; exact hlt)]; exact hil, o, ho, fun e he hb => ?_⟩
    obtain ⟨h1, h2⟩ := hpr _ (mem_preds ho he hb)
    cases hl : listed.getD e.on false with
    | true => rfl
    | false => exact absurd ⟨h2, hl⟩ (hmin _ h1)
   rw [h0] at this
   cases this
  ·
   obtain ⟨h1, oi, hoi, hall⟩ := mem_ready.1 hi
   have hlt : i < ops.size := (Array.getElem?_eq_some_iff.1 hoi).1
   have hil : listed.getD i false = false := by rw [← getD_true_false (by rw [bi.size]; exact hlt)]; exact h1
   have hcl : Closed ops (listed.setIfInBounds i true) := by
    intro j p hp hl
    by_cases e : i = j
    ·
     subst e
     obtain ⟨o', ed, ho', he, hb, rfl⟩ := of_preds hp
     obtain rfl : oi = o' := Option.some.inj (hoi.symm.trans ho')
     exact getD_set_true (hall ed he hb)
    ·
     rw [getD_set_ne false e] at hl
     exact getD_set_true (bi.closed j p hp hl)
   have hset : (listed.setIfInBounds i true).getD i false = true := by simp [bi.size, hlt]
   have hiB : i ∈ B := allB i hlt
   obtain ⟨_, ⟨o, ho, hg⟩, hpr⟩ := inB i hiB
   obtain rfl : oi = o := Option.some.inj (hoi.symm.trans ho)
   have hpl : ∀ p, (preds ops i).contains p = true → listed.getD p false = true := fun p hp => by
    have hp' : p ∈ preds ops i := by simpa using hp
    obtain ⟨o', ed, ho', he, hb, rfl⟩ := of_preds hp'
    obtain rfl : oi = o' := Option.some.inj (hoi.symm.trans ho')
    exact hall ed he hb
   show wpOp P ops Q i _ a' w'
   unfold wpOp
   simp only [hoi]
   rw [if_pos (by simp [Region.wanted, hg])]
   refine .inl (wp_of_noQ (hop i hiB oi hoi (fun i => listed.getD i false) vs a' w' bi.inv hil (fun j p hp hl => bi.closed j p (by simpa using hp) hl) hpl (fun t ht => ?_) (fun j hj => ?_) _ (fun v w'' hr => ?_)))
   ·
    rw [bi.act]
    exact bagPut_old B a (fun j hj => by have := List.all_eq_true.1 ht j hj; simpa using this)
   ·
    have hj' : j ∈ preds ops i := by simpa using hj
    obtain ⟨_, hjB⟩ := hpr j hj'
    intro d hd
    rw [bi.act]
    refine bagPut_slot hd (hpl j hj) B a b5 hjB ?_ dis
    have := List.all_eq_true.1 hroom j hjB
    rw [hd] at this
    simpa using this
   ·
    have hdo : oi.dst = dstOf ops i := by simp [dstOf, hoi]
    refine ih _ (fun j => if j = i then v else vs j) _ _ ?_ ⟨by simp [bi.size], hcl, fun j hj => ?_, ?_, ?_⟩
    ·
     have := count_next (by rw [bi.size]; exact hlt) hil B b5 hiB
     omega
    ·
     by_cases e : i = j
     ·
      subst e; exact hiB
     ·
      rw [getD_set_ne false e] at hj
      exact bi.sub j hj
    ·
     rw [hdo, bi.act]
     exact bagPut_next (by rw [bi.size]; exact hlt) hil B a b5 hiB dis
    ·
     have e : (fun j => (listed.setIfInBounds i true).getD j false) = fun j => if j = i then true else listed.getD j false := by
      funext j
      by_cases e : j = i
      ·
       subst e; rw [hset, if_pos rfl]
      ·
       rw [getD_set_ne false (fun h => e h.symm), if_neg e]
     rw [e]; exact hr

theorem wp_region_bagJ {id : Nat} {a : Act} {w : World} (B : List Nat) (J : (Nat → Bool) → (Nat → Value) → World → Prop) (hm : P.follows .mixedOrders = true) (hB : bagB ops B [] = true) (hlen : B.length = ops.size) (hroom : roomB ops B a.tmps.size = true)
  (h0 : J (fun _ => false) (fun _ => undef) w.drew) (hop : ∀ i ∈ B, StepJ P ops B J a i) (hend : ∀ f vs w', (∀ i ∈ B, f i = true) → J f vs w' → Q .normal (putAll ops vs B a) w') : (Code.region id ops true).wp P Q a w := by
 refine wp_region_any hm ?_
 have hlt : (B.all fun i => decide (i < ops.size)) = true := List.all_eq_true.2 fun i hi => by
  have h9 := hB
  simp only [bagB, Bool.and_eq_true] at h9
  have := List.all_eq_true.1 h9.1.2 i hi
  simp only [Bool.and_eq_true] at this
  exact this.1
 have hf : ∀ i, (Array.replicate ops.size false).getD i false = false := fun i => getD_replicate_false _ _
 refine wpAny_of_bagJ (J := J) (a := a) hB hroom hop (fun f vs w' h1 h2 => by rw [bagPut_all B a hlt]; exact hend f vs w' h1 h2) ops.size _ (fun _ => undef) a w.drew ?_ ⟨by simp, fun j p hp hl => ?_, fun i hi => ?_, ?_, ?_⟩
 ·
  rw [List.filter_eq_self.2 (fun i _ => by rw [hf]; rfl)]
  exact hlen
 ·
  rw [hf] at hl; cases hl
 ·
  rw [hf] at hi; cases hi
 ·
  have : ∀ (l : List Nat) (a : Act), bagPut ops (Array.replicate ops.size false) (fun _ => undef) l a = a := by
   intro l
   induction l with
   | nil => intro a; rfl
   | cons j r ih => intro a; rw [bagPut, if_neg (by rw [hf]; decide), ih]
  exact (this B a).symm
 ·
  have e : (fun i => (Array.replicate ops.size false).getD i false) = fun _ => false := funext hf
  rw [e]; exact h0

/-- The invariant of a bag with one allocation (al) that is stored into once (st). -/
def JA (RR : Nat → World → Value → Prop) (al st : Nat) (te : TypeId) (zs : List Value) (D : World → List Value → Prop) (w : World) (f : Nat → Bool) (vs : Nat → Value) (w' : World) : Prop :=
 Below w.heap.size w w' ∧ (∀ i, f i = true → i ≠ al → RR i w' (vs i)) ∧ (f al = true → ∃ g, vs al = .pointer (some ⟨g, 0, none⟩) ∧ w.heap.size ≤ g ∧ (f st = false → BL w' g te zs) ∧ (f st = true → ∃ cs, BL w' g te cs ∧ D w' cs))
/-- What an operation of such a bag owes, its value told by R. -/
def StepA (P : Program) (ops : Array Oper) (B : List Nat) (RR : Nat → World → Value → Prop) (al : Nat) (R : World → World → Value → Prop) (a : Act) (w : World) (i : Nat) : Prop :=
 ∀ (o : Oper), ops[i]? = some o → ∀ (vs : Nat → Value) (a' : Act) (w' : World), Below w.heap.size w w' → (∀ t, (B.all fun j => dstOf ops j != some t) = true → a'.tmps.getD t undef = a.tmps.getD t undef) →
  (∀ j, (preds ops i).contains j = true → (∀ d, dstOf ops j = some d → a'.tmps.getD d undef = vs j) ∧ (j ≠ al → RR j w' (vs j))) → ∀ K : Act → World → Prop, (∀ v w'', Below w'.heap.size w' w'' → R w' w'' v → K (a'.put o.dst v) w'') → o.wp P a' w' K NoQ

theorem wp_region_bagA {id : Nat} {a : Act} {w : World} (B : List Nat) (RR : Nat → World → Value → Prop) (al st : Nat) (te : TypeId) (zs : List Value) (D : World → List Value → Prop) (hm : P.follows .mixedOrders = true) (hB : bagB ops B [] = true) (hlen : B.length = ops.size) (hroom : roomB ops B a.tmps.size = true)
  (hR : ∀ i w w' v, RR i w v → Below w.heap.size w w' → RR i w' v) (hD : ∀ w w' cs, D w cs → Below w.heap.size w w' → D w' cs) (hR2 : ∀ i w w' v g, RR i w v → BL w g te zs → Kp (fun b => b = g) w w' → RR i w' v)
  (hpre : (preds ops st).contains al = true)
  (hop : ∀ i ∈ B, i ≠ al → i ≠ st → StepA P ops B RR al (fun _ w'' v => RR i w'' v) a w.drew i)
  (hal : StepA P ops B RR al (fun w' w'' v => ∃ g, v = .pointer (some ⟨g, 0, none⟩) ∧ w'.heap.size ≤ g ∧ BL w'' g te zs) a w.drew al)
  (hst : ∀ (o : Oper), ops[st]? = some o → ∀ (vs : Nat → Value) (a' : Act) (w' : World) (g : Nat), Below w.heap.size w.drew w' → (∀ j, (preds ops st).contains j = true → (∀ d, dstOf ops j = some d → a'.tmps.getD d undef = vs j) ∧ (j ≠ al → RR j w' (vs j))) → vs al = .pointer (some ⟨g, 0, none⟩) → BL w' g te zs →
   ∀ K : Act → World → Prop, (∀ v w'' cs, Kp (fun b => b = g) w' w'' → RR st w'' v → BL w'' g te cs → D w'' cs → K (a'.put o.dst v) w'') → o.wp P a' w' K NoQ)
  (hend : ∀ vs w' g cs, Below w.heap.size w w' → (∀ i ∈ B, i ≠ al → RR i w' (vs i)) → vs al = .pointer (some ⟨g, 0, none⟩) → w.heap.size ≤ g → BL w' g te cs → D w' cs → Q .normal (putAll ops vs B a) w') (hin : al ∈ B ∧ st ∈ B) (hne : al ≠ st) : (Code.region id ops true).wp P Q a w := by
 have hsz : w.drew.heap.size = w.heap.size := rfl
 refine wp_region_bagJ B (JA RR al st te zs D w.drew) hm hB hlen hroom ⟨Below.refl _ _, fun i hi => by (cases hi), fun hi => by (cases hi)⟩ (fun i hi => ?_) (fun f vs w' hall hj => ?_)
 ·
  intro o ho f vs a' w' hJ hfi hcl hpr hold hnew K hK
  obtain ⟨j1, j2, j3⟩ := hJ
  have hpv : ∀ j, (preds ops i).contains j = true → (∀ d, dstOf ops j = some d → a'.tmps.getD d undef = vs j) ∧ (j ≠ al → RR j w' (vs j)) := fun j hj => ⟨hnew j hj, fun hne => j2 j (hpr j hj) hne⟩
  by_cases e1 : i = al
  ·
   subst e1
   refine hal o ho vs a' w' j1 hold hpv K (fun v w'' hb hr => hK v w'' ⟨below_thenB j1 j1.size hb, fun j hj hja => ?_, fun _ => ?_⟩)
   ·
    have hj2 : (if j = i then true else f j) = true := hj
    rw [if_neg hja] at hj2
    show RR j w'' (if j = i then v else vs j)
    rw [if_neg hja]
    exact hR _ _ _ _ (j2 j hj2 hja) hb
   ·
    obtain ⟨g, hv, hg, hbl⟩ := hr
    have hfs : f st = false := by
     cases hs : f st with
     | false => rfl
     | true => rw [hcl st i hpre hs] at hfi; cases hfi
    refine ⟨g, (if_pos rfl).trans hv, Nat.le_trans j1.size hg, fun _ => hbl, fun hs => ?_⟩
    have hs2 : (if st = i then true else f st) = true := hs
    rw [if_neg (fun e : st = i => hne e.symm), hfs] at hs2; cases hs2
  ·
   by_cases e2 : i = st
   ·
    subst e2
    obtain ⟨g, hv, hg, hz, _⟩ := j3 (hpr al hpre)
    refine hst o ho vs a' w' g j1 hpv hv (hz hfi) K (fun v w'' cs hk hr hbl hd => hK v w'' ⟨?_, fun j hj hja => ?_, fun hj => ?_⟩)
    ·
     exact ((Kp.of_below (S := fun _ => False) j1).after hk (fun x hx e => by subst e; exact absurd hx (by omega))).below (Nat.le_refl _) (fun _ h => h.elim)
    ·
     show RR j w'' (if j = i then v else vs j)
     have hj2 : (if j = i then true else f j) = true := hj
     by_cases e : j = i
     ·
      rw [if_pos e, e]; exact hr
     ·
      rw [if_neg e] at hj2 ⊢
      exact hR2 _ _ _ _ g (j2 j hj2 hja) (hz hfi) hk
    ·
     refine ⟨g, (if_neg (fun e : al = i => e1 e.symm)).trans hv, hg, fun hs => ?_, fun _ => ⟨cs, hbl, hd⟩⟩
     have hs2 : (if i = i then true else f i) = false := hs
     rw [if_pos rfl] at hs2; cases hs2
   ·
    refine hop i hi e1 e2 o ho vs a' w' j1 hold hpv K (fun v w'' hb hr => hK v w'' ⟨below_thenB j1 j1.size hb, fun j hj hja => ?_, fun hj => ?_⟩)
    ·
     show RR j w'' (if j = i then v else vs j)
     have hj2 : (if j = i then true else f j) = true := hj
     by_cases e : j = i
     ·
      rw [if_pos e, e]; exact hr
     ·
      rw [if_neg e] at hj2 ⊢
      exact hR _ _ _ _ (j2 j hj2 hja) hb
    ·
     have e3 : ¬ al = i := fun e => e1 e.symm
     have e4 : ¬ st = i := fun e => e2 e.symm
     have hj2 : (if al = i then true else f al) = true := hj
     rw [if_neg e3] at hj2
     obtain ⟨g, hv, hg, hz, hs⟩ := j3 hj2
     refine ⟨g, (if_neg e3).trans hv, hg, fun h => ?_, fun h => ?_⟩
     ·
      have h2 : (if st = i then true else f st) = false := h
      rw [if_neg e4] at h2; exact (hz h2).kept hb
     ·
      have h3 : (if st = i then true else f st) = true := h
      rw [if_neg e4] at h3
      obtain ⟨cs, h1, h2⟩ := hs h3
      exact ⟨cs, h1.kept hb, hD _ _ _ h2 hb⟩
 ·
  obtain ⟨j1, j2, j3⟩ := hj
  obtain ⟨g, hv, hg, _, hs⟩ := j3 (hall al hin.1)
  obtain ⟨cs, h1, h2⟩ := hs (hall st hin.2)
  exact hend vs w' g cs (below_thenB (Below.refl w.heap.size w).drew (Nat.le_refl _) j1) (fun i hi hne => j2 i (hall i hi) hne) hv hg h1 h2
end Text
end Go.Proofs.YtfcakjpljjnjnaaGreatDoor
