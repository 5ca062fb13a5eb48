/- A region that draws its order, whose first operations (the bag) each only add to the world, in whatever order: each is told by a relation on its value that stays while nothing old turns. Behind the bag the rest is walked as a text. For any program. -/
import Derived.Test.YtfcakjpljjnjnaaGreatDoorC4
import Derived.Test.YtfcakjpljjnjnaaGreatDoorC2
namespace Go.Proofs.YtfcakjpljjnjnaaGreatDoor
open Go Go.RowKit

namespace Text
variable {P : Program} {ops : Array Oper} {Q : Exit → Act → World → Prop} {S : World → Prop}

def dstOf (ops : Array Oper) (i : Nat) : Option Tmp := (ops[i]?).bind (·.dst)
/-- The act in which those of the bag that have come up have written. -/
def bagPut (ops : Array Oper) (listed : Array Bool) (vs : Nat → Value) : List Nat → Act → Act
 | [], a => a
 | i :: r, a => bagPut ops listed vs r (if listed.getD i false = true then a.put (dstOf ops i) (vs i) else a)
def bagB (ops : Array Oper) (B : List Nat) (L : List (Nat × Nat)) : Bool :=
 Region.noSelect ops && (List.range ops.size).all (fun i => B.contains i || (L.map (·.1)).contains i) &&
  L.all (fun x => decide (x.1 < ops.size) && ((preds ops x.1).all (fun p => decide (p < ops.size) && p != x.1) && (B.all (fun b => ((tbl ops ops.size).getD x.1 []).contains b) && !B.contains x.1))) &&
  decide (L.map (·.1)).Nodup && decide B.Nodup && pairsB ops (tbl ops ops.size) L &&
  B.all (fun i => decide (i < ops.size) && ((match ops[i]? with | some o => o.guard.isNone | none => false) && (preds ops i).all (fun p => decide (p < i) && B.contains p))) &&
  B.all (fun i => B.all fun j => i == j || (match dstOf ops i with | some d => dstOf ops j != some d | none => true))
def roomB (ops : Array Oper) (B : List Nat) (n : Nat) : Bool := B.all fun i => match dstOf ops i with | some d => decide (d < n) | none => true

theorem bagPut_put {listed : Array Bool} {vs : Nat → Value} (d : Option Tmp) (v : Value) : ∀ (l : List Nat) (a : Act), (∀ j ∈ l, ∀ e, d = some e → dstOf ops j ≠ some e) → (bagPut ops listed vs l a).put d v = bagPut ops listed vs l (a.put d v)
 | [], _, _ => rfl
 | j :: r, a, h => by
  rw [bagPut, bagPut, bagPut_put d v r _ (fun k hk => h k (by simp [hk]))]
  congr 1
  by_cases hl : listed.getD j false = true
  ·
   rw [if_pos hl, if_pos hl]
   exact (Act.put_comm a v (vs j) (h j (by simp))).symm
  ·
   rw [if_neg hl, if_neg hl]
theorem bagPut_same {listed listed' : Array Bool} {vs vs' : Nat → Value} : ∀ (l : List Nat) (a : Act), (∀ j ∈ l, listed.getD j false = listed'.getD j false ∧ (listed.getD j false = true → vs j = vs' j)) → bagPut ops listed vs l a = bagPut ops listed' vs' l a
 | [], _, _ => rfl
 | j :: r, a, h => by
  rw [bagPut, bagPut, bagPut_same r _ (fun k hk => h k (by simp [hk]))]
  congr 1
  obtain ⟨h1, h2⟩ := h j (by simp)
  by_cases hl : listed.getD j false = true
  ·
   rw [if_pos hl, if_pos (h1 ▸ hl), h2 hl]
  ·
   rw [if_neg hl, if_neg (h1 ▸ hl)]
theorem bagPut_next {listed : Array Bool} {vs : Nat → Value} {i : Nat} {v : Value} (hi : i < listed.size) (hn : listed.getD i false = false) : ∀ (l : List Nat) (a : Act), l.Nodup → i ∈ l → (∀ x ∈ l, ∀ y ∈ l, x ≠ y → ∀ e, dstOf ops x = some e → dstOf ops y ≠ some e) →
  (bagPut ops listed vs l a).put (dstOf ops i) v = bagPut ops (listed.setIfInBounds i true) (fun j => if j = i then v else vs j) l a
 | [], _, _, h, _ => by cases h
 | j :: r, a, hnd, hm, hd => by
  rw [List.nodup_cons] at hnd
  by_cases e : j = i
  ·
   subst e
   have hmn : ∀ k ∈ r, k ≠ j := fun k hk e => hnd.1 (e ▸ hk)
   have h1 : (listed.setIfInBounds j true).getD j false = true := by simp [hi]
   rw [bagPut, bagPut, if_neg (by rw [hn]; decide), if_pos h1, if_pos rfl, bagPut_put _ _ _ _ (fun k hk e he => hd j (by simp) k (by simp [hk]) (fun e => hmn k hk e.symm) e he)]
   exact bagPut_same r _ (fun k hk => ⟨(getD_set_ne false (fun e => hmn k hk e.symm)).symm, fun _ => by rw [if_neg (hmn k hk)]⟩)
  ·
   have hm' : i ∈ r := by
    rcases List.mem_cons.1 hm with h | h
    ·
     exact absurd h.symm e
    ·
     exact h
   rw [bagPut, bagPut, bagPut_next hi hn r _ hnd.2 hm' (fun x hx y hy => hd x (by simp [hx]) y (by simp [hy])), getD_set_ne false (fun h => e h.symm), if_neg e]
theorem put_size (a : Act) (d : Option Tmp) (v : Value) : (a.put d v).tmps.size = a.tmps.size := by
 cases d with
 | none => rfl
 | some d => simp [Act.put]
theorem bagPut_old {listed : Array Bool} {vs : Nat → Value} {t : Tmp} : ∀ (l : List Nat) (a : Act), (∀ j ∈ l, dstOf ops j ≠ some t) → (bagPut ops listed vs l a).tmps.getD t undef = a.tmps.getD t undef
 | [], _, _ => rfl
 | j :: r, a, h => by
  rw [bagPut, bagPut_old r _ (fun k hk => h k (by simp [hk]))]
  by_cases hl : listed.getD j false = true
  ·
   rw [if_pos hl]
   have hj := h j (by simp)
   cases hd : dstOf ops j with
   | none => rfl
   | some d =>
    have hne : d ≠ t := fun e => hj (by rw [hd, e])
    simp [Act.put, Array.getElem?_setIfInBounds_ne hne]
  ·
   rw [if_neg hl]
theorem bagPut_slot {listed : Array Bool} {vs : Nat → Value} {i : Nat} {d : Tmp} (hd : dstOf ops i = some d) (hl : listed.getD i false = true) : ∀ (l : List Nat) (a : Act), l.Nodup → i ∈ l → d < a.tmps.size → (∀ x ∈ l, ∀ y ∈ l, x ≠ y → ∀ e, dstOf ops x = some e → dstOf ops y ≠ some e) →
  (bagPut ops listed vs l a).tmps.getD d undef = vs i
 | [], _, _, h, _, _ => by cases h
 | j :: r, a, hnd, hm, hs, hx => by
  rw [List.nodup_cons] at hnd
  rw [bagPut]
  by_cases e : j = i
  ·
   subst e
   rw [if_pos hl, bagPut_old r _ (fun k hk => hx j (by simp) k (by simp [hk]) (fun e => hnd.1 (e ▸ hk)) d hd), hd]
   simp [Act.put, hs]
  ·
   have hm' : i ∈ r := by
    rcases List.mem_cons.1 hm with h | h
    ·
     exact absurd h.symm e
    ·
     exact h
   refine bagPut_slot hd hl r _ hnd.2 hm' ?_ (fun x hx' y hy => hx x (by simp [hx']) y (by simp [hy]))
   split
   ·
    rw [put_size]; exact hs
   ·
    exact hs

theorem least {p : Nat → Prop} [DecidablePred p] : ∀ (n : Nat), p n → ∃ m, p m ∧ ∀ k, k < m → ¬ p k := by
 intro n
 induction n using Nat.strongRecOn with
 | _ n ih =>
  intro hn
  by_cases h : ∃ k, k < n ∧ p k
  ·
   obtain ⟨k, h1, h2⟩ := h
   exact ih k h1 h2
  ·
   exact ⟨n, hn, fun k hk hp => h ⟨k, hk, hp⟩⟩

theorem count_next {listed : Array Bool} {i : Nat} (hi : i < listed.size) (hn : listed.getD i false = false) : ∀ (l : List Nat), l.Nodup → i ∈ l →
  (l.filter fun j => !listed.getD j false).length = (l.filter fun j => !(listed.setIfInBounds i true).getD j false).length + 1
 | [], _, h => by cases h
 | j :: r, hnd, hm => by
  rw [List.nodup_cons] at hnd
  by_cases e : j = i
  ·
   subst e
   have h1 : (listed.setIfInBounds j true).getD j false = true := by simp [hi]
   rw [List.filter_cons_of_pos (by rw [hn]; rfl), List.filter_cons_of_neg (by rw [h1]; decide), List.length_cons]
   congr 2
   refine List.filter_congr fun k hk => ?_
   rw [getD_set_ne false (fun (e : j = k) => hnd.1 (by rw [e]; exact hk))]
  ·
   have hm' : i ∈ r := by
    rcases List.mem_cons.1 hm with h | h
    ·
     exact absurd h.symm e
    ·
     exact h
   have := count_next hi hn r hnd.2 hm'
   simp only [List.filter_cons, getD_set_ne false (fun h => e h.symm)]
   split <;> simp_all

/-- The act behind the whole bag. -/
def putAll (ops : Array Oper) (vs : Nat → Value) : List Nat → Act → Act
 | [], a => a
 | i :: r, a => putAll ops vs r (a.put (dstOf ops i) (vs i))
theorem bagPut_all {n : Nat} {vs : Nat → Value} : ∀ (l : List Nat) (a : Act), (l.all fun i => decide (i < n)) = true → bagPut ops (Array.replicate n true) vs l a = putAll ops vs l a
 | [], _, _ => rfl
 | i :: r, a, h => by
  rw [List.all_cons, Bool.and_eq_true, decide_eq_true_eq] at h
  rw [bagPut, putAll, if_pos (by simp [h.1]), bagPut_all r _ h.2]
/-- A relation on a value that stays. -/
def StayS (R : World → Value → Prop) : Prop := ∀ w w' v, R w v → Below w.heap.size w w' → R w' v
def spec (l : List (World → Value → Prop)) (i : Nat) : World → Value → Prop := l.getD i (fun _ _ => False)
theorem spec_stay {l : List (World → Value → Prop)} (h : ∀ R ∈ l, StayS R) (i : Nat) : StayS (spec l i) := by
 intro w w' v hv hb
 unfold spec at *
 rw [List.getD_eq_getElem?_getD] at *
 cases hi : l[i]? with
 | none => rw [hi] at hv; exact hv.elim
 | some R => rw [hi] at hv; exact h R (List.mem_of_getElem? hi) w w' v hv hb
theorem stayS_const (x : Value) : StayS (fun _ v => v = x) := fun _ _ _ h _ => h
section
variable {a' : Act} {w' : World} {o : Oper} {K : Act → World → Prop}
/-- An operation of the bag that yields a value, its run told. -/
theorem bag_run {v : Value} {w'' : World} (hr : (execOp a'.eval o).run P w' = .ok (.value v) w'') (h : K (a'.put o.dst v) w'') : o.wp P a' w' K Q := by
 unfold Oper.wp
 rw [hr]
 exact h
/-- A call of the bag. -/
theorem bag_call {f : FuncId} {args : Array Value} {R : Value → World → Prop} (hr : (execOp a'.eval o).run P w' = .ok (.enter f args) w') (hc : Calls P f args w' (fun e w'' => ∃ v, e = .returned v ∧ R v w'')) (h : ∀ v w'', R v w'' → K (a'.put o.dst v) w'') : o.wp P a' w' K Q := by
 unfold Oper.wp
 rw [hr]
 refine Calls.mono hc ?_
 rintro e w'' ⟨v, rfl, hv⟩
 exact h v w'' hv
end
end Text
end Go.Proofs.YtfcakjpljjnjnaaGreatDoor
